/- Texts of the proof, laid together: SpCompact, SpGenR, PMerge, SpMrgA, SpLen, SpSort, SpMrgB, SpMrgC, SpMrgD, PFin, PCnt, SpDel, PTight, SpVal, SpMap, SpFin, SpCut, SpPath, SpReady, SpArg, SpKeep, SpRight, SpStrs, SpDelR, SpUni, SpCnt, SpCnt2, SpInts. -/
import Derived.KernelRfl
import Derived.Test.YtdjkfcdognndjaaGreatDoorlawFA8
set_option linter.all false
section
/- Leaving out what is alike: printed by program. -/
open Go
set_option linter.unusedSimpArgs false
namespace Go.Am
attribute [-go_sem] PV.cells splice
variable {h : Heap} {K : Post}
theorem CompactFunc_Record (id : Nat) (l : List PV) (hs : shps (some 4) l) (hl : l.length ≤ 100000) (hh : h[id]? = some (.row (some 4) l 0)) {g : Nat} {caps : List AV} {q : PV → PV → Bool} (hq : Alikes g caps q l id h) :
    ACall X f_q05s [.own id l.length 0 l.length,.fn g caps] h K = K (.own id l.length 0 (compactL q l).length) (h.set id (.row (some 4) (compactL q l ++ List.replicate (l.length - (compactL q l).length) (PV.agg [.str [],.int .i64 0,.str [],.sl none []])) 0)) []:=by
  refine rule ?_
  rw [c_q05s]
  have hid:=get_lt hh
  have hst : ∀ o,(h.set id o)[id]? = some o:=fun o=>set_get' hid
  have hb : ¬ h.length ≤ id:=by omega
  have hb2 : max h.length (id + 1) = h.length:=by omega
  have hb3 : id + 1 ≤ h.length:=hid
  have hq0 : ∀ x ∈ l,∀ y ∈ l,∀ K : Post,ACall X g (.p x :: .p y :: caps) h K = K (AB (q x y)) h []:=fun x hx y hy K=>by have:=hq (.row (some 4) l 0) x hx y hy K; rwa [set_self hh] at this
  by_cases h2 : l.length < 2
  · have h2' : (l.length : Int) < 2 := by omega
    have e : compactL q l = l:=by
      cases l with
      | nil=>rfl
      | cons x r=>
        have : r = []:=List.length_eq_zero_iff.1 (by simp only [List.length_cons] at h2; omega)
        subst this; rfl
    simp only [d_q05s,go_sem,h2',e,Nat.sub_self,List.replicate_zero,List.append_nil,hb,hb2,hb3]
    rw [set_self hh]
  have h2' : ¬ (l.length : Int) < 2:=by omega
  simp only [d_q05s,go_sem,h2']
  refine N_loop (fun k : Nat=>⟨[(0,.own id l.length 0 l.length),(1,.fn g caps),(5,AI ((k + 1 : Nat) : Int))],h,[]⟩) (fun k=>k + 1 ≤ l.length ∧ compactL q (l.take (k + 1)) = l.take (k + 1)) (fun k=>l.length - (k + 1)) 0 rfl ⟨by omega,?_⟩ ?_
  · cases l with
    | nil=>rfl
    | cons x r=>rfl
  rintro k ⟨hk,hc⟩
  rcases Nat.lt_or_ge (k + 1) l.length with hlt | hge
  · have hk0 : k < l.length := by omega
    have g1 : l[k + 1]? = some l[k + 1]:=List.getElem?_eq_getElem hlt
    have g2 : l[k]? = some l[k]:=List.getElem?_eq_getElem hk0
    have c1:=shp_cut (shps_get hs hlt)
    have c2:=shp_cut (shps_get hs hk0)
    have w1 : IntKind.i64.wrap (((k + 1 : Nat) : Int) - 1) = (k : Int):=by rw [i64_wrap _ (by omega) (by omega)]; omega
    have w2 : IntKind.i64.wrap (((k + 1 : Nat) : Int) + 1) = ((k + 1 + 1 : Nat) : Int):=i64_wrap _ (by omega) (by omega)
    have hqk:=fun K=>hq0 _ (List.getElem_mem hlt) _ (List.getElem_mem hk0) K
    have hcs:=compactL_take_succ q l k hlt
    cases hqx : q l[k + 1] l[k] with
    | false=>
      rw [hqx] at hcs
      simp only [go_sem,hh,hlt,hk0,g1,g2,c1,c2,w1,w2,hqk,hqx]
      exact ⟨k + 1,rfl,⟨by omega,by rw [hcs,hc,cond_false,List.take_succ_eq_append_getElem hlt]⟩,by omega⟩
    | true=>
      rw [hqx,cond_true,List.append_nil,hc] at hcs
      have hle : k + 1 ≤ l.length:=by omega
      simp only [go_sem,hh,hlt,hk0,hle,g1,g2,c1,c2,w1,hqk,hqx]
      have e0 : k + 1 + (l.length - (k + 1)) = l.length:=by omega
      refine N_loop (fun t : List PV × Nat × Nat=>⟨[(0,.own id l.length 0 l.length),(1,.fn g caps),(5,AI ((t.2.1 : Nat) : Int)),(6,.own id l.length (k + 1) (l.length - (k + 1))),(7,AI ((t.2.2 + 1 : Nat) : Int))],h.set id (.row (some 4) t.1 0),[]⟩)
        (fun t=>t.1.length = l.length ∧ shps (some 4) t.1 ∧ t.2.1 ≤ k + 1 + t.2.2 ∧ k + 1 + t.2.2 < l.length ∧ t.1.take t.2.1 = compactL q (l.take (k + 1 + t.2.2 + 1)) ∧ t.1.drop (k + 1 + t.2.2) = l.drop (k + 1 + t.2.2)) (fun t=>l.length - t.2.2)
        (l,k + 1,0) (by rw [set_self hh]; rfl) ⟨rfl,hs,by simp,by simpa using hlt,by simpa using hcs.symm,rfl⟩ ?_
      rintro ⟨row,i,j⟩ ⟨r1,r2,r3,r4,r5,r6⟩
      dsimp only at r1 r2 r3 r4 r5 r6
      rcases Nat.lt_or_ge (k + 1 + j + 1) l.length with hlt2 | hge2
      · have a1 : row[k + 1 + j + 1]? = some l[k + 1 + j + 1]:=by
          have:=congrArg (·[1]?) r6
          simp only [List.getElem?_drop] at this
          rw [this,List.getElem?_eq_getElem hlt2]
        have a2 : row[k + 1 + j]? = some l[k + 1 + j]:=by
          have:=congrArg (·[0]?) r6
          simp only [List.getElem?_drop,Nat.add_zero] at this
          rw [this,List.getElem?_eq_getElem r4]
        have s1:=shps_get hs hlt2
        have d1:=shp_cut s1
        have d2:=shp_cut (shps_get hs r4)
        have hil : i < l.length:=by omega
        have hir : i < row.length:=by omega
        have g3 : row[i]? = some row[i]:=List.getElem?_eq_getElem hir
        have t1:=fun xs h1=>shp_st s1 (shps_get r2 hir) id i 0 xs h1
        have lx:=shp_len s1
        have sx:=shp_all s1
        simp only [shSize] at lx
        have v1 : IntKind.i64.wrap (((j + 1 : Nat) : Int) - 1) = (j : Int):=by rw [i64_wrap _ (by omega) (by omega)]; omega
        have v2 : IntKind.i64.wrap (((j + 1 : Nat) : Int) + 1) = ((j + 1 + 1 : Nat) : Int):=i64_wrap _ (by omega) (by omega)
        have v3 : IntKind.i64.wrap ((i : Int) + 1) = ((i + 1 : Nat) : Int):=i64_wrap _ (by omega) (by omega)
        have p1 : j + 1 < l.length - (k + 1):=by omega
        have p2 : j < l.length - (k + 1):=by omega
        have p3 : k + 1 + (j + 1) = k + 1 + j + 1:=by omega
        have p4 : k + 1 + (l.length - (k + 1)) ≤ l.length:=by omega
        have hqj:=fun o K=>hq o _ (List.getElem_mem hlt2) _ (List.getElem_mem r4) K
        have hcs2:=compactL_take_succ q l (k + 1 + j) hlt2
        cases hqy : q l[k + 1 + j + 1] l[k + 1 + j] with
        | true=>
          rw [hqy,cond_true,List.append_nil] at hcs2
          simp only [go_sem,hst,r1,p1,p2,p3,p4,e0,a1,a2,d1,d2,v1,v2,hqj,hqy]
          refine ⟨(row,i,j + 1),rfl,⟨r1,r2,by dsimp only; omega,by dsimp only; omega,?_,?_⟩,by dsimp only; omega⟩
          · dsimp only; rw [r5,← hcs2]; rfl
          · dsimp only; rw [show k + 1 + (j + 1) = k + 1 + j + 1 from rfl,← List.drop_drop,r6,List.drop_drop]
        | false=>
          rw [hqy,cond_false] at hcs2
          simp only [go_sem,hst,r1,p1,p2,p3,p4,e0,a1,a2,g3,d1,d2,v1,v2,v3,hil,hqj,hqy,lx,sx,t1]
          refine ⟨(row.set i l[k + 1 + j + 1],i + 1,j + 1),rfl,⟨by simpa using r1,fun x hx=>?_,by dsimp only; omega,by dsimp only; omega,?_,?_⟩,by dsimp only; omega⟩
          · rcases List.mem_or_eq_of_mem_set hx with hx | rfl
            · exact r2 x hx
            · exact s1
          · dsimp only
            rw [show k + 1 + (j + 1) + 1 = k + 1 + j + 1 + 1 from rfl,hcs2,← r5,List.take_succ_eq_append_getElem (by simp; omega)]
            simp [List.take_set_of_le]
          · dsimp only
            rw [List.drop_set_of_lt (by omega),show k + 1 + (j + 1) = k + 1 + j + 1 from rfl,← List.drop_drop,r6,List.drop_drop]
      · have ej : k + 1 + j + 1 = l.length := by omega
        rw [ej,List.take_length] at r5
        have hil : i ≤ l.length:=by omega
        have hm : (compactL q l).length = i:=by rw [← r5]; simp; omega
        have p1 : ¬ (j + 1 < l.length - (k + 1)):=by omega
        have sp : splice row i (List.replicate (l.length - i) (PV.agg [.str [],.int .i64 0,.str [],.sl none []])) = compactL q l ++ List.replicate (l.length - i) (PV.agg [.str [],.int .i64 0,.str [],.sl none []]):=by
          unfold splice
          rw [r5,List.length_replicate,List.drop_of_length_le (by omega),List.append_nil]
        have rl : (compactL q l ++ List.replicate (l.length - i) (PV.agg [.str [],.int .i64 0,.str [],.sl none []])).length = l.length:=by simp only [List.length_append,hm,List.length_replicate]; omega
        rw [hm]
        generalize compactL q l ++ List.replicate (l.length - i) (PV.agg [.str [],.int .i64 0,.str [],.sl none []]) = row' at *
        simp only [go_sem,hst,r1,rl,hil,p1,sp,show i + (l.length - i) = l.length by omega,hb,hb2,hb3]
  · have ek : k + 1 = l.length := by omega
    rw [ek,List.take_length] at hc
    have hge' : ¬ k + 1 < l.length:=by omega
    simp only [go_sem,hge',hc,Nat.sub_self,List.replicate_zero,List.append_nil,hb,hb2,hb3]
    rw [set_self hh]
end Go.Am
end
section
/- What is drawn: records. -/
open Go
set_option linter.unusedSimpArgs false
namespace Go.Am
variable {L : List Int} {a : Int} {h l : Heap} {id : Nat} {K : Post}
theorem close_out {b : Nat} {x : Esc} (hx : ∀ y ∈ x,b ≤ y.1) : ∀ k,close k x b = b:=by
  have hb : bump x b = b:=by
    unfold bump
    induction x with
    | nil=>rfl
    | cons y r ih=>
      simp only [List.foldl_cons]
      rw [if_neg (by have:=hx y (by simp); omega)]
      exact ih (fun z hz=>hx z (by simp [hz]))
  intro k
  induction k with
  | zero=>rfl
  | succ k ih=>unfold close; rw [hb,ih]
theorem trunc_out {b : Nat} {x0 x : Esc} {e : List (Nat × AV)} {h : Heap} (hx : ∀ y ∈ x,b ≤ y.1) : trunc b x0 ⟨e,h,x⟩ = ⟨clean b e,h.take b,x0⟩:=by
  unfold trunc
  simp only [close_out hx]
  have hc : closed x b = true:=by
    unfold closed
    rw [List.all_eq_true]
    intro y hy
    simp [hx y hy]
  have hf : x.filter (fun y=>decide (y.1 < b)) = []:=by
    rw [List.filter_eq_nil_iff]
    intro y hy
    have:=hx y hy
    simp; omega
  rw [if_pos hc,hf,List.nil_append]
theorem trunc_one {b i t : Nat} {x0 : Esc} {e : List (Nat × AV)} {h : Heap} (hi : i < b) : trunc b x0 ⟨e,h,[(i,t)]⟩ = ⟨clean (max b t) e,h.take (max b t),(i,t) :: x0⟩:=by
  unfold trunc
  have hb : close [(i,t)].length [(i,t)] b = max b t:=by simp [close,bump,hi]
  simp only [hb]
  have hc : closed [(i,t)] (max b t) = true:=by simp [closed]; omega
  have hf : [(i,t)].filter (fun y=>decide (y.1 < max b t)) = [(i,t)]:=by simp; omega
  rw [if_pos hc,hf]; rfl
theorem frz3 {o0 o1 o2 : Obj} {sh : Sh} {xs : List PV} {fz k : Nat} : frz [o0,o1,o2,.row sh xs fz] 3 k = [o0,o1,o2,.row sh xs (max fz k)]:=rfl
set_option maxHeartbeats 2000000 in
theorem rec_k5 (hid : id < h.length) (hp : posN 30 a) (rs : List Rec) (hrs : rs.length ≤ 1000) (u s : List UInt8) (hu : u.length ≤ 1000) (hs : s.length ≤ 1000) (t : Int) (ns : List Int) (hns : ns.length ≤ 100) (G : Obj) (v1 v8 v13 v14 : AV) (x : Esc) (hx : ∀ y ∈ x,h.length + 1 ≤ y.1) (K : Ex → St → Prop)
    (hK : ∀ (r' : Rec) (a' : Int) (J : Heap) (x' : Esc),RecOk r' → a ≤ a' → a' ≤ a + 8 → (∀ y ∈ x',h.length + 1 ≤ y.1) →
      K .normal ⟨[(0,.ref id 0),(1,v1),(7,.own h.length (rs.length + 1) 0 (rs.length + 1)),(8,v8),(13,v13),(14,v14)],h.set id (strm L a') ++ .row (some 4) (rs.map Rec.pv ++ [r'.pv]) 0 :: J,x'⟩) :
    d_q04b_k5 (ACall X) X.gl p_q04b_k4 (.ref id 0) v1 (.own h.length rs.length 0 rs.length) v8 (.ref (h.length + 1) 0) v13 v14
      (h.set id (strm L a) ++ [.row (some 4) (rs.map Rec.pv) 0,.box [AS u,AI t,AS s,.own (h.length + 3) ns.length 0 ns.length],G,.row none (ns.map eI) 0]) x K:=by
  have P:=posAll (posN_le hp (Int.le_refl a) (by omega))
  have hmx : rs.length + 1 ≤ maxSl:=by unfold maxSl; omega
  have hmn : ns.length + 1 ≤ maxSl:=by unfold maxSl; omega
  have e1 : h.length + 1 < h.length + 3 + 1:=by omega
  by_cases hf : nextV L a 60 = 0
  · by_cases h0 : nextV L (a + 1) 3 = 0
    · obtain ⟨kv, a3, c1, c2, _, _, O⟩ := g_Odd (L := L) (a := a + 1 + 1 + 1 + 1) (posN_le hp (by omega) (by omega)) 0 50 (by omega) (by omega) (by omega)
      have O':=fun l K=>O.app (h:=h) (id:=id) (l:=l) (K:=K) hid
      have p1:=pickS_mem (l:=[[],[117,49]]) (L:=L) (a:=a + 1 + 1) (by simp) (by simp)
      have p2:=pickS_mem (l:=[[65],[115,49]]) (L:=L) (a:=a + 1 + 1 + 1) (by simp) (by simp)
      simp only [List.mem_cons,List.not_mem_nil,or_false] at p1 p2
      simp only [d_q04b_k5,go_sem,hid,P,hf,h0,↓O',O',hmx,frz3]
      rw [win_full (by simp)]
      exact hK ⟨pickS [[],[117,49]] L (a + 1 + 1),kv,pickS [[65],[115,49]] L (a + 1 + 1 + 1),ns⟩ a3 _ _ ⟨by rcases p1 with p1 | p1 <;> simp [p1],by rcases p2 with p2 | p2 <;> simp [p2],by dsimp only; omega⟩ (by omega) (by omega) hx
    · by_cases h1 : nextV L (a + 1) 3 = 1
      · simp only [d_q04b_k5, go_sem, hid, P, hf, h0, h1, hmx, hmn, escOf, e1, frz3]
        rw [win_full (by simp)]
        have e : List.map eI ns ++ [PV.int .i64 (pickV [0,100001,-100001] L (a + 1 + 1))] = (ns ++ [pickV [0,100001,-100001] L (a + 1 + 1)]).map eI:=by simp
        rw [e]
        refine hK ⟨u,t,s,ns ++ [pickV [0,100001,-100001] L (a + 1 + 1)]⟩ (a + 1 + 1 + 1) _ _ ⟨hu,hs,by simp; omega⟩ (by omega) (by omega) (fun y hy=>?_)
        rcases List.mem_cons.1 hy with rfl | hy
        · exact Nat.le_refl _
        · exact hx y hy
      · obtain ⟨m1, m2⟩ := nextV_bd L (a + 1 + 1) (ns.length + 1) (by omega) (by omega)
        obtain ⟨m,hm⟩:=Int.eq_ofNat_of_zero_le m1
        have w1 : IntKind.i64.wrap ((ns.length : Int) + 1) = (ns.length : Int) + 1:=i64_wrap _ (by omega) (by omega)
        have hml : m ≤ ns.length:=by omega
        simp only [d_q04b_k5,go_sem,hid,P,hf,h0,h1,w1,hm,hml,hmx,escOf,e1,frz3]
        rw [win_map]
        refine hK ⟨u,t,s,win ns 0 m⟩ (a + 1 + 1 + 1) _ _ ⟨hu,hs,by simp [win]; omega⟩ (by omega) (by omega) (fun y hy=>?_)
        rcases List.mem_cons.1 hy with rfl | hy
        · exact Nat.le_refl _
        · exact hx y hy
  · simp only [d_q04b_k5, go_sem, hid, P, hf, hmx, frz3]
    rw [win_full (by simp)]
    exact hK ⟨u,t,s,ns⟩ (a + 1) _ _ ⟨hu,hs,by dsimp only; omega⟩ (by omega) (by omega) hx
attribute [-go_sem] d_q04b_k5
def unRec : PV → Rec
  | .agg [.str u,.int _ t,.str s,.sl _ xs]=>⟨u,t,s,xs.map unI⟩
  | _=>⟨[],0,[],[]⟩
theorem unRec_pv (r : Rec) : unRec r.pv = r:=by
  cases r with | mk u t s ns=>
  have : (ns.map eI).map unI = ns:=by
    rw [List.map_map]
    have : (unI ∘ eI) = id:=by funext n; rfl
    rw [this,List.map_id]
  simp only [Rec.pv,unRec,this]
theorem recs_of {P : Rec → Prop} : ∀ {xs : List PV},(∀ x ∈ xs,∃ r,P r ∧ x = Rec.pv r) → ∃ rs : List Rec,(∀ r ∈ rs,P r) ∧ xs = rs.map Rec.pv
  | [],_=>⟨[],by simp,rfl⟩
  | x :: xs,h=>by
    obtain ⟨r,h1,h2⟩:=h x (by simp)
    obtain ⟨rs,h3,h4⟩:=recs_of (xs:=xs) (fun y hy=>h y (List.mem_cons_of_mem _ hy))
    refine ⟨r :: rs,fun z hz=>?_,by rw [h2,h4]; rfl⟩
    rcases List.mem_cons.1 hz with rfl | hz
    · exact h1
    · exact h3 z hz
theorem s_rec1 (a b : Rec) : ACall X f_q04c [.p a.pv,.p b.pv] h K = K (AI (recCmp a b)) h []:=by
  refine rule ?_
  rw [c_q04c rfl]
  have o:=fun h K=>s_cmpOr (h:=h) (K:=K) [cmp3 a.time b.time,cmpL a.unit b.unit] (by simp)
  simp only [AL,List.map_cons,List.map_nil] at o
  have e : orL [cmp3 a.time b.time,cmpL a.unit b.unit] = recCmp a b:=by
    unfold recCmp orL
    split
    · rfl
    · unfold orL
      split
      · rfl
      · rename_i h; simp only [ne_eq,Decidable.not_not] at h; rw [h]; rfl
  rw [e] at o
  simp only [d_q04c,Rec.pv,go_sem,s_cmpCompare,s_strCompare,o]
def sameAt (a b : Rec) : Bool:=decide (a.time = b.time) && decide (a.unit = b.unit)
theorem s_rec2 (a b : Rec) : ACall X f_q04d [.p a.pv,.p b.pv] h K = K (AB (sameAt a b)) h []:=by
  refine rule ?_
  rw [c_q04d rfl]
  unfold sameAt
  by_cases h1 : a.time = b.time
  · simp only [d_q04d,Rec.pv,go_sem,h1]
  · simp only [d_q04d,Rec.pv,go_sem,h1]
set_option maxHeartbeats 4000000 in
theorem g_Records (hp : posN 4000 a) (l : List Lim) (hl1 : 1 ≤ l.length) (hl2 : l.length ≤ 3) (n : Nat) (hn : n ≤ 19) :
    GenE f_q04b [ALim l,AI n] L a (fun v a2=>a ≤ a2 ∧ a2 ≤ a + 2000 ∧ ∃ rs : List Rec,rs.length ≤ n ∧ (∀ r ∈ rs,RecOk r) ∧ v = ARec rs):=by
  refine GenE.of fun h id hid=>?_
  rw [c_q04b rfl]
  simp only [d_q04b,go_sem,hid]
  refine N_loop (fun t : List Rec × Int × Int=>⟨[(0,.ref id 0),(1,ALim l),(7,.own h.length t.1.length 0 t.1.length),(8,AI t.2.1),(13,AI n),(14,AI t.1.length)],h.set id (strm L t.2.2) ++ [.row (some 4) (t.1.map Rec.pv) 0],[]⟩)
    (fun t=>t.1.length ≤ n ∧ (∀ r ∈ t.1,RecOk r) ∧ a ≤ t.2.2 ∧ t.2.2 ≤ a + 40 * t.1.length) (fun t=>n - t.1.length) ([],0,a) rfl ⟨by simp,by simp,by simp,by simp⟩ ?_
  rintro ⟨rs,t,b⟩ ⟨q1,q2,q3,q4⟩
  dsimp only at q1 q2 q3 q4
  rcases Nat.lt_or_ge rs.length n with hlt | hge
  · have P := posAll (posN_le hp q3 (show b + 14 ≤ a + 4000 by omega))
    have w1 : IntKind.i64.wrap ((rs.length : Int) + 1) = ((rs.length + 1 : Nat) : Int):=i64_wrap _ (by omega) (by omega)
    have p1:=pickS_mem (l:=[[117,49],[117,50],[117,51],[117,52]]) (L:=L) (a:=b + 1) (by simp) (by simp)
    have p2:=pickS_mem (l:=[[115,49],[115,49],[115,50]]) (L:=L) (a:=b + 1 + 1) (by simp) (by simp)
    have pu : (pickS [[117,49],[117,50],[117,51],[117,52]] L (b + 1)).length ≤ 1000:=by
      simp only [List.mem_cons,List.not_mem_nil,or_false] at p1
      rcases p1 with p1 | p1 | p1 | p1 <;> simp [p1]
    have ps : (pickS [[115,49],[115,49],[115,50]] L (b + 1 + 1)).length ≤ 1000:=by
      simp only [List.mem_cons,List.not_mem_nil,or_false] at p2
      rcases p2 with p2 | p2 | p2 <;> simp [p2]
    simp only [go_sem,hid,P,hlt]
    generalize pickS [[117,49],[117,50],[117,51],[117,52]] L (b + 1) = u at *
    generalize pickS [[115,49],[115,49],[115,50]] L (b + 1 + 1) = s at *
    generalize IntKind.i64.wrap (t + pickV [1,1,5,0] L b) = t' at *
    have hb3 : b + 1 + 1 + 1 + 14 ≤ a + 4000:=by omega
    have fin : ∀ (c : Int) (ns : List Int) (G : Obj) (x : Esc),ns.length ≤ 100 → b + 3 ≤ c → c ≤ b + 3 + 9 → (∀ y ∈ x,h.length + 1 ≤ y.1) →
        d_q04b_k5 (ACall X) X.gl p_q04b_k4 (.ref id 0) (ALim l) (.own h.length rs.length 0 rs.length) (AI t') (.ref (h.length + 1) 0) (AI n) (AI rs.length)
          (h.set id (strm L c) ++ [.row (some 4) (rs.map Rec.pv) 0,.box [AS u,AI t',AS s,.own (h.length + 3) ns.length 0 ns.length],G,.row none (ns.map eI) 0]) x
          (blockN 1 (seqN (ACall X) X.gl p_q04b_k6 (scopeK (h.length + 1) [] (loopK
            (fun t : List Rec × Int × Int=>⟨[(0,.ref id 0),(1,ALim l),(7,.own h.length t.1.length 0 t.1.length),(8,AI t.2.1),(13,AI n),(14,AI t.1.length)],h.set id (strm L t.2.2) ++ [.row (some 4) (t.1.map Rec.pv) 0],[]⟩)
            (fun t=>t.1.length ≤ n ∧ (∀ r ∈ t.1,RecOk r) ∧ a ≤ t.2.2 ∧ t.2.2 ≤ a + 40 * t.1.length) (fun t=>n - t.1.length)
            (blockN 0 (seqN (ACall X) X.gl p_q04b_k8 (finR [.t 6] false h.length (fun v1 h1 x1=>∃ a2,(a ≤ a2 ∧ a2 ≤ a + 2000 ∧ ∃ rs : List Rec,rs.length ≤ n ∧ (∀ r ∈ rs,RecOk r) ∧ v1 = ARec rs) ∧ h1 = h.set id (strm L a2) ∧ x1 = [])))) (rs,t,b))))):=by
      intro c ns G x h1 h2 h3 h4
      refine rec_k5 hid (posN_le hp (by omega) (by omega)) rs (by omega) u s pu ps t' ns h1 G (ALim l) (AI t') (AI n) (AI rs.length) x h4 _ (fun r' a' J x' r1 r2 r3 r4=>?_)
      have f1 : id + 1 ≤ h.length + 1:=by omega
      simp only [go_sem,w1,trunc_out r4,f1]
      refine ⟨(rs ++ [r'],t',a'),?_,⟨by simp; omega,fun r hr=>?_,by dsimp only; omega,by simp; omega⟩,by simp; omega⟩
      · simp only [List.length_append,List.length_cons,List.length_nil,List.map_append,List.map_cons,List.map_nil]
      · rcases List.mem_append.1 hr with hr | hr
        · exact q2 r hr
        · rw [List.mem_singleton] at hr; rw [hr]; exact r1
    generalize hc0 : b + 1 + 1 + 1 = c0 at *
    refine N_loop (fun o : Option (List Int × Int × Obj × Esc)=>match o with
        | none=>⟨[(0,.ref id 0),(1,ALim l),(7,.own h.length rs.length 0 rs.length),(8,AI t'),(9,.ref (h.length + 1) 0),(13,AI n),(14,AI rs.length),(29,ALim l),(30,AI l.length),(31,AI 0)],h.set id (strm L c0) ++ [.row (some 4) (rs.map Rec.pv) 0,.box [AS u,AI t',AS s,.sl0 none]],[]⟩
        | some (ns,c,G,x)=>⟨[(0,.ref id 0),(1,ALim l),(7,.own h.length rs.length 0 rs.length),(8,AI t'),(9,.ref (h.length + 1) 0),(13,AI n),(14,AI rs.length),(29,ALim l),(30,AI l.length),(31,AI ns.length)],h.set id (strm L c) ++ [.row (some 4) (rs.map Rec.pv) 0,.box [AS u,AI t',AS s,.own (h.length + 3) ns.length 0 ns.length],G,.row none (ns.map eI) 0],x⟩)
      (fun o=>match o with
        | none=>True
        | some (ns,c,G,x)=>1 ≤ ns.length ∧ ns.length ≤ l.length ∧ c0 ≤ c ∧ c ≤ c0 + 3 * ns.length ∧ ∀ y ∈ x,h.length + 1 ≤ y.1)
      (fun o=>match o with
        | none=>l.length + 1
        | some (ns,c,G,x)=>l.length - ns.length) none rfl trivial ?_
    rintro (_ | ⟨ns,c,G,x⟩) hP
    · have P := posAll (posN_le hp (show a ≤ c0 by omega) (show c0 + 14 ≤ a + 4000 by omega))
      have hl0 : (0 : Int) < l.length:=by omega
      have hg:=map_get Lim.pv (show 0 < l.length by omega)
      have cx : cutP (some 4) 0 (l[0].pv) = some l[0].pv:=rfl
      generalize l[0] = y at *
      have e2 : h.length + 1 < h.length + 2:=by omega
      have e3 : max (h.length + 2) (h.length + 3 + 1) = h.length + 4:=by omega
      have eo : escOf (h.length + 1) (.own (h.length + 3) 1 0 1) = [(h.length + 1,h.length + 3 + 1)]:=by unfold escOf; rw [if_pos (by simp [AV.top]),top_own]
      have e4 : id + 1 ≤ h.length + 4:=by omega
      have e5 : h.length + 1 ≤ h.length + 4:=by omega
      have e6 : h.length + 1 + 1 ≤ h.length + 4:=by omega
      have hmx : 1 ≤ maxSl:=by unfold maxSl; omega
      have hnb : Nat.beq 2 3 = false:=rfl
      have wk : IntKind.i64.wrap 1 = 1:=rfl
      have tr : ∀ (x0 : Esc) (e : List (Nat × AV)) (H : Heap),trunc (h.length + 2) x0 ⟨e,H,[(h.length + 1,h.length + 3 + 1)]⟩ = ⟨clean (h.length + 4) e,H.take (h.length + 4),(h.length + 1,h.length + 3 + 1) :: x0⟩:=fun x0 e H=>by rw [trunc_one e2,e3]
      by_cases hf : nextV L (c0 + 1) 5 = 0
      · obtain ⟨v, hv⟩ : ∃ v, pickV [IntKind.i64.wrap (y.lo - 1), IntKind.i64.wrap (y.hi + 1), IntKind.i64.wrap (y.hi + 7)] L (c0 + 1 + 1) = v := ⟨_, rfl⟩
        by_cases b1 : v < y.lo
        · simp only [go_sem, hid, P, hl0, hg, cx, Lim.pv, hf, eo, hv, b1, hmx, hnb, tr, e4, e5, e6]
          refine fin (c0 + 1 + 1 + 1) [v] _ _ (by simp) (by omega) (by omega) (by simp)
        · by_cases b2 : y.hi < v
          · simp only [go_sem, hid, P, hl0, hg, cx, Lim.pv, hf, eo, hv, b1, b2, hmx, hnb, tr, e4, e5, e6]
            refine fin (c0 + 1 + 1 + 1) [v] _ _ (by simp) (by omega) (by omega) (by simp)
          · simp only [go_sem, hid, P, hl0, hg, cx, Lim.pv, hf, eo, hv, b1, b2, hmx, hnb, tr, e4, e5, e6, wk]
            exact ⟨some ([v],c0 + 1 + 1 + 1,_,_),rfl,⟨by simp,by simpa using hl1,by omega,by simp; omega,by simp⟩,by show l.length - [v].length < l.length + 1; simp only [List.length_cons,List.length_nil]; omega⟩
      · obtain ⟨v, hv⟩ : ∃ v, pickV [y.lo, y.hi, IntKind.i64.wrap ((IntKind.i64.wrap (y.lo + y.hi)).tdiv 2), IntKind.i64.wrap ((IntKind.i64.wrap (y.lo + y.hi)).tdiv 2), IntKind.i64.wrap (y.lo + 1)] L c0 = v := ⟨_, rfl⟩
        by_cases b1 : v < y.lo
        · simp only [go_sem, hid, P, hl0, hg, cx, Lim.pv, hf, eo, hv, b1, hmx, hnb, tr, e4, e5, e6]
          refine fin (c0 + 1 + 1) [v] _ _ (by simp) (by omega) (by omega) (by simp)
        · by_cases b2 : y.hi < v
          · simp only [go_sem, hid, P, hl0, hg, cx, Lim.pv, hf, eo, hv, b1, b2, hmx, hnb, tr, e4, e5, e6]
            refine fin (c0 + 1 + 1) [v] _ _ (by simp) (by omega) (by omega) (by simp)
          · simp only [go_sem, hid, P, hl0, hg, cx, Lim.pv, hf, eo, hv, b1, b2, hmx, hnb, tr, e4, e5, e6, wk]
            exact ⟨some ([v],c0 + 1 + 1,_,_),rfl,⟨by simp,by simpa using hl1,by omega,by simp; omega,by simp⟩,by show l.length - [v].length < l.length + 1; simp only [List.length_cons,List.length_nil]; omega⟩
    · obtain ⟨r1, r2, r3, r4, r5⟩ := hP
      rcases Nat.lt_or_ge ns.length l.length with hlt2 | hge2
      · have P := posAll (posN_le hp (show a ≤ c by omega) (show c + 14 ≤ a + 4000 by omega))
        have hg:=map_get Lim.pv hlt2
        have cx : cutP (some 4) 0 (l[ns.length].pv) = some l[ns.length].pv:=rfl
        generalize l[ns.length] = y at *
        have e2 : h.length + 1 < h.length + 4:=by omega
        have e3 : max (h.length + 4) (h.length + 3 + 1) = h.length + 4:=by omega
        have eo : escOf (h.length + 1) (.own (h.length + 3) (ns.length + 1) 0 (ns.length + 1)) = [(h.length + 1,h.length + 3 + 1)]:=by unfold escOf; rw [if_pos (by simp [AV.top]),top_own]
        have e4 : id + 1 ≤ h.length + 4:=by omega
        have e5 : h.length + 1 ≤ h.length + 4:=by omega
        have e6 : h.length + 1 + 1 ≤ h.length + 4:=by omega
        have e7 : h.length + 3 + 1 ≤ h.length + 4:=by omega
        have e8 : h.length + 4 ≤ h.length + 4:=by omega
        have hmx : ns.length + 1 ≤ maxSl:=by unfold maxSl; omega
        have hnb : Nat.beq 2 3 = false:=rfl
        have wi : IntKind.i64.wrap ((ns.length : Int) + 1) = ((ns.length + 1 : Nat) : Int):=i64_wrap _ (by omega) (by omega)
        have tr : ∀ (x0 : Esc) (e : List (Nat × AV)) (H : Heap),trunc (h.length + 4) x0 ⟨e,H,[(h.length + 1,h.length + 3 + 1)]⟩ = ⟨clean (h.length + 4) e,H.take (h.length + 4),(h.length + 1,h.length + 3 + 1) :: x0⟩:=fun x0 e H=>by rw [trunc_one e2,e3]
        by_cases hf : nextV L (c + 1) 5 = 0
        · obtain ⟨v, hv⟩ : ∃ v, pickV [IntKind.i64.wrap (y.lo - 1), IntKind.i64.wrap (y.hi + 1), IntKind.i64.wrap (y.hi + 7)] L (c + 1 + 1) = v := ⟨_, rfl⟩
          have ev : ns.map eI ++ [PV.int .i64 v] = (ns ++ [v]).map eI:=by simp
          have el : (ns ++ [v]).length = ns.length + 1:=by simp
          have hx2 : ∀ z ∈ (h.length + 1,h.length + 3 + 1) :: x,h.length + 1 ≤ z.1:=fun z hz=>by
            rcases List.mem_cons.1 hz with rfl | hz
            · exact Nat.le_refl _
            · exact r5 z hz
          by_cases b1 : v < y.lo
          · simp only [go_sem, hid, P, hlt2, hg, cx, Lim.pv, hf, eo, hv, b1, hmx, hnb, tr, e4, e5, e6, e7, e8]
            rw [ev,← el]
            exact fin (c + 1 + 1 + 1) (ns ++ [v]) _ _ (by omega) (by omega) (by omega) hx2
          · by_cases b2 : y.hi < v
            · simp only [go_sem, hid, P, hlt2, hg, cx, Lim.pv, hf, eo, hv, b1, b2, hmx, hnb, tr, e4, e5, e6, e7, e8]
              rw [ev,← el]
              exact fin (c + 1 + 1 + 1) (ns ++ [v]) _ _ (by omega) (by omega) (by omega) hx2
            · simp only [go_sem, hid, P, hlt2, hg, cx, Lim.pv, hf, eo, hv, b1, b2, hmx, hnb, tr, e4, e5, e6, e7, e8, wi]
              rw [ev]
              refine ⟨some (ns ++ [v],c + 1 + 1 + 1,G,(h.length + 1,h.length + 3 + 1) :: x),?_,⟨by omega,by omega,by omega,by rw [el]; omega,hx2⟩,by show l.length - (ns ++ [v]).length < l.length - ns.length; omega⟩
              simp only [el]
        · obtain ⟨v, hv⟩ : ∃ v, pickV [y.lo, y.hi, IntKind.i64.wrap ((IntKind.i64.wrap (y.lo + y.hi)).tdiv 2), IntKind.i64.wrap ((IntKind.i64.wrap (y.lo + y.hi)).tdiv 2), IntKind.i64.wrap (y.lo + 1)] L c = v := ⟨_, rfl⟩
          have ev : ns.map eI ++ [PV.int .i64 v] = (ns ++ [v]).map eI:=by simp
          have el : (ns ++ [v]).length = ns.length + 1:=by simp
          have hx2 : ∀ z ∈ (h.length + 1,h.length + 3 + 1) :: x,h.length + 1 ≤ z.1:=fun z hz=>by
            rcases List.mem_cons.1 hz with rfl | hz
            · exact Nat.le_refl _
            · exact r5 z hz
          by_cases b1 : v < y.lo
          · simp only [go_sem, hid, P, hlt2, hg, cx, Lim.pv, hf, eo, hv, b1, hmx, hnb, tr, e4, e5, e6, e7, e8]
            rw [ev,← el]
            exact fin (c + 1 + 1) (ns ++ [v]) _ _ (by omega) (by omega) (by omega) hx2
          · by_cases b2 : y.hi < v
            · simp only [go_sem, hid, P, hlt2, hg, cx, Lim.pv, hf, eo, hv, b1, b2, hmx, hnb, tr, e4, e5, e6, e7, e8]
              rw [ev,← el]
              exact fin (c + 1 + 1) (ns ++ [v]) _ _ (by omega) (by omega) (by omega) hx2
            · simp only [go_sem, hid, P, hlt2, hg, cx, Lim.pv, hf, eo, hv, b1, b2, hmx, hnb, tr, e4, e5, e6, e7, e8, wi]
              rw [ev]
              refine ⟨some (ns ++ [v],c + 1 + 1,G,(h.length + 1,h.length + 3 + 1) :: x),?_,⟨by omega,by omega,by omega,by rw [el]; omega,hx2⟩,by show l.length - (ns ++ [v]).length < l.length - ns.length; omega⟩
              simp only [el]
      · have hb2 : ¬ (ns.length < l.length) := by omega
        have e4 : id + 1 ≤ h.length + 4:=by omega
        have e5 : h.length + 1 ≤ h.length + 4:=by omega
        have e6 : h.length + 1 + 1 ≤ h.length + 4:=by omega
        simp only [go_sem,hb2,e4,e5,e6]
        exact fin c ns G x (by omega) (by omega) (by omega) r5
  · have en : rs.length = n := by omega
    have hb2 : ¬ (rs.length < n):=by omega
    have hh : (h.set id (strm L b) ++ [Obj.row (some 4) (rs.map Rec.pv) 0])[h.length]? = some (.row (some 4) (rs.map Rec.pv) 0):=by rw [List.getElem?_append_right (by simp)]; simp
    have st:=fun K=>stable_api_Record (h:=h.set id (strm L b) ++ [Obj.row (some 4) (rs.map Rec.pv) 0]) (K:=K) h.length (rs.map Rec.pv) rec_shps (by simp; omega) hh (g:=f_q04c) (caps:=[]) (c:=fun x y=>recCmp (unRec x) (unRec y))
      (fun o x hx y hy K=>by
        obtain ⟨p,_,rfl⟩:=List.mem_map.1 hx
        obtain ⟨q,_,rfl⟩:=List.mem_map.1 hy
        dsimp only
        rw [unRec_pv,unRec_pv]
        exact s_rec1 p q)
    have so:=isort_perm (ltC fun x y=>recCmp (unRec x) (unRec y)) (rs.map Rec.pv)
    have hsm : ∀ x ∈ isort (ltC fun x y=>recCmp (unRec x) (unRec y)) (rs.map Rec.pv),∃ r,RecOk r ∧ x = Rec.pv r:=fun x hx=>by
      obtain ⟨r,hr,rfl⟩:=List.mem_map.1 (isort_mem.1 hx)
      exact ⟨r,q2 r hr,rfl⟩
    obtain ⟨ss,s1,s2⟩:=recs_of hsm
    have hsl : ss.length = rs.length:=by have:=congrArg List.length s2; simp [isort_len] at this; omega
    simp only [List.length_map,s2] at st
    have hh2 : (h.set id (strm L b) ++ [Obj.row (some 4) (ss.map Rec.pv) 0])[h.length]? = some (.row (some 4) (ss.map Rec.pv) 0):=by rw [List.getElem?_append_right (by simp)]; simp
    have cp:=fun K=>CompactFunc_Record (h:=h.set id (strm L b) ++ [Obj.row (some 4) (ss.map Rec.pv) 0]) (K:=K) h.length (ss.map Rec.pv) rec_shps (by simp; omega) hh2 (g:=f_q04d) (caps:=[]) (q:=fun x y=>sameAt (unRec x) (unRec y))
      (fun o x hx y hy K=>by
        obtain ⟨p,_,rfl⟩:=List.mem_map.1 hx
        obtain ⟨q,_,rfl⟩:=List.mem_map.1 hy
        dsimp only
        rw [unRec_pv,unRec_pv]
        exact s_rec2 p q)
    have hcm : ∀ x ∈ compactL (fun x y=>sameAt (unRec x) (unRec y)) (ss.map Rec.pv),∃ r,RecOk r ∧ x = Rec.pv r:=fun x hx=>by
      obtain ⟨r,hr,rfl⟩:=List.mem_map.1 (compactL_mem hx)
      exact ⟨r,s1 r hr,rfl⟩
    obtain ⟨cs,c1,c2⟩:=recs_of hcm
    have hcl : cs.length ≤ ss.length:=by
      have h1:=congrArg List.length c2
      have h2:=compactL_len (fun x y=>sameAt (unRec x) (unRec y)) (ss.map Rec.pv)
      simp at h1 h2; omega
    simp only [List.length_map,c2,hsl] at cp
    have e0 : ∀ o,(h.set id (strm L b) ++ [Obj.row (some 4) (rs.map Rec.pv) 0]).set h.length o = h.set id (strm L b) ++ [o]:=fun o=>by rw [List.set_append_right _ _ (by simp)]; simp
    have e1 : ∀ o,(h.set id (strm L b) ++ [Obj.row (some 4) (ss.map Rec.pv) 0]).set h.length o = h.set id (strm L b) ++ [o]:=fun o=>by rw [List.set_append_right _ _ (by simp)]; simp
    simp only [e0] at st
    simp only [e1] at cp
    have rl : (cs.map Rec.pv ++ List.replicate (rs.length - cs.length) (PV.agg [.str [],.int .i64 0,.str [],.sl none []])).length = rs.length:=by simp; omega
    have hw : win (cs.map Rec.pv ++ List.replicate (rs.length - cs.length) (PV.agg [.str [],.int .i64 0,.str [],.sl none []])) 0 cs.length = cs.map Rec.pv:=by simp [win]
    have hcr : cs.length ≤ rs.length:=by omega
    generalize cs.map Rec.pv ++ List.replicate (rs.length - cs.length) (PV.agg [.str [],.int .i64 0,.str [],.sl none []]) = row at *
    simp only [go_sem,hb2,↓st,st,↓cp,cp,rl,hw,hcr]
    exact ⟨b,⟨q3,by omega,cs,by omega,c1,rfl⟩,rfl⟩
end Go.Am
end
section
/- Merging two ordered lists: by sorting and leaving out what is alike,and by looking each one up. Plain lists. -/
namespace Go.Am
variable {α : Type}
structure Ordr (c : α → α → Int) : Prop where
  neg : ∀ a b,c b a = - c a b
  trans : ∀ a b d,c a b ≤ 0 → c b d ≤ 0 → c a d ≤ 0
theorem Ordr.refl {c : α → α → Int} (o : Ordr c) (a : α) : c a a = 0:=by have:=o.neg a a; omega
theorem Ordr.lt_le {c : α → α → Int} (o : Ordr c) {a b d : α} (h1 : c a b < 0) (h2 : c b d ≤ 0) : c a d < 0:=by
  by_cases h : c a d < 0
  · exact h
  · have h3 := o.neg a d
    have h4:=o.trans b d a h2 (by omega)
    have:=o.neg a b
    omega
def ltO (c : α → α → Int) (a b : α) : Bool:=decide (c a b < 0)
theorem Ordr.weak {c : α → α → Int} (o : Ordr c) : Weak (ltO c):=by
  refine ⟨fun a b h=>?_,fun a b d h1 h2=>?_⟩
  · simp only [ltO, decide_eq_true_eq, decide_eq_false_iff_not] at h ⊢
    have:=o.neg a b; omega
  · simp only [ltO, decide_eq_false_iff_not] at h1 h2 ⊢
    have q1:=o.neg a b
    have q2:=o.neg b d
    have q3:=o.trans a b d (by omega) (by omega)
    have q4:=o.neg a d
    omega
def Strict (c : α → α → Int) (l : List α) : Prop:=l.Pairwise fun x y=>c x y < 0
theorem strict_ext {c : α → α → Int} (o : Ordr c) : ∀ {l m : List α},Strict c l → Strict c m → (∀ x,x ∈ l ↔ x ∈ m) → l = m
  | [],[],_,_,_=>rfl
  | [],y :: m,_,_,h=>absurd ((h y).2 (by simp)) (by simp)
  | x :: l,[],_,_,h=>absurd ((h x).1 (by simp)) (by simp)
  | x :: l,y :: m,h1,h2,h=>by
    have a1:=List.pairwise_cons.1 h1
    have a2:=List.pairwise_cons.1 h2
    have e : x = y:=by
      rcases List.mem_cons.1 ((h x).1 (by simp)) with e | e
      · exact e
      · rcases List.mem_cons.1 ((h y).2 (by simp)) with e' | e'
        · exact e'.symm
        · have b1 := a2.1 x e
          have b2:=a1.1 y e'
          have:=o.neg x y
          omega
    subst e
    rw [strict_ext o a1.2 a2.2 fun z=>?_]
    constructor
    · intro hz
      rcases List.mem_cons.1 ((h z).1 (by simp [hz])) with e | e
      · subst e; have:=a1.1 z hz; have:=o.refl z; omega
      · exact e
    · intro hz
      rcases List.mem_cons.1 ((h z).2 (by simp [hz])) with e | e
      · subst e; have:=a2.1 z hz; have:=o.refl z; omega
      · exact e
theorem cmpct_sub (q : α → α → Bool) : ∀ (l : List α) (p : α),(cmpctFrom q p l).Sublist l
  | [],_=>List.Sublist.slnil
  | x :: r,p=>by
    unfold cmpctFrom
    cases q x p with
    | true=>exact (cmpct_sub q r x).cons x
    | false=>exact (cmpct_sub q r x).cons_cons x
theorem compact_sub (q : α → α → Bool) : ∀ l : List α,(compactL q l).Sublist l
  | []=>List.Sublist.slnil
  | x :: r=>(cmpct_sub q r x).cons_cons x
theorem cmpct_all {q : α → α → Bool} (hq : ∀ x y,q x y = true → x = y) : ∀ (l : List α) (p x : α),x ∈ l → x = p ∨ x ∈ cmpctFrom q p l
  | [],_,x,hx=>by simp at hx
  | y :: r,p,x,hx=>by
    unfold cmpctFrom
    cases h : q y p with
    | true=>
      have e:=hq _ _ h
      subst e
      rcases List.mem_cons.1 hx with e | e
      · exact .inl e
      · exact cmpct_all hq r y x e
    | false=>
      rcases List.mem_cons.1 hx with e | e
      · subst e; exact .inr (by simp)
      · rcases cmpct_all hq r y x e with e | e
        · subst e; exact .inr (by simp)
        · exact .inr (by simp [e])
theorem compact_all {q : α → α → Bool} (hq : ∀ x y,q x y = true → x = y) : ∀ {l : List α} {x : α},x ∈ l → x ∈ compactL q l
  | y :: r,x,hx=>by
    rcases List.mem_cons.1 hx with e | e
    · subst e; simp [compactL]
    · rcases cmpct_all hq r y x e with e | e
      · subst e; simp [compactL]
      · simp [compactL,e]
theorem cmpct_adj {q : α → α → Bool} (hq : ∀ x y,q x y = true ↔ x = y) : ∀ (l : List α) (p : α) (i : Nat) (h : i + 1 < (p :: cmpctFrom q p l).length),(p :: cmpctFrom q p l)[i] ≠ (p :: cmpctFrom q p l)[i + 1]
  | [],p,i,h=>by simp [cmpctFrom] at h
  | x :: r,p,i,h=>by
    cases hx : q x p with
    | true=>
      have e:=(hq _ _).1 hx
      subst e
      have e2 : cmpctFrom q x (x :: r) = cmpctFrom q x r:=by rw [cmpctFrom]; rw [hx]; rfl
      simp only [e2] at h ⊢
      exact cmpct_adj hq r x i h
    | false=>
      have e2 : cmpctFrom q p (x :: r) = x :: cmpctFrom q x r:=by rw [cmpctFrom]; rw [hx]; rfl
      simp only [e2] at h ⊢
      cases i with
      | zero=>
        simp only [List.getElem_cons_zero,List.getElem_cons_succ]
        intro e
        rw [(hq _ _).2 e.symm] at hx
        cases hx
      | succ i=>
        simp only [List.getElem_cons_succ]
        exact cmpct_adj hq r x i (by simpa using h)
theorem compact_adj {q : α → α → Bool} (hq : ∀ x y,q x y = true ↔ x = y) : ∀ (l : List α) (i : Nat) (h : i + 1 < (compactL q l).length),(compactL q l)[i] ≠ (compactL q l)[i + 1]
  | [],i,h=>by simp [compactL] at h
  | x :: r,i,h=>cmpct_adj hq r x i h
variable {c : α → α → Int} {q : α → α → Bool} {a b : List α}
theorem adj_strict (o : Ordr c) {l : List α} (hle : l.Pairwise fun x y=>c x y ≤ 0) (hadj : ∀ i (h : i + 1 < l.length),c l[i + 1] l[i] ≠ 0) : Strict c l:=by
  rw [List.pairwise_iff_getElem] at hle
  unfold Strict
  rw [List.pairwise_iff_getElem]
  intro i j hi hj hij
  have h1 : c l[i] l[i + 1] < 0:=by
    have:=hle i (i + 1) hi (by omega) (by omega)
    have h2:=hadj i (by omega)
    have:=o.neg l[i] l[i + 1]
    omega
  rcases Nat.lt_or_ge (i + 1) j with h | h
  · exact o.lt_le h1 (hle (i + 1) j (by omega) hj h)
  · have e : j = i + 1 := by omega
    subst e
    exact h1
theorem strict_isort (o : Ordr c) {l : List α} (hl : l.Pairwise fun x y=>c x y ≠ 0) : Strict c (isort (ltO c) l):=by
  have h1:=isort_sorted o.weak l
  have h2 : (isort (ltO c) l).Pairwise fun x y=>c x y ≠ 0:=((isort_perm (ltO c) l).pairwise_iff (fun {x y} h=>by have:=o.neg x y; omega)).2 hl
  refine (h1.and h2).imp fun {x y} h=>?_
  have:=h.1
  simp only [ltO,decide_eq_false_iff_not] at this
  have h3:=o.neg x y
  have:=h.2
  omega
end Go.Am
end
section
/- Records alike; copies; bins. -/
open Go
set_option linter.unusedSimpArgs false
namespace Go.Am
variable {h : Heap} {K : Post}
def sameR (a b : Rec) : Bool:=decide (a.unit = b.unit) && (decide (a.time = b.time) && (decide (a.site = b.site) && decide (a.res = b.res)))
theorem sameR_iff (a b : Rec) : sameR a b = true ↔ a = b:=by
  cases a; cases b
  simp [sameR]
end Go.Am
end
section
/- Lengths of numbers in bits,and comparisons of plain values. -/
open Go
namespace Go.Am
variable {h : Heap} {K : Post}
set_option maxRecDepth 20000
theorem tab_get (k : Nat) (hk : k < 256) : ∃ b,([0,1,2,2,3,3,3,3,4,4,4,4,4,4,4,4,5,5,5,5,5,5,5,5,5,5,5,5,5,5,5,5,6,6,6,6,6,6,6,6,6,6,6,6,6,6,6,6,6,6,6,6,6,6,6,6,6,6,6,6,6,6,6,6,7,7,7,7,7,7,7,7,7,7,7,7,7,7,7,7,7,7,7,7,7,7,7,7,7,7,7,7,7,7,7,7,7,7,7,7,7,7,7,7,7,7,7,7,7,7,7,7,7,7,7,7,7,7,7,7,7,7,7,7,7,7,7,7,8,8,8,8,8,8,8,8,8,8,8,8,8,8,8,8,8,8,8,8,8,8,8,8,8,8,8,8,8,8,8,8,8,8,8,8,8,8,8,8,8,8,8,8,8,8,8,8,8,8,8,8,8,8,8,8,8,8,8,8,8,8,8,8,8,8,8,8,8,8,8,8,8,8,8,8,8,8,8,8,8,8,8,8,8,8,8,8,8,8,8,8,8,8,8,8,8,8,8,8,8,8,8,8,8,8,8,8,8,8,8,8,8,8,8,8,8,8,8,8,8,8,8,8,8,8,8,8] : List UInt8)[k]? = some b:=⟨_,List.getElem?_eq_getElem (Nat.lt_of_lt_of_eq hk (by kernel_rfl))⟩
theorem len_any (x : Int) (h0 : 0 ≤ x) (h1 : x < 256) : ∃ m : Int,∀ (h : Heap) (K : Post),ACall X f_q03a [AU x] h K = K (AI m) h []:=by
  obtain ⟨b,hb⟩:=tab_get x.toNat (by omega)
  refine ⟨IntKind.i64.wrap (0 + IntKind.i64.wrap b.toNat),fun h K=>?_⟩
  have w : IntKind.u8.wrap x = x:=by simp [IntKind.wrap,IntKind.bits,IntKind.signed]; omega
  have b1 : ¬ (4294967296 ≤ x):=by omega
  have b2 : ¬ (65536 ≤ x):=by omega
  have b3 : ¬ (256 ≤ x):=by omega
  have hn:=natOf_int (k:=.u8) h0
  have key : ∀ (h : Heap) (K : Post),ACall X f_q03c [AU x] h K = K (AI (IntKind.i64.wrap (0 + IntKind.i64.wrap b.toNat))) h []:=by
    intro h K
    refine rule ?_
    rw [c_q03c rfl]
    simp only [d_q03c,go_sem,b1,b2,b3,w,hn,hb]
  refine rule ?_
  rw [c_q03a rfl]
  simp only [d_q03a,go_sem,key]
end Go.Am
end
section
/- Sorting numbers: printed by program. -/
open Go
set_option linter.unusedSimpArgs false
namespace Go.Am
attribute [-go_sem] PV.cells splice
variable {h : Heap} {K : Post}
end Go.Am
end
section
/- Bins,both ways; lists joined; records sorted. -/
open Go
set_option linter.unusedSimpArgs false
namespace Go.Am
variable {h : Heap} {K : Post}
theorem failIdx_cases (l : List Lim) (res : List Int) : (failIdx l res = -1 ∧ ∀ b ∈ goods l res,b = true) ∨ ∃ k : Nat,failIdx l res = k ∧ k < (goods l res).length ∧ (goods l res)[k]? = some false:=by
  unfold failIdx
  split
  · rename_i hlt
    refine .inr ⟨_,rfl,hlt,?_⟩
    have:=List.findIdx_getElem (w:=hlt)
    rw [List.getElem?_eq_getElem hlt]
    simpa using this
  · rename_i hlt
    refine .inl ⟨rfl,fun b hb=>?_⟩
    have hge : (goods l res).length ≤ (goods l res).findIdx fun b=>!b:=by omega
    have:=List.findIdx_eq_length.1 (Nat.le_antisymm List.findIdx_le_length hge) b hb
    simpa using this
theorem formB_len {l : List Lim} {res : List Int} (hf : formB l res = true) : 1 ≤ res.length ∧ res.length ≤ l.length:=by
  unfold formB inB at hf
  simp only [Bool.and_eq_true,decide_eq_true_eq] at hf
  omega
theorem fails_eq {l : List Lim} {res : List Int} (hf : formB l res = true) (h1 : res.length - 1 < l.length) (h2 : res.length - 1 < res.length) : (if good l[res.length - 1] res[res.length - 1] then (-1 : Int) else (res.length : Int) - 1) = failIdx l res:=by
  have hl:=formB_len hf
  have gg:=goods_get (l:=l) (res:=res) h1 h2
  have gl:=goods_len (l:=l) (res:=res) hl.2
  rcases failIdx_cases l res with ⟨e,ha⟩ | ⟨k,e,hk,hg⟩
  · rw [e]
    have:=ha _ (List.mem_of_getElem? gg)
    rw [this]; rfl
  · unfold formB at hf
    rw [e] at hf ⊢
    have ek : k = res.length - 1:=by
      simp only [Bool.and_eq_true,Bool.not_eq_true',Bool.and_eq_false_iff,decide_eq_false_iff_not] at hf
      have:=hf.1.2
      rcases this with h | h
      · exact absurd (by omega) h
      · simp at h; omega
    subst ek
    rw [gg] at hg
    simp only [Option.some.injEq] at hg
    rw [hg]
    simp
    omega
def binV (l : List Lim) (f : Int) : Int:=if 0 ≤ f then (l.getD f.toNat ⟨[],0,0,0⟩).bin else 1
theorem s_failsF (l : List Lim) (r : Rec) (hf : formB l r.res = true) (hn : l.length ≤ 1000) : ACall X f_q02p [ALim l,.p r.pv] h K = K (AI (failIdx l r.res)) h []:=by
  have hl:=formB_len hf
  rw [s_fails l r hl.1 hl.2 hn,fails_eq hf]
theorem s_binOf (l : List Lim) (r : Rec) (hf : formB l r.res = true) (hn : l.length ≤ 1000) : ACall X f_q02i [ALim l,.p r.pv] h K = K (AI (binV l (failIdx l r.res))) h []:=by
  refine rule ?_
  rw [c_q02i rfl]
  have q:=fun h K=>s_failsF (h:=h) (K:=K) l r hf hn
  have hl:=formB_len hf
  simp only [Rec.pv] at q
  rcases failIdx_cases l r.res with ⟨e,_⟩ | ⟨k,e,hk,_⟩
  · rw [e] at q ⊢
    simp only [d_q02i,Rec.pv,go_sem,↓q,q]
    rfl
  · rw [e] at q ⊢
    have hkl : k < l.length:=by rw [goods_len hl.2] at hk; omega
    have g1:=map_get Lim.pv hkl
    have b1 : (0 : Int) ≤ (k : Int):=by omega
    simp only [d_q02i,Rec.pv,go_sem,↓q,q,b1,hkl,g1,Lim.pv]
    unfold binV
    rw [if_pos b1,Int.toNat_natCast,List.getD_eq_getElem?_getD,List.getElem?_eq_getElem hkl]
    rfl
theorem recFault_form {l : List Lim} {r : Rec} (hf : recFault l r = 0) : formB l r.res = true:=by
  unfold recFault at hf
  cases h : formB l r.res with
  | true=>rfl
  | false=>
    rw [h] at hf
    split at hf
    · omega
    · split at hf
      · omega
      · split at hf
        · omega
        · simp at hf
theorem SortFunc_Record (id : Nat) (l : List PV) (hs : shps (some 4) l) (hl : l.length ≤ 12) (hh : h[id]? = some (.row (some 4) l 0)) {g : Nat} {caps : List AV} {c : PV → PV → Int} (hc : Cmps g caps c l id h) :
    ACall X f_q06g [.own id l.length 0 l.length,.fn g caps] h K = K (.tup []) (h.set id (.row (some 4) (isort (ltC c) l) 0)) []:=by
  refine rule ?_
  rw [c_q06g]
  have w0 : IntKind.u64.wrap (l.length : Int) = l.length:=u64_wrap _ (by omega) (by omega)
  obtain ⟨m,hm⟩:=len_any (l.length : Int) (by omega) (by omega)
  have is:=fun K=>insCmp_api_Record (h:=h) (K:=K) id l.length l [] rfl hs (by omega) (by rw [List.append_nil]; exact hh) hc
  simp only [List.append_nil] at is
  have key : ∀ K : Post,ACall X f_q07h [.own id l.length 0 l.length,AI 0,AI l.length,AI m,.fn g caps] h K = K (.tup []) (h.set id (.row (some 4) (isort (ltC c) l) 0)) []:=by
    intro K
    refine rule ?_
    rw [c_q07h]
    simp only [d_q07h,go_sem]
    refine N_loop (fun _ : Unit=>⟨[(0,.own id l.length 0 l.length),(1,AI 0),(2,AI l.length),(3,AI m),(4,.fn g caps),(10,AB true),(11,AB true)],h,[]⟩) (fun _=>True) (fun _=>0) () rfl trivial ?_
    intro _ _
    have w1 : IntKind.i64.wrap ((l.length : Int) - 0) = l.length:=by rw [i64_wrap _ (by omega) (by omega)]; omega
    have b1 : ((l.length : Int) ≤ 12):=by omega
    simp only [go_sem,w1,b1,is]
  simp only [d_q06g,go_sem,w0,hm,key]
end Go.Am
end
section
/- Lists of records joined,compared,merged. -/
open Go
set_option linter.unusedSimpArgs false
namespace Go.Am
variable {h : Heap} {K : Post}
instance : DecidableEq Rec:=fun a b=>decidable_of_iff (sameR a b = true) (sameR_iff a b)
end Go.Am
end
section
/- Records merged asv the reference does it. -/
open Go
set_option linter.unusedSimpArgs false
namespace Go.Am
variable {h : Heap} {K : Post}
theorem cmpL_le_trans {a b c : List UInt8} (h1 : cmpL a b ≤ 0) (h2 : cmpL b c ≤ 0) : cmpL a c ≤ 0:=by
  by_cases e1 : cmpL a b = 0
  · rw [cmpL_eq e1]; exact h2
  · by_cases e2 : cmpL b c = 0
    · rw [← cmpL_eq e2]; exact h1
    · have := cmpL_trans (a := a) (b := b) (c := c) (by omega) (by omega)
      omega
end Go.Am
end
section
/- Retests: which record of a unit counts. Plain lists; both ways yield the same. -/
set_option linter.all false
namespace Go.Am
def badR (l : List Lim) (r : Rec) : Bool:=decide (0 ≤ failIdx l r.res)
def updR (l : List Lim) (rule : Int) (o x : Rec) : Rec:=if rule = 2 ∨ rule = 3 ∧ badR l o = true then x else o
def posU (u : List UInt8) (out : List Rec) : Nat:=out.findIdx fun o=>decide (o.unit = u)
def putR (l : List Lim) (rule : Int) (out : List Rec) (x : Rec) : List Rec:=
  if h : posU x.unit out < out.length then out.set (posU x.unit out) (updR l rule (out[posU x.unit out]) x) else out ++ [x]
def finL0 (l : List Lim) (rule : Int) (r : List Rec) : List Rec:=r.foldl (putR l rule) []
def unitC (a b : Rec) : Int:=cmpL a.unit b.unit
def finL (l : List Lim) (rule : Int) (r : List Rec) : List Rec:=isort (ltO unitC) (finL0 l rule r)
def ltS (a b : List UInt8) : Bool:=decide (cmpL a b < 0)
def unitsL (r : List Rec) : List (List UInt8):=compactL (fun a b=>decide (a = b)) (isort ltS (r.map Rec.unit))
def ofU (r : List Rec) (u : List UInt8) : List Rec:=r.filter fun x=>decide (x.unit = u)
def rec0 : Rec:=⟨[],0,[],[]⟩
def cntL (l : List Lim) (rule : Int) (f : List Rec) : Rec:=
  if rule = 1 then f.headD rec0 else if f.findIdx (fun x=>!badR l x) < f.length ∧ rule = 3 then f.getD (f.findIdx fun x=>!badR l x) rec0 else f.getLastD rec0
def cntO (l : List Lim) (rule : Int) : Option Rec → List Rec → Option Rec
  | o,[]=>o
  | none,x :: r=>cntO l rule (some x) r
  | some y,x :: r=>cntO l rule (some (updR l rule y x)) r
theorem cntO_some (l : List Lim) (rule : Int) : ∀ (f : List Rec) (y : Rec),cntO l rule (some y) f = some (f.foldl (updR l rule) y)
  | [],y=>rfl
  | x :: r,y=>by unfold cntO; rw [cntO_some l rule r]; rfl
theorem cntO_snoc (l : List Lim) (rule : Int) (x : Rec) : ∀ (f : List Rec) (o : Option Rec),cntO l rule o (f ++ [x]) = some (match cntO l rule o f with | none=>x | some y=>updR l rule y x)
  | [],none=>rfl
  | [],some y=>rfl
  | z :: f,none=>by simp only [List.cons_append,cntO]; exact cntO_snoc l rule x f _
  | z :: f,some y=>by simp only [List.cons_append,cntO]; exact cntO_snoc l rule x f _
theorem fold1 (l : List Lim) : ∀ (f : List Rec) (y : Rec),f.foldl (updR l 1) y = y
  | [],y=>rfl
  | x :: r,y=>by simp only [List.foldl_cons]; rw [fold1 l r]; simp [updR]
theorem fold2 (l : List Lim) : ∀ (f : List Rec) (y : Rec),f.foldl (updR l 2) y = f.getLastD y
  | [],y=>rfl
  | x :: r,y=>by
    simp only [List.foldl_cons]; rw [fold2 l r]
    have : updR l 2 y x = x:=by simp [updR]
    rw [this]; cases r <;> simp [List.getLastD]
theorem fold3g (l : List Lim) : ∀ (f : List Rec) (y : Rec),badR l y = false → f.foldl (updR l 3) y = y
  | [],y,_=>rfl
  | x :: r,y,h=>by
    simp only [List.foldl_cons]
    have : updR l 3 y x = y:=by simp [updR,h]
    rw [this]; exact fold3g l r y h
theorem fold3b (l : List Lim) : ∀ (f : List Rec) (y : Rec),some (f.foldl (updR l 3) y) = some (cntL l 3 (y :: f))
  | [],y=>by
    unfold cntL
    cases hb : badR l y <;> simp [hb,List.findIdx_cons]
  | x :: r,y=>by
    cases hb : badR l y with
    | false=>
      rw [fold3g l _ y hb]
      unfold cntL
      simp [hb,List.findIdx_cons]
    | true=>
      simp only [List.foldl_cons]
      have : updR l 3 y x = x:=by simp [updR,hb]
      rw [this,fold3b l r x]
      unfold cntL
      have e : (y :: x :: r).findIdx (fun x=>!badR l x) = (x :: r).findIdx (fun x=>!badR l x) + 1:=by
        rw [List.findIdx_cons]; simp [hb]
      rw [e]
      simp only [List.length_cons,Nat.add_lt_add_iff_right,List.getD_cons_succ]
      have : (y :: x :: r).getLastD rec0 = (x :: r).getLastD rec0:=by simp [List.getLastD]
      rw [this]
      rfl
theorem cntO_cntL (l : List Lim) {rule : Int} (hr : 1 ≤ rule ∧ rule ≤ 3) : ∀ {f : List Rec},f ≠ [] → cntO l rule none f = some (cntL l rule f)
  | [],h=>absurd rfl h
  | y :: f,_=>by
    show cntO l rule (some y) f = _
    rw [cntO_some]
    rcases (by omega : rule = 1 ∨ rule = 2 ∨ rule = 3) with h | h | h
    · subst h; rw [fold1]; rfl
    · subst h; rw [fold2]
      unfold cntL
      simp [List.getLastD]
      cases f <;> simp
    · subst h; exact fold3b l f y
structure FinI (l : List Lim) (rule : Int) (p out : List Rec) : Prop where
  nd : out.Pairwise fun a b=>a.unit ≠ b.unit
  val : ∀ o ∈ out,cntO l rule none (ofU p o.unit) = some o
  all : ∀ x ∈ p,∃ o ∈ out,o.unit = x.unit
  sub : ∀ o ∈ out,∃ x ∈ p,x.unit = o.unit
  le : out.length ≤ p.length
  mem : ∀ o ∈ out,o ∈ p
theorem posU_lt {u : List UInt8} {out : List Rec} : posU u out < out.length ↔ ∃ o ∈ out,o.unit = u:=by
  unfold posU
  rw [List.findIdx_lt_length]
  simp
theorem posU_get {u : List UInt8} {out : List Rec} (h : posU u out < out.length) : (out[posU u out]).unit = u:=by
  have:=List.findIdx_getElem (p:=fun o : Rec=>decide (o.unit = u)) (xs:=out) (w:=h)
  exact of_decide_eq_true this
theorem updR_unit {l : List Lim} {rule : Int} {o x : Rec} (h : o.unit = x.unit) : (updR l rule o x).unit = x.unit:=by
  unfold updR; split <;> simp [h]
theorem updR_or {l : List Lim} {rule : Int} {o x : Rec} : updR l rule o x = x ∨ updR l rule o x = o:=by
  unfold updR; split <;> simp
theorem putR_units {l : List Lim} {rule : Int} {out : List Rec} {x : Rec} : (putR l rule out x).map Rec.unit = if posU x.unit out < out.length then out.map Rec.unit else out.map Rec.unit ++ [x.unit]:=by
  unfold putR
  split
  · rename_i h
    rw [List.map_set,updR_unit (posU_get h)]
    apply List.ext_getElem?
    intro i
    rw [List.getElem?_set]
    split
    · rename_i e
      subst e
      simp [h,posU_get h]
    · rfl
  · simp
theorem ofU_snoc (p : List Rec) (x : Rec) (u : List UInt8) : ofU (p ++ [x]) u = if x.unit = u then ofU p u ++ [x] else ofU p u:=by
  unfold ofU
  rw [List.filter_append]
  by_cases h : x.unit = u <;> simp [h]
theorem finI_step {l : List Lim} {rule : Int} {p out : List Rec} (I : FinI l rule p out) (x : Rec) : FinI l rule (p ++ [x]) (putR l rule out x):=by
  have hu:=putR_units (l:=l) (rule:=rule) (out:=out) (x:=x)
  have mU : ∀ u,(∃ o ∈ putR l rule out x,o.unit = u) ↔ u = x.unit ∨ ∃ o ∈ out,o.unit = u:=by
    intro u
    have h1 : (∃ o ∈ putR l rule out x,o.unit = u) ↔ u ∈ (putR l rule out x).map Rec.unit:=by simp
    have h2 : (∃ o ∈ out,o.unit = u) ↔ u ∈ out.map Rec.unit:=by simp
    rw [h1,h2,hu]
    split
    · rename_i h
      obtain ⟨o,ho,e⟩:=posU_lt.1 h
      constructor
      · intro h; exact .inr h
      · rintro (h | h)
        · rw [h]; exact List.mem_map.2 ⟨o,ho,e⟩
        · exact h
    · simp [or_comm]
  refine ⟨?_,?_,?_,?_,?_,?_⟩
  · have : (out.map Rec.unit).Pairwise (· ≠ ·) := List.pairwise_map.2 I.nd
    suffices hs : ((putR l rule out x).map Rec.unit).Pairwise (· ≠ ·) from List.pairwise_map.1 hs
    rw [hu]
    split
    · exact this
    · rename_i h
      rw [List.pairwise_append]
      refine ⟨this,by simp,fun a ha b hb=>?_⟩
      rw [List.mem_singleton] at hb
      subst hb
      intro e
      obtain ⟨o,ho,e2⟩:=List.mem_map.1 ha
      exact h (posU_lt.2 ⟨o,ho,by rw [e2,e]⟩)
  · intro o ho
    unfold putR at ho
    split at ho
    · rename_i h
      obtain ⟨i,hi,e⟩:=List.mem_iff_getElem.1 ho
      rw [List.getElem_set] at e
      split at e
      · have eu : o.unit = x.unit := by rw [← e]; exact updR_unit (posU_get h)
        rw [ofU_snoc,if_pos eu.symm,cntO_snoc]
        have h9:=I.val _ (List.getElem_mem h)
        have hpg:=posU_get h
        generalize out[posU x.unit out] = z at *
        rw [hpg,← eu] at h9
        rw [h9,← e]
      · have ho2 : o ∈ out := by rw [← e]; exact List.getElem_mem _
        have hne : ¬ x.unit = o.unit:=by
          intro eu
          rename_i hni
          have q:=List.pairwise_iff_getElem.1 I.nd
          simp only [List.length_set] at hi
          rcases Nat.lt_or_ge i (posU x.unit out) with h3 | h3
          · exact q i _ hi h h3 (by rw [posU_get h,e,eu])
          · exact q _ i h hi (by omega) (by rw [posU_get h,e,eu])
        rw [ofU_snoc,if_neg hne]
        exact I.val o ho2
    · rename_i h
      rcases List.mem_append.1 ho with ho | ho
      · have hne : ¬ x.unit = o.unit := fun eu => h (posU_lt.2 ⟨o, ho, eu.symm⟩)
        rw [ofU_snoc,if_neg hne]
        exact I.val o ho
      · rw [List.mem_singleton] at ho
        subst ho
        rw [ofU_snoc,if_pos rfl,cntO_snoc]
        have : ofU p o.unit = []:=by
          unfold ofU
          rw [List.filter_eq_nil_iff]
          intro z hz
          simp only [decide_eq_true_eq]
          intro e
          obtain ⟨o',ho',e'⟩:=I.all z hz
          exact h (posU_lt.2 ⟨o',ho',by rw [e',e]⟩)
        rw [this]; rfl
  · intro z hz
    rw [mU]
    rcases List.mem_append.1 hz with hz | hz
    · exact .inr (I.all z hz)
    · rw [List.mem_singleton] at hz; subst hz; exact .inl rfl
  · intro o ho
    rcases (mU o.unit).1 ⟨o,ho,rfl⟩ with h | ⟨o',ho',e⟩
    · exact ⟨x,by simp,h.symm⟩
    · obtain ⟨z, hz, e2⟩ := I.sub o' ho'
      exact ⟨z,by simp [hz],by rw [e2,e]⟩
  · have := I.le
    unfold putR
    split <;> simp <;> omega
  · intro o ho
    unfold putR at ho
    split at ho
    · rename_i h
      rcases List.mem_or_eq_of_mem_set ho with ho | ho
      · exact List.mem_append_left _ (I.mem o ho)
      · rcases updR_or (l := l) (rule := rule) (o := out[posU x.unit out]) (x := x) with e | e
        · rw [ho,e]; simp
        · rw [ho,e]; exact List.mem_append_left _ (I.mem _ (List.getElem_mem h))
    · rcases List.mem_append.1 ho with ho | ho
      · exact List.mem_append_left _ (I.mem o ho)
      · exact List.mem_append_right _ ho
theorem finI_nil (l : List Lim) (rule : Int) : FinI l rule [] []:=⟨.nil,by simp,by simp,by simp,by simp,by simp⟩
theorem finI_all (l : List Lim) (rule : Int) : ∀ (q p out : List Rec),FinI l rule p out → FinI l rule (p ++ q) (q.foldl (putR l rule) out)
  | [],p,out,I=>by simpa using I
  | x :: q,p,out,I=>by
    have:=finI_all l rule q (p ++ [x]) (putR l rule out x) (finI_step I x)
    simpa using this
theorem finI (l : List Lim) (rule : Int) (r : List Rec) : FinI l rule r (finL0 l rule r):=by
  have:=finI_all l rule r [] [] (finI_nil l rule)
  simpa [finL0] using this
theorem ordS : Ordr cmpL:=⟨fun a b=>cmpL_neg a b,fun a b d h1 h2=>cmpL_le_trans h1 h2⟩
theorem ordU : Ordr unitC:=⟨fun a b=>cmpL_neg a.unit b.unit,fun a b d h1 h2=>cmpL_le_trans h1 h2⟩
theorem ltS_eq : ltS = ltO cmpL:=rfl
theorem units_strict (r : List Rec) : Strict cmpL (unitsL r):=by
  unfold unitsL
  rw [ltS_eq]
  have hq : ∀ x y : List UInt8,(fun a b=>decide (a = b)) x y = true ↔ x = y:=fun x y=>by simp
  refine adj_strict ordS ?_ fun i h=>?_
  · refine (List.Pairwise.sublist (compact_sub _ _) (isort_sorted ordS.weak _)).imp fun {x y} h => ?_
    simp only [ltO,decide_eq_false_iff_not] at h
    have:=ordS.neg x y
    omega
  · intro hc
    exact compact_adj hq _ i h (cmpL_eq hc).symm
theorem units_mem {r : List Rec} {u : List UInt8} : u ∈ unitsL r ↔ ∃ x ∈ r,x.unit = u:=by
  unfold unitsL
  constructor
  · intro h
    have:=isort_mem.1 (compactL_mem h)
    simpa using this
  · intro h
    exact compact_all (fun x y h=>by simpa using h) (isort_mem.2 (by simpa using h))
theorem finL_units (l : List Lim) (rule : Int) (r : List Rec) : (finL l rule r).map Rec.unit = unitsL r:=by
  have I:=finI l rule r
  have hs : Strict unitC (finL l rule r):=by
    refine strict_isort ordU (I.nd.imp fun {a b} h=>?_)
    intro hc
    exact h (cmpL_eq hc)
  refine strict_ext ordS (List.pairwise_map.2 hs) (units_strict r) fun u=>?_
  rw [units_mem,List.mem_map]
  constructor
  · rintro ⟨o, ho, e⟩
    obtain ⟨x,hx,e2⟩:=I.sub o (isort_mem.1 ho)
    exact ⟨x,hx,by rw [e2,e]⟩
  · rintro ⟨x, hx, e⟩
    obtain ⟨o,ho,e2⟩:=I.all x hx
    exact ⟨o,isort_mem.2 ho,by rw [e2,e]⟩
theorem finL_val {l : List Lim} {rule : Int} (hr : 1 ≤ rule ∧ rule ≤ 3) {r : List Rec} {o : Rec} (ho : o ∈ finL l rule r) : o = cntL l rule (ofU r o.unit):=by
  have I:=finI l rule r
  have h1:=I.val o (isort_mem.1 ho)
  have hne : ofU r o.unit ≠ []:=by
    intro e; rw [e] at h1; cases h1
  rw [cntO_cntL l hr hne] at h1
  exact (Option.some.inj h1).symm
theorem finL_len (l : List Lim) (rule : Int) (r : List Rec) : (finL l rule r).length ≤ r.length:=by
  unfold finL; rw [isort_len]; exact (finI l rule r).le
theorem finL_mem {l : List Lim} {rule : Int} {r : List Rec} {o : Rec} (h : o ∈ finL l rule r) : o ∈ r:=(finI l rule r).mem o (isort_mem.1 h)
theorem ofU_mem {r : List Rec} {u : List UInt8} {x : Rec} : x ∈ ofU r u ↔ x ∈ r ∧ x.unit = u:=by simp [ofU]
theorem ofU_ne {r : List Rec} {u : List UInt8} (h : u ∈ unitsL r) : ofU r u ≠ []:=by
  obtain ⟨x,hx,e⟩:=units_mem.1 h
  intro h2
  have : x ∈ ofU r u:=ofU_mem.2 ⟨hx,e⟩
  rw [h2] at this
  exact absurd this (by simp)
end Go.Am
end
section
/- Units counted: bins,tests,recovered units,sites; both ways yield the same. Plain lists. -/
set_option linter.all false
namespace Go.Am
theorem digC_inj {a b : Nat} (ha : a < 10) (hb : b < 10) (h : digC a = digC b) : a = b:=by
  have:=congrArg UInt8.toNat h
  simp only [digC,UInt8.toNat_ofNat'] at this
  omega
theorem decN_ne (n : Nat) : decN n ≠ []:=by
  rcases Nat.lt_or_ge n 10 with h | h
  · rw [decN_lt h]; simp
  · rw [decN_ge h]; simp
theorem snoc_inj {α : Type} {a b : List α} {x y : α} (h : a ++ [x] = b ++ [y]) : a = b ∧ x = y:=by
  have h1:=congrArg List.getLast? h
  have h2:=congrArg List.dropLast h
  simp at h1 h2
  exact ⟨h2,h1⟩
theorem decN_inj : ∀ (n m : Nat),decN n = decN m → n = m:=by
  intro n
  induction n using Nat.strongRecOn with
  | _ n ih=>
    intro m h
    rcases Nat.lt_or_ge n 10 with h1 | h1 <;> rcases Nat.lt_or_ge m 10 with h2 | h2
    · rw [decN_lt h1, decN_lt h2] at h
      exact digC_inj h1 h2 (List.cons.inj h).1
    · rw [decN_lt h1, decN_ge h2] at h
      have:=snoc_inj (a:=[]) (x:=digC n) (by simpa using h)
      exact absurd this.1.symm (decN_ne _)
    · rw [decN_lt h2, decN_ge h1] at h
      have:=snoc_inj (b:=[]) (y:=digC m) (by simpa using h)
      exact absurd this.1 (decN_ne _)
    · rw [decN_ge h1, decN_ge h2] at h
      obtain ⟨e1,e2⟩:=snoc_inj h
      have:=ih (n / 10) (by omega) _ e1
      have:=digC_inj (by omega) (by omega) e2
      omega
theorem digC_ne45 {n : Nat} (h : n < 10) : digC n ≠ 45:=by
  intro e
  have:=congrArg UInt8.toNat e
  simp only [digC,UInt8.toNat_ofNat'] at this
  have h45 : (45 : UInt8).toNat = 45:=rfl
  omega
theorem decN_dig : ∀ (n : Nat),∀ c ∈ decN n,∃ k,k < 10 ∧ c = digC k:=by
  intro n
  induction n using Nat.strongRecOn with
  | _ n ih=>
    intro c hc
    rcases Nat.lt_or_ge n 10 with h1 | h1
    · rw [decN_lt h1, List.mem_singleton] at hc
      exact ⟨n,h1,hc⟩
    · rw [decN_ge h1, List.mem_append, List.mem_singleton] at hc
      rcases hc with hc | hc
      · exact ih _ (by omega) c hc
      · exact ⟨n % 10,by omega,hc⟩
theorem itoa_inj {a b : Int} (h : itoa a = itoa b) : a = b:=by
  unfold itoa at h
  have key : ∀ (n m : Nat),decN n ≠ 45 :: m.repeat id (decN m):=by
    intro n m e
    have:=decN_dig n 45 (by rw [e]; simp)
    obtain ⟨k,hk,e2⟩:=this
    exact digC_ne45 hk e2.symm
  split at h <;> split at h
  · have:=decN_inj _ _ (List.cons.inj h).2; omega
  · obtain ⟨k, hk, e2⟩ := decN_dig b.natAbs 45 (by rw [← h]; simp)
    exact absurd e2.symm (digC_ne45 hk)
  · obtain ⟨k, hk, e2⟩ := decN_dig a.natAbs 45 (by rw [h]; simp)
    exact absurd e2.symm (digC_ne45 hk)
  · have:=decN_inj _ _ h; omega
def binR (l : List Lim) (x : Rec) : Int:=binV l (failIdx l x.res)
abbrev SS:=List UInt8 × List UInt8
def finalP (l : List Lim) (rule : Int) (r : List Rec) : List SS:=(finL l rule r).map fun x=>(x.unit,itoa (binR l x))
def finalQ (l : List Lim) (rule : Int) (r : List Rec) : List SS:=(unitsL r).map fun u=>(u,itoa (binR l (cntL l rule (ofU r u))))
theorem final_eq (l : List Lim) {rule : Int} (hr : 1 ≤ rule ∧ rule ≤ 3) (r : List Rec) : finalP l rule r = finalQ l rule r:=by
  unfold finalP finalQ
  rw [← finL_units l rule r,List.map_map]
  refine List.map_congr_left fun o ho=>?_
  simp only [Function.comp]
  rw [← finL_val hr ho]
def nFail (l : List Lim) (rule : Int) (r : List Rec) (k : Nat) : Nat:=(finL l rule r).countP fun x=>decide (failIdx l x.res = (k : Int))
theorem nFail_le (l : List Lim) (rule : Int) (r : List Rec) (k : Nat) : nFail l rule r k ≤ r.length:=by
  unfold nFail
  have h1 : (finL l rule r).countP (fun x=>decide (failIdx l x.res = (k : Int))) ≤ (finL l rule r).length:=List.countP_le_length
  have:=finL_len l rule r
  omega
def orderP (c : Nat → Nat) (n : Nat) : List Nat:=isort (fun a b=>decide (c b < c a)) ((List.range n).filter fun i=>decide (0 < c i))
def keyAt (l : List Lim) (i : Nat) : List UInt8:=(l.getD i ⟨[],0,0,0⟩).key
def paretoP (l : List Lim) (rule : Int) (r : List Rec) : List SS:=(orderP (nFail l rule r) l.length).map fun i=>(keyAt l i,itoa (nFail l rule r i))
def recovB (l : List Lim) (r : List Rec) (u : List UInt8) : Bool:=badR l ((ofU r u).headD rec0) && (ofU r u).any fun x=>!badR l x
def recovP (l : List Lim) (r : List Rec) : List (List UInt8):=(unitsL r).filter (recovB l r)
theorem cnt1 (l : List Lim) (f : List Rec) : cntL l 1 f = f.headD rec0:=rfl
theorem cnt3_good {l : List Lim} {f : List Rec} (hf : f ≠ []) : badR l (cntL l 3 f) = !f.any fun x=>!badR l x:=by
  unfold cntL
  rw [if_neg (by decide)]
  by_cases h : f.findIdx (fun x=>!badR l x) < f.length
  · rw [if_pos ⟨h, rfl⟩, List.getD_eq_getElem?_getD, List.getElem?_eq_getElem h]
    have:=List.findIdx_getElem (p:=fun x=>!badR l x) (xs:=f) (w:=h)
    have h2 : f.any (fun x=>!badR l x) = true:=List.any_eq_true.2 ⟨_,List.getElem_mem h,this⟩
    rw [h2]
    simpa using this
  · rw [if_neg (fun hh => h hh.1)]
    have h2 : f.any (fun x=>!badR l x) = false:=by
      rw [List.any_eq_false]
      intro x hx hb
      exact h (List.findIdx_lt_length_of_exists ⟨x,hx,hb⟩)
    rw [h2]
    rw [List.getLastD_eq_getLast?,List.getLast?_eq_some_getLast hf]
    rw [List.any_eq_false] at h2
    have:=h2 _ (List.getLast_mem hf)
    simpa using this
def sitesL (r : List Rec) : List (List UInt8):=compactL (fun a b=>decide (a = b)) (isort ltS (r.map Rec.site))
def nSite (r : List Rec) (s : List UInt8) : Nat:=r.countP fun x=>decide (x.site = s)
def gSite (l : List Lim) (r : List Rec) (s : List UInt8) : Nat:=r.countP fun x=>decide (x.site = s) && !badR l x
def siteP (l : List Lim) (r : List Rec) : List SS:=(sitesL r).map fun s=>(s,itoa (gSite l r s) ++ 47 :: itoa (nSite r s))
theorem sorted_strict (us : List (List UInt8)) : Strict cmpL (compactL (fun a b=>decide (a = b)) (isort ltS us)):=by
  rw [ltS_eq]
  have hq : ∀ x y : List UInt8,(fun a b=>decide (a = b)) x y = true ↔ x = y:=fun x y=>by simp
  refine adj_strict ordS ?_ fun i h=>?_
  · refine (List.Pairwise.sublist (compact_sub _ _) (isort_sorted ordS.weak _)).imp fun {x y} h => ?_
    simp only [ltO,decide_eq_false_iff_not] at h
    have:=ordS.neg x y
    omega
  · intro hc
    exact compact_adj hq _ i h (cmpL_eq hc).symm
theorem sorted_mem {us : List (List UInt8)} {u : List UInt8} : u ∈ compactL (fun a b=>decide (a = b)) (isort ltS us) ↔ u ∈ us:=by
  constructor
  · intro h; exact isort_mem.1 (compactL_mem h)
  · intro h; exact compact_all (fun x y h=>by simpa using h) (isort_mem.2 h)
theorem nodup_sorted {ns us : List (List UInt8)} (hd : ns.Nodup) (hm : ∀ u,u ∈ ns ↔ u ∈ us) : isort ltS ns = compactL (fun a b=>decide (a = b)) (isort ltS us):=by
  refine strict_ext ordS ?_ (sorted_strict us) fun u=>?_
  · rw [ltS_eq]
    refine strict_isort ordS (hd.imp fun {a b} h hc=>h (cmpL_eq hc))
  · rw [isort_mem,sorted_mem,hm]
end Go.Am
end
section
/- Deleting values: printed by program. -/
open Go
set_option linter.unusedSimpArgs false
namespace Go.Am
attribute [-go_sem] PV.cells splice
variable {h : Heap} {K : Post}
end Go.Am
end
section
/- Plain lists: the narrowest window of a sorted list,and the narrowest of all pairs that leave few values outside. -/
namespace Go.Am
def outN (g : List Int) (u v : Int) : Nat:=g.countP fun n=>!(decide (u ≤ n) && decide (n ≤ v))
def pairsAt (g : List Int) (most : Int) (i : Nat) : List (Int × Int):=((g.drop i).map fun v=>(g.getD i 0,v)).filter fun p=>decide ((outN g p.1 p.2 : Int) ≤ most)
def pairs (g : List Int) (most : Int) : List (Int × Int):=(List.range g.length).flatMap (pairsAt g most)
end Go.Am
end
section
/- Values of a test; limits asv narrow asv can be: package lot. -/
open Go
set_option linter.unusedSimpArgs false
namespace Go.Am
variable {h : Heap} {K : Post}
def ordB (x : Rec) : Option Rec → Bool
  | some q=>decide (recCmp x q ≤ 0)
  | none=>false
theorem recsFaultFrom_cons' {l : List Lim} {p : Option Rec} {x : Rec} {r : List Rec} : recsFaultFrom l p (x :: r) = if recFault l x ≠ 0 then recFault l x else if ordB x p = true then 7 else recsFaultFrom l (some x) r:=by cases p <;> rfl
theorem recsFaultFrom_all {l : List Lim} : ∀ {r : List Rec} {p : Option Rec},recsFaultFrom l p r = 0 → ∀ x ∈ r,recFault l x = 0
  | [],_,_,x,hx=>by cases hx
  | y :: r,p,h,x,hx=>by
    rw [recsFaultFrom_cons'] at h
    by_cases h1 : recFault l y = 0
    · rw [if_neg (by simp [h1])] at h
      by_cases h2 : ordB y p = true
      · rw [if_pos h2] at h
        exact absurd h (by decide)
      · rw [if_neg h2] at h
        rcases List.mem_cons.1 hx with rfl | hx
        · exact h1
        · exact recsFaultFrom_all h x hx
    · rw [if_pos h1] at h
      exact absurd h h1
theorem recsFault_all {l : List Lim} {r : List Rec} (h : recsFault l r = 0) : ∀ x ∈ r,recFault l x = 0:=by
  unfold recsFault recsFault0 at h
  split at h
  · rename_i h1; exact absurd h h1
  · split at h
    · cases h
    · exact recsFaultFrom_all h
end Go.Am
end
section
/- Maps,asv lists of keys with values. -/
open Go
set_option linter.all false
namespace Go.Am
section
variable {α β : Type} [DecidableEq α]
def mesF (key : α → PV) (val : β → AV) : Nat → List (α × β) → List ME
  | _,[]=>[]
  | n,e :: r=>⟨key e.1,val e.2,n⟩ :: mesF key val (n + 1) r
def mobj (key : α → PV) (val : β → AV) (l : List (α × β)) : Obj:=.amap (mesF key val 0 l) l.length
def whereM (k : α) : List (α × β) → Option Nat
  | []=>none
  | e :: r=>if k = e.1 then some 0 else (whereM k r).map (· + 1)
def getM (k : α) : List (α × β) → Option β
  | []=>none
  | e :: r=>if k = e.1 then some e.2 else getM k r
def updM (k : α) (v : β) : List (α × β) → List (α × β)
  | []=>[(k,v)]
  | e :: r=>if k = e.1 then (k,v) :: r else e :: updM k v r
def KeyI (key : α → PV) : Prop:=∀ a b,PV.eqv (key a) (key b) = some (decide (a = b))
theorem keyI_str : KeyI PV.str:=fun a b=>rfl
theorem keyI_int : KeyI (fun n : Int=>PV.int .i64 n):=fun a b=>by simp [PV.eqv,PV.eq1]
theorem keyOf_str {s : List UInt8} : keyOf (none,[2]) (.p (.str s)) = some (.str s):=by simp [keyOf,PV.key,PV.shp,PV.sc,PV.cells,PV.kind]
theorem keyOf_int {n : Int} {k : IntKind} : keyOf (none,[0]) (.p (.int k n)) = some (.int k n):=by simp [keyOf,PV.key,PV.shp,PV.sc,PV.cells,PV.kind]
variable {key : α → PV} {val : β → AV}
theorem mfind_mes (hk : KeyI key) (k : α) : ∀ (l : List (α × β)) (n : Nat),mfind (key k) (mesF key val n l) = some (whereM k l)
  | [],n=>rfl
  | e :: r,n=>by
    simp only [mesF,mfind,hk k e.1,whereM]
    by_cases h : k = e.1
    · simp [h]
    · simp [h,mfind_mes hk k r (n + 1)]
theorem mes_len : ∀ (l : List (α × β)) (n : Nat),(mesF key val n l).length = l.length
  | [],n=>rfl
  | e :: r,n=>by simp [mesF,mes_len r (n + 1)]
theorem mes_get : ∀ (l : List (α × β)) (n i : Nat),(mesF key val n l)[i]? = (l[i]?).map fun e=>⟨key e.1,val e.2,n + i⟩
  | [],n,i=>rfl
  | e :: r,n,0=>rfl
  | e :: r,n,i + 1=>by simp only [mesF,List.getElem?_cons_succ,mes_get r (n + 1) i]; rw [show n + 1 + i = n + (i + 1) by omega]
theorem where_lt {k : α} : ∀ {l : List (α × β)} {i : Nat},whereM k l = some i → i < l.length
  | [],i,h=>by cases h
  | e :: r,i,h=>by
    unfold whereM at h
    split at h
    · cases h; simp
    · obtain ⟨j, hj, e2⟩ := Option.map_eq_some_iff.1 h
      have:=where_lt hj
      simp; omega
theorem where_get {k : α} : ∀ {l : List (α × β)} {i : Nat},whereM k l = some i → l[i]? = (getM k l).map fun v=>(k,v)
  | [],i,h=>by cases h
  | e :: r,i,h=>by
    unfold whereM at h
    unfold getM
    split at h
    · rename_i hk; cases h; simp [hk]
    · rename_i hk
      obtain ⟨j,hj,e2⟩:=Option.map_eq_some_iff.1 h
      subst e2
      rw [if_neg hk,List.getElem?_cons_succ]
      exact where_get hj
theorem where_none {k : α} : ∀ {l : List (α × β)},whereM k l = none → getM k l = none
  | [],h=>rfl
  | e :: r,h=>by
    unfold whereM at h
    unfold getM
    split at h
    · cases h
    · rename_i hk
      rw [if_neg hk]
      exact where_none (by simpa using h)
theorem where_some {k : α} : ∀ {l : List (α × β)} {i : Nat},whereM k l = some i → (getM k l).isSome = true
  | [],i,h=>by cases h
  | e :: r,i,h=>by
    unfold whereM at h
    unfold getM
    split at h
    · rename_i hk; simp [hk]
    · rename_i hk
      obtain ⟨j,hj,e2⟩:=Option.map_eq_some_iff.1 h
      rw [if_neg hk]
      exact where_some hj
theorem look_val {k : α} {l : List (α × β)} {n : Nat} : ((whereM k l).bind fun i=>(mesF key val n l)[i]?).map ME.val = (getM k l).map val:=by
  cases h : whereM k l with
  | none=>rw [where_none h]; rfl
  | some i=>
    simp only [Option.bind_some,mes_get,where_get h]
    cases getM k l <;> rfl
theorem upd_none {k : α} {v : β} : ∀ {l : List (α × β)},whereM k l = none → updM k v l = l ++ [(k,v)]
  | [],h=>rfl
  | e :: r,h=>by
    unfold whereM at h
    unfold updM
    split at h
    · cases h
    · rename_i hk
      rw [if_neg hk,upd_none (by simpa using h)]; rfl
theorem upd_some {k : α} {v : β} : ∀ {l : List (α × β)} {i : Nat},whereM k l = some i → updM k v l = l.set i (k,v)
  | [],i,h=>by cases h
  | e :: r,i,h=>by
    unfold whereM at h
    unfold updM
    split at h
    · rename_i hk; cases h; simp [hk]
    · rename_i hk
      obtain ⟨j,hj,e2⟩:=Option.map_eq_some_iff.1 h
      subst e2
      rw [if_neg hk,upd_some hj]; rfl
theorem mes_snoc (k : α) (v : β) : ∀ (l : List (α × β)) (n : Nat),mesF key val n (l ++ [(k,v)]) = mesF key val n l ++ [⟨key k,val v,n + l.length⟩]
  | [],n=>rfl
  | e :: r,n=>by simp only [List.cons_append,mesF,mes_snoc k v r (n + 1),List.length_cons]; rw [show n + 1 + r.length = n + (r.length + 1) by omega]
theorem mes_modify {k : α} {v : β} {l : List (α × β)} {i n : Nat} (h : whereM k l = some i) : (mesF key val n l).modify i (fun e=>{ e with val:=val v }) = mesF key val n (l.set i (k,v)):=by
  apply List.ext_getElem?
  intro j
  rw [List.getElem?_modify,mes_get,mes_get,List.getElem?_set]
  have hi:=where_lt h
  have hg:=where_get h
  by_cases hij : i = j
  · subst hij
    rw [hg]
    simp only [if_true,hi]
    obtain ⟨w,hw⟩:=Option.isSome_iff_exists.1 (where_some h)
    rw [hw]; rfl
  · simp [hij]
variable {h : Heap} {id : Nat} {l : List (α × β)} {kk : Sh × List Nat} {k : α}
theorem mget_mes (hh : h[id]? = some (mobj key val l)) : mget h (.mp id) = some (id,mesF key val 0 l,l.length):=by
  simp only [mget,hh,mobj]
theorem look_mes (hk : KeyI key) (hh : h[id]? = some (mobj key val l)) (hq : keyOf kk (.p (key k)) = some (key k)) {ok : Bool} {z : AV} :
    oLook kk ok z (.mp id) (.p (key k)) h = some (bif ok then .tup [((getM k l).map val).getD z,AV.p (.bool (getM k l).isSome)] else ((getM k l).map val).getD z):=by
  simp only [oLook,hq,mget_mes hh,Option.map_some,mfind_mes hk,look_val,Option.isSome_map]
  rfl
theorem mupd_mes (hk : KeyI key) (hh : h[id]? = some (mobj key val l)) (hq : keyOf kk (.p (key k)) = some (key k)) {v : β} (hv : okIn (val v) = true) :
    oMupd kk (.mp id) (.p (key k)) (val v) h = some (.und,h.set id (mobj key val (updM k v l)),escOf id (val v)):=by
  simp only [oMupd,hq,mget_mes hh,hv,mfind_mes hk]
  cases hw : whereM k l with
  | none=>
    simp only [mobj,upd_none hw,mes_snoc,List.length_append,List.length_cons,List.length_nil,Nat.zero_add]
  | some i=>
    simp only [mobj,upd_some hw,mes_modify hw,List.length_set]
theorem born_find {l : List (α × β)} {i : Nat} (hi : i < l.length) : (mesF key val 0 l).findIdx? (fun e=>e.born == i) = some i:=by
  rw [List.findIdx?_eq_some_iff_getElem]
  have hl:=mes_len (key:=key) (val:=val) l 0
  have hb : ∀ j (hj : j < (mesF key val 0 l).length),(mesF key val 0 l)[j].born = j:=fun j hj=>by
    have h1:=List.getElem?_eq_getElem hj
    rw [mes_get,List.getElem?_eq_getElem (by omega)] at h1
    simp only [Option.map_some,Option.some.injEq] at h1
    rw [← h1]; simp
  refine ⟨by omega,by simp [hb],fun j hj=>?_⟩
  simp [hb]; omega
theorem get_upd (k k' : α) (v : β) : ∀ (l : List (α × β)),getM k' (updM k v l) = if k' = k then some v else getM k' l
  | []=>by simp [updM,getM]
  | e :: r=>by
    unfold updM
    by_cases h1 : k = e.1
    · rw [if_pos h1]; simp only [getM]
      by_cases h2 : k' = k
      · simp [h2]
      · rw [if_neg h2,if_neg h2,if_neg (by rw [← h1]; exact h2)]
    · rw [if_neg h1]; simp only [getM, get_upd k k' v r]
      by_cases h2 : k' = e.1
      · rw [if_pos h2,if_pos h2,if_neg (by rw [h2]; exact fun h=>h1 h.symm)]
      · rw [if_neg h2,if_neg h2]
def keysM (l : List (α × β)) : List α:=l.map (·.1)
theorem keys_cons (e : α × β) (r : List (α × β)) : keysM (e :: r) = e.1 :: keysM r:=rfl
theorem keys_upd (k : α) (v : β) : ∀ (l : List (α × β)),keysM (updM k v l) = if k ∈ keysM l then keysM l else keysM l ++ [k]
  | []=>rfl
  | e :: r=>by
    unfold updM
    by_cases h1 : k = e.1
    · rw [if_pos h1]; simp [keys_cons,h1]
    · rw [if_neg h1]
      rw [keys_cons,keys_cons,keys_upd k v r]
      by_cases h2 : k ∈ keysM r
      · rw [if_pos h2,if_pos (by simp [h2])]
      · rw [if_neg h2,if_neg (by simp [h1,h2])]; rfl
theorem keys_nodup (k : α) (v : β) {l : List (α × β)} (h : (keysM l).Nodup) : (keysM (updM k v l)).Nodup:=by
  rw [keys_upd]
  split
  · exact h
  · rename_i hk
    rw [List.nodup_append]
    exact ⟨h,by simp,fun a ha b hb=>by rw [List.mem_singleton] at hb; subst hb; intro e; subst e; exact hk ha⟩
theorem nx_mes {j m : Nat} {seen : List Nat} {K : AV → Heap → Esc → Prop} (hj : h[j]? = some (.iter (some m) l.length seen l.length)) (hm : h[m]? = some (mobj key val l))
    (hend : (∀ i,i < l.length → i ∈ seen) → K (.tup [AV.p (.bool false)]) (h.set j (.iter none 1 [] 0)) [])
    (hstep : ∀ (i : Nat) (hi : i < l.length),i ∉ seen → K (.tup [AV.p (.bool true),.p (key l[i].1),val l[i].2]) (h.set j (.iter (some m) l.length (seen ++ [i]) l.length)) []) : nxK (.it j) h K:=by
  unfold nxK mnexts
  simp only [hj,mget_mes hm,and_self,if_true]
  have hmem : ∀ e ∈ (mesF key val 0 l).filter (fun e=>!seen.contains e.born),∃ (i : Nat) (hi : i < l.length),e = ⟨key l[i].1,val l[i].2,i⟩ ∧ i ∉ seen:=by
    intro e he
    obtain ⟨h1,h2⟩:=List.mem_filter.1 he
    obtain ⟨i,hi,e2⟩:=List.mem_iff_getElem?.1 h1 |>.elim fun i hi=>by
      rw [mes_get] at hi
      obtain ⟨x,hx,e3⟩:=Option.map_eq_some_iff.1 hi
      obtain ⟨hl,e4⟩:=List.getElem?_eq_some_iff.1 hx
      exact (⟨i,hl,by rw [← e3,← e4]; simp⟩ : ∃ (i : Nat) (hi : i < l.length),e = ⟨key l[i].1,val l[i].2,i⟩)
    refine ⟨i,hi,e2,?_⟩
    rw [e2] at h2
    simpa using h2
  have hnil : (mesF key val 0 l).filter (fun e=>!seen.contains e.born) = [] → ∀ i,i < l.length → i ∈ seen:=by
    intro hf i hi
    have h1:=List.filter_eq_nil_iff.1 hf ⟨key l[i].1,val l[i].2,i⟩ (by
      apply List.mem_iff_getElem?.2
      exact ⟨i,by rw [mes_get,List.getElem?_eq_getElem hi]; simp⟩)
    simpa using h1
  generalize (mesF key val 0 l).filter (fun e=>!seen.contains e.born) = F at *
  cases F with
  | nil=>
    refine ⟨by simp,fun y hy=>?_⟩
    rw [List.mem_singleton] at hy
    subst hy
    exact hend (hnil rfl)
  | cons e F=>
    refine ⟨by simp,fun y hy=>?_⟩
    obtain ⟨e',he',rfl⟩:=List.mem_map.1 hy
    obtain ⟨i,hi,e2,h2⟩:=hmem e' he'
    subst e2
    exact hstep i hi h2
theorem mrange_mes (hh : h[id]? = some (mobj key val l)) : oMrange (.mp id) h = some (.it h.length,h ++ [.iter (some id) l.length [] l.length],[]):=by
  simp only [oMrange,mget_mes hh]
theorem mentry_mes {j m : Nat} {seen : List Nat} {i : Nat} (hj : h[j]? = some (.iter (some m) l.length (seen ++ [i]) l.length)) (hm : h[m]? = some (mobj key val l)) (hi : i < l.length) :
    oMentry (.it j) h = some (.tup [.p (key l[i].1),val l[i].2],h,[]):=by
  simp only [oMentry,hj,mget_mes hm,List.getLast?_append,List.getLast?_singleton,Option.some_or,if_true]
  have hb:=born_find (key:=key) (val:=val) hi
  have hg:=mes_get (key:=key) (val:=val) l 0 i
  rw [List.getElem?_eq_getElem hi] at hg
  have hf : (mesF key val 0 l).find? (fun e=>e.born == i) = some ⟨key l[i].1,val l[i].2,i⟩:=by
    rw [List.find?_eq_some_iff_getElem]
    rw [List.findIdx?_eq_some_iff_getElem] at hb
    obtain ⟨h1,h2,h3⟩:=hb
    refine ⟨by simp,i,h1,?_,fun j hj=>by simpa using h3 j hj⟩
    have:=List.getElem?_eq_getElem h1
    rw [hg] at this
    simpa using (Option.some.inj this).symm
  rw [hf]
  rfl
theorem seen_perm {n : Nat} {seen : List Nat} (hd : seen.Nodup) (hb : ∀ i ∈ seen,i < n) (ha : ∀ i,i < n → i ∈ seen) : seen.Perm (List.range n):=by
  rw [List.perm_ext_iff_of_nodup hd List.nodup_range]
  intro i
  rw [List.mem_range]
  exact ⟨hb i,ha i⟩
end
end Go.Am
end
section
/- Retests: which record of a unit counts,asv the program finds it. -/
open Go
set_option linter.all false
namespace Go.Am
variable {h : Heap} {K : Post}
theorem X_ex2 : X.ex2 = libF GRL PRL:=rfl
theorem s_Itoa (n : Int) (h0 : -9223372036854775808 ≤ n) (h1 : n ≤ 9223372036854775807) : ACall X f_q08i [AI n] h K = K (AS (itoa n)) h []:=by
  refine lib_call (X:=X) (by kernel_rfl) ?_
  rw [X_ex2]
  exact libF_pure (vs:=[.int .i64 n]) (by kernel_rfl) (s:=itoaS) rfl rfl (by simp [itoaS,h0,h1])
theorem s_final1 (a b : Rec) : ACall X f_q02r [.p a.pv,.p b.pv] h K = K (AI (unitC a b)) h []:=by
  refine rule ?_
  rw [c_q02r rfl]
  simp only [d_q02r,Rec.pv,go_sem,s_strCompare]
  rfl
def ruleF (ru : Int) : Int:=if 1 ≤ ru ∧ ru ≤ 3 then 0 else 4
theorem s_ruleFault (l : List Lim) (r : List Rec) (ru : Int) (hl : LimOk l) (hr : ∀ x ∈ r,RecOk x) (hn : r.length ≤ 1000000) : ACall X f_q031 [ALim l,ARec r,AI ru] h K = K (AI (orL [recsFault l r,ruleF ru])) h []:=by
  refine rule ?_
  rw [c_q031 rfl]
  have q:=fun h K=>s_CheckRecords (h:=h) (K:=K) l r hl hr hn
  by_cases h1 : recsFault l r = 0
  · by_cases h2 : 1 ≤ ru ∧ ru ≤ 3
    · have e : inB 1 ru 3 = true := by simp [inB, h2]
      simp only [d_q031,go_sem,q,h1,s_OutB,e,orL,ruleF,h2]
    · have e : inB 1 ru 3 = false := by simp only [inB]; simp; omega
      simp only [d_q031,go_sem,q,h1,s_OutB,e,orL,ruleF,h2]
  · simp only [d_q031,go_sem,q,h1,orL]
def ssPv (p : SS) : PV:=.agg [.str p.1,.str p.2]
abbrev ASS (l : List SS) : AV:=.p (.sl (some 2) (l.map ssPv))
theorem s_pair (s : List UInt8) (n : Int) (h0 : -9223372036854775808 ≤ n) (h1 : n ≤ 9223372036854775807) : ACall X f_q02x [AS s,AI n] h K = K (.p (ssPv (s,itoa n))) h []:=by
  refine rule ?_
  rw [c_q02x rfl]
  have q:=fun h K=>s_Itoa (h:=h) (K:=K) n h0 h1
  simp only [d_q02x,go_sem,q]
  rfl
def unitAt (out : List Rec) : List (List UInt8 × Int):=out.zipIdx.map fun y=>(y.1.unit,(y.2 : Int))
theorem unitAt_get {u : List UInt8} : ∀ (out : List Rec) (n : Nat),getM u ((out.zipIdx n).map fun y=>(y.1.unit,(y.2 : Int))) = if posU u out < out.length then some ((n + posU u out : Nat) : Int) else none
  | [],n=>by simp [getM,posU]
  | o :: out,n=>by
    simp only [List.zipIdx_cons,List.map_cons,getM]
    by_cases hu : u = o.unit
    · have e : posU u (o :: out) = 0 := by simp [posU, List.findIdx_cons, hu]
      rw [if_pos hu,e]
      simp
    · have e : posU u (o :: out) = posU u out + 1:=by
        have : ¬ o.unit = u:=fun h=>hu h.symm
        simp [posU,List.findIdx_cons,this]
      rw [if_neg hu,unitAt_get out (n + 1),e]
      simp only [List.length_cons,Nat.add_lt_add_iff_right]
      split
      · congr 2; omega
      · rfl
theorem unitAt_get0 {u : List UInt8} (out : List Rec) : getM u (unitAt out) = if posU u out < out.length then some ((posU u out : Nat) : Int) else none:=by
  have:=unitAt_get (u:=u) out 0
  simpa [unitAt] using this
theorem unitAt_snoc {out : List Rec} {x : Rec} (h : ¬ posU x.unit out < out.length) : updM x.unit (out.length : Int) (unitAt out) = unitAt (out ++ [x]):=by
  have h1 : whereM x.unit (unitAt out) = none:=by
    cases hw : whereM x.unit (unitAt out) with
    | none=>rfl
    | some i=>
      have:=where_some hw
      rw [unitAt_get0,if_neg h] at this
      cases this
  rw [upd_none h1]
  simp [unitAt,List.zipIdx_append]
theorem unitAt_set {out : List Rec} {i : Nat} {x : Rec} (hi : i < out.length) (h : x.unit = out[i].unit) : unitAt (out.set i x) = unitAt out:=by
  apply List.ext_getElem?
  intro j
  simp only [unitAt,List.getElem?_map,List.getElem?_zipIdx,List.getElem?_set]
  by_cases hij : i = j
  · subst hij
    simp [hi,h]
  · simp [hij]
def atObj (out : List Rec) : Obj:=mobj PV.str (fun n : Int=>AI n) (unitAt out)
attribute [-go_sem] oLook oMupd
set_option maxHeartbeats 2000000 in
theorem s_final (l : List Lim) (ru : Int) (r : List Rec) (hf : ∀ x ∈ r,formB l x.res = true) (hl : l.length ≤ 1000) (hn : r.length ≤ 12) : ACall X f_q02q [ALim l,ARec r,AI ru] h K = K (ARec (finL l ru r)) h []:=by
  refine rule ?_
  rw [c_q02q rfl]
  simp only [d_q02q,go_sem]
  refine N_loop (fun k : Nat=>⟨[(0,ALim l),(2,AI ru),(7,.mp h.length),(8,.own (h.length + 1) ((r.take k).foldl (putR l ru) []).length 0 ((r.take k).foldl (putR l ru) []).length),(14,ARec r),(15,AI r.length),(16,AI k)],h ++ [atObj ((r.take k).foldl (putR l ru) []),.row (some 4) (((r.take k).foldl (putR l ru) []).map Rec.pv) 0],[]⟩)
    (fun k=>k ≤ r.length) (fun k=>r.length - k) 0 rfl (by omega) ?_
  intro k hk
  rcases Nat.lt_or_ge k r.length with hlt | hge
  · have hg := map_get Rec.pv hlt
    have cx : cutP (some 4) 0 (r[k].pv) = some r[k].pv:=rfl
    have w2 : IntKind.i64.wrap ((k : Int) + 1) = ((k + 1 : Nat) : Int):=i64_wrap _ (by omega) (by omega)
    have et : (r.take (k + 1)).foldl (putR l ru) [] = putR l ru ((r.take k).foldl (putR l ru) []) r[k]:=by
      rw [List.take_succ_eq_append_getElem hlt,List.foldl_append]; rfl
    have hI:=finI_all l ru (r.take k) [] [] (finI_nil l ru)
    simp only [List.nil_append] at hI
    have hxf:=hf _ (List.getElem_mem hlt)
    generalize (r.take k).foldl (putR l ru) [] = out at *
    generalize hx : r[k] = x at *
    have ho : out.length ≤ 12:=by have:=hI.le; simp at this; omega
    have hoff : ∀ o ∈ out,formB l o.res = true:=fun o hm=>hf o (List.mem_of_mem_take (hI.mem o hm))
    by_cases hp : posU x.unit out < out.length
    · have lk : ∀ (hp : Heap) (z : AV),hp[h.length]? = some (atObj out) → oLook (none,[2]) true z (.mp h.length) (AS x.unit) hp = some (.tup [AI (posU x.unit out),AB true]):=fun hp' z hh=>by
        have:=look_mes (val:=fun n : Int=>AI n) keyI_str hh (kk:=(none,[2])) keyOf_str (ok:=true) (z:=z) (k:=x.unit)
        rw [unitAt_get0,if_pos hp] at this
        exact this
      have hgo:=map_get Rec.pv hp
      have co : cutP (some 4) 0 (out[posU x.unit out].pv) = some out[posU x.unit out].pv:=rfl
      have fl:=fun h K=>s_failsF (h:=h) (K:=K) l out[posU x.unit out] (hoff _ (List.getElem_mem hp)) hl
      have hpu:=posU_get hp
      have epu : putR l ru out x = out.set (posU x.unit out) (updR l ru out[posU x.unit out] x):=by unfold putR; rw [dif_pos hp]
      have hun:=unitAt_set (i:=posU x.unit out) (x:=updR l ru out[posU x.unit out] x) hp (by rw [updR_unit hpu,hpu])
      have hpx : (posU x.unit out : Int) < out.length:=by omega
      have hset : ∀ y : Rec,(out.map Rec.pv).set (posU x.unit out) y.pv = (out.set (posU x.unit out) y).map Rec.pv:=fun y=>by rw [List.map_set]
      have hself : out.set (posU x.unit out) out[posU x.unit out] = out:=List.set_getElem_self hp
      have st:=shp_st (sh:=some 4) (x:=x.pv) (y:=(out[posU x.unit out]).pv) rfl rfl
      generalize posU x.unit out = p at *
      generalize hop : out[p] = o at *
      have fin : ∀ y : Rec,updR l ru o x = y → ∃ u,(⟨[(0,ALim l),(2,AI ru),(7,AV.mp h.length),(8,AV.own (h.length + 1) out.length 0 out.length),(14,ARec r),(15,AI r.length),(16,AI ((k + 1 : Nat) : Int))],h ++ [atObj out,Obj.row (some 4) ((out.set p y).map Rec.pv) 0],[]⟩ : St) =
          ⟨[(0,ALim l),(2,AI ru),(7,.mp h.length),(8,.own (h.length + 1) ((r.take u).foldl (putR l ru) []).length 0 ((r.take u).foldl (putR l ru) []).length),(14,ARec r),(15,AI r.length),(16,AI u)],h ++ [atObj ((r.take u).foldl (putR l ru) []),.row (some 4) (((r.take u).foldl (putR l ru) []).map Rec.pv) 0],[]⟩ ∧ u ≤ r.length ∧ r.length - u < r.length - k:=fun y hy=>by
        refine ⟨k + 1,?_,by omega,by omega⟩
        simp only [et,epu,hy,List.length_set]
        rw [← hy]
        unfold atObj
        rw [hun]
      simp only [Rec.pv] at hg cx hgo co fl lk hset st
      by_cases r2 : ru = 2
      · have e : updR l ru o x = x := by simp [updR, r2]
        have f1 : h.length + 2 ≤ h.length + 2:=by omega
        simp only [go_sem,hlt,hg,cx,lk,r2,hp,hgo,co,st,hset,w2]
        rw [← r2]
        exact fin x e
      · by_cases r3 : ru = 3
        · by_cases hb : 0 ≤ failIdx l o.res
          · have e : updR l ru o x = x := by simp [updR, r3, badR, hb]
            simp only [go_sem,hlt,hg,cx,lk,r2,r3,hp,hgo,co,st,hset,w2,fl,hb]
            rw [← r3]
            exact fin x e
          · have e : updR l ru o x = o := by simp [updR, r3, badR, hb]
            simp only [go_sem,hlt,hg,cx,lk,r2,r3,hp,hgo,co,st,hset,w2,fl,hb]
            rw [← r3]
            have:=fin o e
            rw [hself] at this
            exact this
        · have e : updR l ru o x = o := by simp [updR, r2, r3]
          simp only [go_sem,hlt,hg,cx,lk,r2,r3,hp,hgo,co,st,hset,w2,fl]
          have:=fin o e
          rw [hself] at this
          exact this
    · have lk : ∀ (hp : Heap),hp[h.length]? = some (atObj out) → oLook (none,[2]) true (AI 0) (.mp h.length) (AS x.unit) hp = some (.tup [AI 0,AB false]):=fun hp' hh=>by
        have:=look_mes (val:=fun n : Int=>AI n) keyI_str hh (kk:=(none,[2])) keyOf_str (ok:=true) (z:=AI 0) (k:=x.unit)
        rw [unitAt_get0,if_neg hp] at this
        exact this
      have ud : ∀ (hp : Heap),hp[h.length]? = some (atObj out) → oMupd (none,[2]) (.mp h.length) (AS x.unit) (AI out.length) hp = some (.und,hp.set h.length (atObj (out ++ [x])),[]):=fun hp' hh=>by
        have:=mupd_mes (val:=fun n : Int=>AI n) keyI_str hh (kk:=(none,[2])) keyOf_str (k:=x.unit) (v:=(out.length : Int)) rfl
        rw [unitAt_snoc hp] at this
        exact this
      have epu : putR l ru out x = out ++ [x]:=by unfold putR; rw [dif_neg hp]
      have hmx : out.length + 1 ≤ maxSl:=by unfold maxSl; omega
      have ems : out.map Rec.pv ++ [PV.agg [.str x.unit,eI x.time,.str x.site,.sl none (x.res.map eI)]] = (out ++ [x]).map Rec.pv:=by simp [Rec.pv]
      simp only [Rec.pv] at hg cx
      simp only [go_sem,hlt,hg,cx,lk,ud,w2,hmx]
      refine ⟨k + 1,?_,by omega,by omega⟩
      simp only [et,epu,ems,List.length_append,List.length_cons,List.length_nil]
  · have ek : k = r.length := by omega
    subst ek
    rw [List.take_length]
    have eo : (r.foldl (putR l ru) []).length ≤ r.length:=(finI l ru r).le
    show _
    have hfl : finL l ru r = isort (ltO unitC) (r.foldl (putR l ru) []):=rfl
    rw [hfl]
    generalize r.foldl (putR l ru) [] = out at *
    have so:=fun K=>SortFunc_Record (h:=h ++ [atObj out,Obj.row (some 4) (out.map Rec.pv) 0]) (K:=K) (h.length + 1) (out.map Rec.pv) rec_shps (by simp; omega) (by simp) (g:=f_q02r) (caps:=[]) (c:=fun x y=>unitC (unRec x) (unRec y))
      (fun o x hx y hy K=>by
        obtain ⟨p,_,rfl⟩:=List.mem_map.1 hx
        obtain ⟨q,_,rfl⟩:=List.mem_map.1 hy
        dsimp only
        rw [unRec_pv,unRec_pv]
        exact s_final1 p q)
    have em : isort (ltC fun x y=>unitC (unRec x) (unRec y)) (out.map Rec.pv) = (isort (ltO unitC) out).map Rec.pv:=isort_map Rec.pv (fun x y=>by simp only [ltC,ltO,unRec_pv]) _
    rw [em] at so
    have il:=isort_len (ltO unitC) out
    generalize isort (ltO unitC) out = ss at *
    simp only [List.length_map] at so
    have hw : win (ss.map Rec.pv) 0 out.length = ss.map Rec.pv:=win_full (by simp [il])
    have e0 : ∀ o : Obj,(h ++ [atObj out,Obj.row (some 4) (out.map Rec.pv) 0]).set (h.length + 1) o = h ++ [atObj out,o]:=fun o=>by rw [List.set_append_right _ _ (by omega)]; simp
    simp only [e0] at so
    have b1 : ¬ (h.length + 1 < h.length):=by omega
    have b2 : h.length ≤ h.length + 1:=by omega
    simp only [go_sem,Nat.lt_irrefl,so,il,hw,b1,b2]
end Go.Am
end
section
/- Cut at a byte; where a pair stands among pairs. -/
open Go
set_option linter.all false
namespace Go.Am
variable {h : Heap} {K : Post}
theorem s_slIndexByte (s : List UInt8) (c : UInt8) : ACall X f_q01z [AS s,.p (.int .u8 c.toNat)] h K = K (AI (idxB s c)) h []:=by
  refine rule ?_
  rw [c_q01z rfl]
  simp only [d_q01z,go_sem,s_idxExt]
theorem idxB_at (a b : List UInt8) (c : UInt8) (ha : c ∉ a) : idxB (a ++ c :: b) c = (a.length : Int):=by
  unfold idxB
  have h1 : (a ++ c :: b).findIdx (· == c) = a.length:=by
    rw [List.findIdx_append]
    have : a.findIdx (· == c) = a.length:=by
      rw [List.findIdx_eq_length]
      intro x hx
      simp
      intro e; subst e; exact ha hx
    rw [this,if_neg (by omega)]
    simp [List.findIdx_cons]
  rw [h1,if_pos (by simp)]
attribute [-go_sem] e_q01y_k1 e_q01y_k2 e_q01y_k3 d_q01y_k1 d_q01y_k2 d_q01y_k3
theorem s_slIndex (s : List UInt8) (hs : s.length ≤ 1000000) : ACall X f_q01y [AS s,AS [47]] h K = K (AI (idxB s 47)) h []:=by
  refine rule ?_
  rw [c_q01y rfl]
  have q:=fun h K=>s_slIndexByte (h:=h) (K:=K) s 47
  have e : ((47 : UInt8).toNat : Int) = 47:=rfl
  rw [e] at q
  simp only [d_q01y,go_sem,e,↓q,q,List.length_cons,List.length_nil]
  split
  · rename_i h1; subst h1; rfl
  · trivial
theorem s_Cut (a b : List UInt8) (ha : (47 : UInt8) ∉ a) (hs : (a ++ 47 :: b).length ≤ 1000000) : ACall X f_q08w [AS (a ++ 47 :: b),AS [47]] h K = K (.tup [AS a,AS b,AB true]) h []:=by
  have key : ∀ (h : Heap) (K : Post),ACall X f_q01w [AS (a ++ 47 :: b),AS [47]] h K = K (.tup [AS a,AS b,AB true]) h []:=by
    intro h K
    refine rule ?_
    rw [c_q01w rfl]
    have q:=fun h K=>s_slIndex (h:=h) (K:=K) (a ++ 47 :: b) hs
    rw [idxB_at a b 47 ha] at q
    have W1 : win (a ++ 47 :: b) 0 a.length = a:=by unfold win; simp
    have W2 : win (a ++ 47 :: b) (a.length + 1) (a.length + (b.length + 1) - (a.length + 1)) = b:=by unfold win; rw [show a ++ 47 :: b = (a ++ [47]) ++ b by simp,List.drop_left' (by simp)]; exact List.take_of_length_le (by omega)
    have hp : ¬ (a.length : Int) < 0:=by omega
    have hp2 : (0 : Int) ≤ a.length:=by omega
    have hl : a.length ≤ (a ++ 47 :: b).length:=by simp
    have hl2 : a.length + 1 ≤ (a ++ 47 :: b).length:=by simp
    have w : IntKind.i64.wrap ((a.length : Int) + 1) = ((a.length + 1 : Nat) : Int):=i64_wrap _ (by simp at hs; omega) (by simp at hs; omega)
    have t1 : (a ++ 47 :: b).take a.length = a:=by simp
    have t2 : (a ++ 47 :: b).drop (a.length + 1) = b:=by
      rw [show a ++ 47 :: b = (a ++ [47]) ++ b by simp]
      exact List.drop_left' (by simp)
    simp only [d_q01w,go_sem,↓q,q,hp,hp2,hl,hl2,w,W1,W2,List.length_cons,List.length_nil]
  refine rule ?_
  rw [c_q08w rfl]
  simp only [d_q08w,go_sem,↓key,key]
theorem s_IndexP (P : List SS) (q : SS) (hl : P.length ≤ 1000000) : ACall X f_q06b [ASS P,.p (ssPv q)] h K = K (AI (if P.findIdx (fun x=>decide (x = q)) < P.length then (P.findIdx (fun x=>decide (x = q)) : Int) else -1)) h []:=by
  refine rule ?_
  rw [c_q06b]
  obtain ⟨q1,q2⟩:=q
  simp only [d_q06b,go_sem,ssPv]
  refine N_loop (fun k : Nat=>⟨[(0,ASS P),(3,.ref h.length 0),(7,AI P.length),(8,AI k)],h ++ [.box [AS q1,AS q2]],[]⟩) (fun k=>k ≤ P.length ∧ ∀ i (hi : i < P.length),i < k → P[i] ≠ (q1,q2)) (fun k=>P.length - k) 0 rfl ⟨by omega,fun i _ hi=>by omega⟩ ?_
  rintro k ⟨hk,hp⟩
  rcases Nat.lt_or_ge k P.length with hlt | hge
  · have hg := map_get ssPv hlt
    simp only [ssPv] at hg
    have w2 : IntKind.i64.wrap ((k : Int) + 1) = ((k + 1 : Nat) : Int):=i64_wrap _ (by omega) (by omega)
    by_cases he : P[k] = (q1,q2)
    · have e1 : P.findIdx (fun x=>decide (x = (q1,q2))) = k:=by
        rw [List.findIdx_eq hlt]
        exact ⟨by simpa using he,fun j hj=>by simpa using hp j (by omega) hj⟩
      have a1 : (P[k]).1 = q1:=by rw [he]
      have a2 : (P[k]).2 = q2:=by rw [he]
      simp only [go_sem,hlt,hg,w2,a1,a2,e1]
    · have hc : ¬ (q1 = (P[k]).1 ∧ q2 = (P[k]).2) := fun ⟨c1, c2⟩ => he (by rw [c1, c2])
      simp only [go_sem,hlt,hg,w2]
      rw [if_neg (by simpa using hc)]
      exact ⟨k + 1,rfl,⟨by omega,fun i hi hik=>by
        rcases Nat.lt_or_ge i k with hh | hh
        · exact hp i hi hh
        · have : i = k := by omega
          subst this; exact he⟩,by omega⟩
  · have e1 : k = P.length := by omega
    subst e1
    have e2 : ¬ P.findIdx (fun x=>decide (x = (q1,q2))) < P.length:=by
      intro hh
      have:=List.findIdx_getElem (p:=fun x=>decide (x = (q1,q2))) (xs:=P) (w:=hh)
      exact hp _ hh hh (by simpa using this)
    simp only [go_sem,Nat.lt_irrefl,e2]
theorem s_ContainsP (P : List SS) (q : SS) (hl : P.length ≤ 1000000) : ACall X f_q05x [ASS P,.p (ssPv q)] h K = K (AB (decide (q ∈ P))) h []:=by
  refine rule ?_
  rw [c_q05x]
  have S:=fun h K=>s_IndexP (h:=h) (K:=K) P q hl
  obtain ⟨q1,q2⟩:=q
  simp only [ssPv] at S
  simp only [d_q05x,go_sem,ssPv,↓S,S]
  by_cases hm : (q1,q2) ∈ P
  · have : P.findIdx (fun x => decide (x = (q1, q2))) < P.length := List.findIdx_lt_length_of_exists ⟨_, hm, by simp⟩
    simp [this,hm]
  · have : ¬ P.findIdx (fun x=>decide (x = (q1,q2))) < P.length:=by
      intro hh
      have h2:=List.findIdx_getElem (p:=fun x=>decide (x = (q1,q2))) (xs:=P) (w:=hh)
      apply hm
      have h3 : P[P.findIdx (fun x=>decide (x = (q1,q2)))] = (q1,q2):=by simpa using h2
      rw [← h3]; exact List.getElem_mem hh
    simp [this,hm]
end Go.Am
end
section
/- The shortest way between two states of a test access port: a search over a queue. -/
open Go
set_option linter.all false
namespace Go.Am
variable {h : Heap} {K : Post}
attribute [-go_sem] oLook oMupd oMentry oMrange
def nxtT : List (List Nat):=[[1,0],[1,2],[3,9],[4,5],[4,5],[6,8],[6,7],[4,8],[1,2],[10,0],[11,12],[11,12],[13,15],[13,14],[11,15],[1,2]]
def nxt (s t : Nat) : Nat:=(nxtT.getD s []).getD t 0
theorem nxt_get {s t : Nat} (hs : s < 16) (ht : t < 2) : ([AI 1,AI 0,AI 1,AI 2,AI 3,AI 9,AI 4,AI 5,AI 4,AI 5,AI 6,AI 8,AI 6,AI 7,AI 4,AI 8,AI 1,AI 2,AI 10,AI 0,AI 11,AI 12,AI 11,AI 12,AI 13,AI 15,AI 13,AI 14,AI 11,AI 15,AI 1,AI 2] : List AV)[s * 2 + t * 1]? = some (AI (nxt s t)):=by
  have hs' : s = 0 ∨ s = 1 ∨ s = 2 ∨ s = 3 ∨ s = 4 ∨ s = 5 ∨ s = 6 ∨ s = 7 ∨ s = 8 ∨ s = 9 ∨ s = 10 ∨ s = 11 ∨ s = 12 ∨ s = 13 ∨ s = 14 ∨ s = 15:=by omega
  have ht' : t = 0 ∨ t = 1:=by omega
  rcases hs' with rfl | rfl | rfl | rfl | rfl | rfl | rfl | rfl | rfl | rfl | rfl | rfl | rfl | rfl | rfl | rfl <;> rcases ht' with rfl | rfl <;> rfl
theorem g_tapnext {Y : Ctx} (hY : Y.fn f_q09c = some a_q09c) (s t : Nat) (hs : s < 16) (ht : t < 2) : ACall Y f_q09c [AI s,AI t] h K = K (AI (nxt s t)) h []:=by
  refine rule ?_
  rw [call_val hY rfl (show puras h [AI s,AI t] = some ([AI s,AI t],h) from rfl) rfl,e_q09c]
  show d_q09c _ _ _ _ _ _ (finR [.t 4] false _ _)
  have g:=nxt_get hs ht
  simp only [d_q09c,go_sem,hs,ht,g]
abbrev Ways:=List (Int × List UInt8)
def keyP (n : Int) : PV:=.int .i64 n
def valP (s : List UInt8) : AV:=.p (.str s)
def bit1 (t : Nat) : List UInt8:=[UInt8.ofNat (48 + t)]
def visit (at_ t : Nat) (s : Ways × List Nat) : Ways × List Nat:=
  if (getM (nxt at_ t : Int) s.1).isSome then s else (updM (nxt at_ t : Int) ((getM (at_ : Int) s.1).getD [] ++ bit1 t) s.1,s.2 ++ [nxt at_ t])
def visits (at_ : Nat) : Nat → Ways × List Nat → Ways × List Nat
  | 0,s=>s
  | t + 1,s=>visit at_ t (visits at_ t s)
def popS (s : Ways × List Nat) : Ways × List Nat:=match s.2 with
  | []=>s
  | a :: r=>visits a 2 (s.1,r)
def bfs (a : Nat) : Nat → Ways × List Nat
  | 0=>([((a : Int),[])],[a])
  | k + 1=>popS (bfs a k)
def pathV (a b : Nat) : List UInt8:=(getM (b : Int) (bfs a 16).1).getD []
def fineS (s : Ways × List Nat) : Bool:=decide (s.1.length ≤ 16) && decide (s.2.length ≤ 16) && s.2.all (fun x=>decide (x < 16)) && s.1.all (fun e=>decide (e.2.length ≤ 16))
theorem bfs_all : (List.range 16).all (fun a=>(List.range 16).all (fun k=>fineS (bfs a k) && !(bfs a k).2.isEmpty) && fineS (bfs a 16) && (bfs a 16).2.isEmpty) = true:=by kernel_rfl
theorem bfs_fine {a k : Nat} (ha : a < 16) (hk : k < 16) : fineS (bfs a k) = true ∧ (bfs a k).2 ≠ []:=by
  have h1:=List.all_eq_true.1 bfs_all a (List.mem_range.2 ha)
  simp only [Bool.and_eq_true] at h1
  have h2:=List.all_eq_true.1 h1.1.1 k (List.mem_range.2 hk)
  simp only [Bool.and_eq_true,Bool.not_eq_true',List.isEmpty_eq_false_iff] at h2
  exact h2
theorem bfs_end {a : Nat} (ha : a < 16) : fineS (bfs a 16) = true ∧ (bfs a 16).2 = []:=by
  have h1:=List.all_eq_true.1 bfs_all a (List.mem_range.2 ha)
  simp only [Bool.and_eq_true,List.isEmpty_iff] at h1
  exact ⟨h1.1.2,h1.2⟩
theorem fine_inv {s : Ways × List Nat} (hf : fineS s = true) : s.1.length ≤ 16 ∧ s.2.length ≤ 16 ∧ (∀ x ∈ s.2,x < 16) ∧ ∀ e ∈ s.1,e.2.length ≤ 16:=by
  unfold fineS at hf
  simp only [Bool.and_eq_true,decide_eq_true_eq,List.all_eq_true] at hf
  exact ⟨hf.1.1.1,hf.1.1.2,hf.1.2,hf.2⟩
theorem lookP {hp : Heap} {id : Nat} {m : Ways} {b : Int} (hh : hp[id]? = some (mobj keyP valP m)) : oLook (none,[0]) false (.p (.str [])) (.mp id) (AI b) hp = some (.p (.str ((getM b m).getD []))):=by
  have:=look_mes (key:=keyP) (val:=valP) (fun a b=>keyI_int a b) hh (kk:=(none,[0])) (k:=b) keyOf_int (ok:=false) (z:=.p (.str []))
  rw [cond_false] at this
  refine this.trans ?_
  cases getM b m <;> rfl
theorem lookQ {hp : Heap} {id : Nat} {m : Ways} {b : Int} (hh : hp[id]? = some (mobj keyP valP m)) : oLook (none,[0]) true (.p (.str [])) (.mp id) (AI b) hp = some (.tup [.p (.str ((getM b m).getD [])),AB (getM b m).isSome]):=by
  have:=look_mes (key:=keyP) (val:=valP) (fun a b=>keyI_int a b) hh (kk:=(none,[0])) (k:=b) keyOf_int (ok:=true) (z:=.p (.str []))
  rw [cond_true] at this
  refine this.trans ?_
  cases getM b m <;> rfl
theorem updP {hp : Heap} {id : Nat} {m : Ways} {b : Int} {v : List UInt8} (hh : hp[id]? = some (mobj keyP valP m)) : oMupd (none,[0]) (.mp id) (AI b) (.p (.str v)) hp = some (.und,hp.set id (mobj keyP valP (updM b v m)),[]):=
  mupd_mes (key:=keyP) (val:=valP) (fun a b=>keyI_int a b) hh (kk:=(none,[0])) (k:=b) keyOf_int (v:=v) rfl
structure Que (R : Heap) (i : Nat) (xs : List Nat) (off : Nat) (q : List Nat) : Prop where
  get : R[i]? = some (.row none (xs.map fun n : Nat=>eI n) 0)
  le : off ≤ xs.length
  eq : xs.drop off = q
theorem nq_one {hp : Heap} {id : Nat} {xs : List Nat} {off : Nat} {n : Int} {k : AV → Heap → Esc → Prop} (hh : hp[id]? = some (.row none (xs.map fun n : Nat=>eI n) 0)) (ho : off ≤ xs.length) (hm : xs.length ≤ 1000000)
    (k1 : k (.own id (xs.length + 1) off (xs.length - off + 1)) (hp.set id (.row none (xs.map (fun n : Nat=>eI n) ++ [eI n]) 0)) [])
    (k2 : k (.own hp.length (xs.length - off + 1) 0 (xs.length - off + 1)) (hp ++ [.row none ((xs.drop off).map (fun n : Nat=>eI n) ++ [eI n]) 0]) []) :
    nqK (some none) [.own id xs.length off (xs.length - off),.p (.sl none [eI n])] hp k:=by
  have hx : xs.length - off + 1 ≤ maxSl:=by unfold maxSl; omega
  have hr : rds hp (.p (.sl none [eI n])) = some (none,[eI n]):=rfl
  have hw : win (xs.map fun n : Nat=>eI n) off (xs.length - off) = (xs.drop off).map fun n : Nat=>eI n:=by
    unfold win
    rw [← List.map_drop]
    exact List.take_of_length_le (by simp)
  unfold nqK choices appq
  simp only [hr,if_true,hh,List.length_map,List.length_cons,List.length_nil,Nat.zero_add]
  rw [if_pos ⟨trivial,trivial,by omega,hx⟩,hw]
  refine ⟨by simp,fun y hy=>?_⟩
  simp only [List.mem_cons,List.not_mem_nil,or_false] at hy
  rcases hy with rfl | rfl
  · exact k1
  · exact k2
theorem mem_updM {α β : Type} [DecidableEq α] {k : α} {v : β} : ∀ {l : List (α × β)} {e : α × β},e ∈ updM k v l → e ∈ l ∨ e = (k,v)
  | [],e,h=>by simp [updM] at h; exact .inr h
  | x :: r,e,h=>by
    unfold updM at h
    split at h
    · rcases List.mem_cons.1 h with h | h
      · exact .inr h
      · exact .inl (List.mem_cons_of_mem _ h)
    · rcases List.mem_cons.1 h with h | h
      · exact .inl (h ▸ List.mem_cons_self)
      · rcases mem_updM h with h | h
        · exact .inl (List.mem_cons_of_mem _ h)
        · exact .inr h
theorem getM_mem {α β : Type} [DecidableEq α] {k : α} {v : β} : ∀ {l : List (α × β)},getM k l = some v → (k,v) ∈ l
  | [],h=>by cases h
  | x :: r,h=>by
    unfold getM at h
    split at h
    · rename_i he; cases h; subst he; simp
    · exact List.mem_cons_of_mem _ (getM_mem h)
theorem ways_len {n : Nat} {w : Ways} (hw : ∀ e ∈ w,e.2.length ≤ n) (k : Int) : ((getM k w).getD []).length ≤ n:=by
  cases hg : getM k w with
  | none=>simp
  | some v=>exact hw _ (getM_mem hg)
theorem visit_len {n at_ t : Nat} {s : Ways × List Nat} (hw : ∀ e ∈ s.1,e.2.length ≤ n) : ∀ e ∈ (visit at_ t s).1,e.2.length ≤ n + 1:=by
  unfold visit
  split
  · intro e he; have:=hw e he; omega
  · intro e he
    rcases mem_updM he with h | h
    · have:=hw e h; omega
    · subst h
      have:=ways_len hw (at_ : Int)
      simp [bit1]; omega
theorem visits_len {n at_ : Nat} {s : Ways × List Nat} (hw : ∀ e ∈ s.1,e.2.length ≤ n) : ∀ (t : Nat),∀ e ∈ (visits at_ t s).1,e.2.length ≤ n + t
  | 0=>hw
  | t + 1=>visit_len (visits_len hw t)
set_option maxHeartbeats 1000000 in
theorem g_path {Y : Ctx} (hY1 : Y.fn f_q09d = some a_q09d) (hY2 : Y.fn f_q09c = some a_q09c) (a b : Nat) (ha : a < 16) (hb : b < 16) : ACall Y f_q09d [AI a,AI b] h K = K (.p (.str (pathV a b))) h []:=by
  refine rule ?_
  rw [call_val_det hY1 rfl (show puras h [AI a,AI b] = some ([AI a,AI b],h) from rfl) rfl]
  simp only [e_q09d]
  show ∃ v h' x,_ ∧ d_q09d _ _ _ _ _ _ _ _ (finR [.t 4] false _ _)
  simp only [d_q09d]
  refine ⟨_,_,_,⟨rfl,rfl,rfl⟩,?_⟩
  have em : mobj keyP valP [((a : Int),([] : List UInt8))] = .amap [⟨.int .i64 a,.p (.str []),0⟩] 1:=rfl
  have u0:=fun (hp : Heap) (hh : hp[h.length]? = some (mobj keyP valP []))=>updP (b:=(a : Int)) (v:=[]) hh
  have e0 : updM (a : Int) [] ([] : Ways) = [((a : Int),[])]:=rfl
  have em0 : mobj keyP valP ([] : Ways) = .amap [] 0:=rfl
  rw [e0] at u0
  simp only [em0] at u0
  simp only [go_sem,u0]
  refine N_loop (fun t : Nat × Heap × Nat × List Nat × Nat × Option Nat=>⟨[(1,AI b),(5,.mp h.length),(6,.own (h.length + (t.2.2.1 + 1)) t.2.2.2.1.length t.2.2.2.2.1 (t.2.2.2.1.length - t.2.2.2.2.1))] ++ (match t.2.2.2.2.2 with | none=>[] | some q=>[(7,AI q),(25,AI 2),(26,AB false)]),h ++ mobj keyP valP (bfs a t.1).1 :: t.2.1,[]⟩)
    (fun t=>t.1 ≤ 16 ∧ Que t.2.1 t.2.2.1 t.2.2.2.1 t.2.2.2.2.1 (bfs a t.1).2 ∧ t.2.2.2.1.length ≤ 1 + 2 * t.1) (fun t=>16 - t.1) (0,[.row none [eI a] 0],0,[a],0,none) (by simp [bfs]) ⟨by simp,⟨rfl,by simp,rfl⟩,by simp⟩ ?_
  rintro ⟨k,R,i,xs,off,oq⟩ ⟨h1,hq,h2⟩
  dsimp only at h1 hq h2 ⊢
  have hqg:=hq.get
  have hle:=hq.le
  have heq:=hq.eq
  have hln : xs.length - off = (bfs a k).2.length:=by rw [← heq]; simp
  by_cases hk : k < 16
  · obtain ⟨hf, hne⟩ := bfs_fine ha hk
    obtain ⟨f1,f2,f3,f4⟩:=fine_inv hf
    have hpos : 0 < xs.length - off:=by rw [hln]; exact List.length_pos_iff.2 hne
    have hoff : off < xs.length:=by omega
    obtain ⟨q0,qr,hqe⟩ : ∃ q0 qr,(bfs a k).2 = q0 :: qr:=by
      cases hb2 : (bfs a k).2 with
      | nil=>exact absurd hb2 hne
      | cons x y=>exact ⟨x,y,rfl⟩
    have hx0 : xs[off]? = some q0:=by
      have : (xs.drop off)[0]? = some q0:=by rw [heq,hqe]; rfl
      rwa [List.getElem?_drop,Nat.add_zero] at this
    have hdr : xs.drop (off + 1) = qr:=by
      rw [← List.drop_drop,heq,hqe]; rfl
    have hq0 : q0 < 16:=f3 q0 (by rw [hqe]; simp)
    have hgq : (xs.map fun n : Nat=>eI n)[off]? = some (eI q0):=by rw [List.getElem?_map,hx0]; rfl
    have hpi : (0 : Int) < ((xs.length - off : Nat) : Int):=by omega
    have hl1 : 1 ≤ xs.length - off:=by omega
    have hbn : bfs a (k + 1) = visits q0 2 ((bfs a k).1,qr):=by show popS _ = _; unfold popS; rw [hqe]
    have e3 : xs.length - off - 1 = xs.length - (off + 1):=by omega
    have hcond : off + (xs.length - off) ≤ xs.length:=by omega
    have hNL : ∀ (e : List (Nat × AV)),prune (some [1,5,6,7,25]) e = prune (some [1,5,6,7,25]) e:=fun _=>rfl
    rcases oq with _ | oq
    all_goals
    simp only [List.append_nil,List.cons_append,List.nil_append,go_sem,List.getElem?_cons_succ,hqg,hpi,hpos,hgq,hl1,hcond]
    all_goals
    clear u0 em em0 e0
    generalize hw0 : ((bfs a k).1,qr) = s0 at *
    have es1 : (bfs a k).1 = s0.1:=by rw [← hw0]
    have es2 : qr = s0.2:=by rw [← hw0]
    rw [es1,e3]
    refine N_loop (fun t : Nat × Heap × Nat × List Nat × Nat=>⟨[(1,AI b),(5,.mp h.length),(6,.own (h.length + (t.2.2.1 + 1)) t.2.2.2.1.length t.2.2.2.2 (t.2.2.2.1.length - t.2.2.2.2)),(7,AI q0),(25,AI t.1)],h ++ mobj keyP valP (visits q0 t.1 s0).1 :: t.2.1,[]⟩)
      (fun t=>t.1 ≤ 2 ∧ Que t.2.1 t.2.2.1 t.2.2.2.1 t.2.2.2.2 (visits q0 t.1 s0).2 ∧ t.2.2.2.1.length ≤ 1 + 2 * k + t.1) (fun t=>2 - t.1) (0,R,i,xs,off + 1) rfl ⟨by simp,⟨hqg,hoff,by rw [hdr,es2]; rfl⟩,by simp; omega⟩ ?_
    rintro ⟨j,R',i',ys,of'⟩ ⟨j1,jq,j2⟩
    dsimp only at j1 jq j2 ⊢
    have jg:=jq.get
    have jle:=jq.le
    have jeq:=jq.eq
    by_cases hj : j < 2
    · have hji : (j : Int) < 2 := by omega
      have qn:=fun h K=>g_tapnext (h:=h) (K:=K) hY2 q0 j hq0 hj
      have hvis : visits q0 (j + 1) s0 = visit q0 j (visits q0 j s0):=rfl
      generalize hsj : visits q0 j s0 = s at *
      have lq:=fun (hp : Heap) (hh : hp[h.length]? = some (mobj keyP valP s.1))=>lookQ (b:=(nxt q0 j : Int)) hh
      have lp:=fun (hp : Heap) (hh : hp[h.length]? = some (mobj keyP valP s.1))=>lookP (b:=(q0 : Int)) hh
      have up:=fun (hp : Heap) (v : List UInt8) (hh : hp[h.length]? = some (mobj keyP valP s.1))=>updP (b:=(nxt q0 j : Int)) (v:=v) hh
      have w1 : IntKind.i64.wrap ((j : Int) + 1) = ((j + 1 : Nat) : Int):=i64_wrap _ (by omega) (by omega)
      cases hs : (getM (nxt q0 j : Int) s.1).isSome with
      | true=>
        have hv : visit q0 j s = s:=by unfold visit; rw [if_pos hs]
        rw [hv] at hvis
        simp only [go_sem,hji,↓qn,qn,lq,hs,w1]
        exact ⟨(j + 1,R',i',ys,of'),by dsimp only; rw [hvis],⟨by dsimp only; omega,by dsimp only; rw [hvis]; exact jq,by dsimp only; omega⟩,by dsimp only; omega⟩
      | false=>
        have hv : visit q0 j s = (updM (nxt q0 j : Int) ((getM (q0 : Int) s.1).getD [] ++ bit1 j) s.1,s.2 ++ [nxt q0 j]):=by unfold visit; rw [hs]; rfl
        rw [hv] at hvis
        have w2 : IntKind.i64.wrap (48 + (j : Int)) = ((48 + j : Nat) : Int):=i64_wrap _ (by omega) (by omega)
        have w3 : IntKind.i32.wrap ((48 + j : Nat) : Int) = ((48 + j : Nat) : Int):=by
          have : j = 0 ∨ j = 1:=by omega
          rcases this with rfl | rfl <;> rfl
        have w4 : (0 : Int) ≤ ((48 + j : Nat) : Int) ∧ ((48 + j : Nat) : Int) < 128:=by omega
        have hln2:=ways_len (visits_len (n:=16) (at_:=q0) (s:=s0) (by rw [← es1]; exact f4) j) (q0 : Int)
        rw [hsj] at hln2
        have w5 : ((getM (q0 : Int) s.1).getD []).length + (bit1 j).length ≤ maxStr:=by have : (bit1 j).length = 1:=rfl; unfold maxStr; omega
        have w6 : [UInt8.ofNat ((48 + j : Nat) : Int).toNat] = bit1 j:=rfl
        simp only [go_sem,hji,↓qn,qn,lq,hs,lp,up,w1,w2,w3,w4,w5,w6]
        have hh1 : (h ++ mobj keyP valP (updM (nxt q0 j : Int) ((getM (q0 : Int) s.1).getD [] ++ bit1 j) s.1) :: R')[h.length + (i' + 1)]? = some (.row none (ys.map fun n : Nat=>eI n) 0):=by
          rw [List.getElem?_append_right (by omega)]; simpa using jg
        have hi' : i' < R'.length:=lt_of_get jg
        refine nq_one hh1 jle (by omega) ?_ ?_
        · refine ⟨(j + 1, R'.set i' (.row none (ys.map (fun n : Nat => eI n) ++ [eI (nxt q0 j)]) 0), i', ys ++ [nxt q0 j], of'), ?_, ⟨by dsimp only; omega, ⟨?_, ?_, ?_⟩, ?_⟩, by dsimp only; omega⟩
          · dsimp only
            rw [hvis,List.set_append_right _ _ (by omega)]
            simp only [List.length_append,List.length_cons,List.length_nil,Nat.add_sub_cancel_left,List.set_cons_succ]
            rw [show ys.length + 1 - of' = ys.length - of' + 1 by omega]
          · dsimp only
            rw [List.getElem?_set_self hi']; simp
          · simp; omega
          · dsimp only
            rw [hvis,List.drop_append_of_le_length jle,jeq]
          · simp; omega
        · refine ⟨(j + 1, R' ++ [.row none ((ys.drop of').map (fun n : Nat => eI n) ++ [eI (nxt q0 j)]) 0], R'.length, ys.drop of' ++ [nxt q0 j], 0), ?_, ⟨by dsimp only; omega, ⟨?_, ?_, ?_⟩, ?_⟩, by dsimp only; omega⟩
          · dsimp only
            rw [hvis]
            simp
          · simp
          · simp
          · dsimp only
            rw [hvis,jeq,List.drop_zero]
          · simp; omega
    · have hj2 : j = 2 := by omega
      subst hj2
      simp only [go_sem]
      refine ⟨(k + 1,R',i',ys,of',some q0),?_,⟨by dsimp only; omega,by dsimp only; rw [hbn]; exact jq,by dsimp only; omega⟩,by dsimp only; omega⟩
      dsimp only
      rw [hbn]
  · have hk16 : k = 16 := by omega
    subst hk16
    obtain ⟨_,hne⟩:=bfs_end ha
    have hz : xs.length - off = 0:=by rw [hln,hne]; rfl
    have lk:=fun (hp : Heap) (hh : hp[h.length]? = some (mobj keyP valP (bfs a 16).1))=>lookP (b:=(b : Int)) hh
    have hpv : (getM (b : Int) (bfs a 16).1).getD [] = pathV a b:=rfl
    rcases oq with _ | oq <;> simp only [List.append_nil,List.cons_append,List.nil_append,go_sem,hz,lk,hpv]
end Go.Am
end
section
/- ready: a closed call,computed. -/
open Go
set_option linter.all false
namespace Go.Am
def orcP (f : Nat) (a : List AV) : Option AV:=bif Nat.beq f f_q09d then match a with
  | [.p (.int .i64 x),.p (.int .i64 y)]=>bif decide (0 ≤ x) && decide (x < 16) && decide (0 ≤ y) && decide (y < 16) then some (.p (.str (pathV x.toNat y.toNat))) else none
  | _=>none else none
theorem orcP_ok : ∀ f a v,orcP f a = some v → ∀ h (K : Post),K v h [] → ACall X0 f a h K:=by
  intro f a v hv h K hK
  unfold orcP at hv
  cases hf : Nat.beq f f_q09d with
  | false=>rw [hf] at hv; cases hv
  | true=>
    have hf':=Nat.eq_of_beq_eq_true hf
    rw [hf] at hv
    subst hf'
    simp only [cond_true] at hv
    split at hv
    · rename_i x y
      cases hc : (decide (0 ≤ x) && decide (x < 16) && decide (0 ≤ y) && decide (y < 16)) with
      | false=>rw [hc] at hv; cases hv
      | true=>
        rw [hc] at hv
        simp only [cond_true,Option.some.injEq] at hv
        simp only [Bool.and_eq_true,decide_eq_true_eq] at hc
        obtain ⟨a,rfl⟩:=Int.eq_ofNat_of_zero_le hc.1.1.1
        obtain ⟨b,rfl⟩:=Int.eq_ofNat_of_zero_le hc.1.2
        have:=g_path (h:=h) (K:=K) x0_tap_path x0_tap_next a b (by omega) (by omega)
        rw [this]
        subst hv
        exact hK
    · cases hv
theorem ready_ev : evCallO X0 orcP 1000 60 f_q03s [] [] = some (AB true,[],[]):=by kernel_rfl
theorem ready_true : ACall X0 f_q03s [] [] fun v h x=>v = AB true ∧ h = [] ∧ x = []:=(ACall_evO orcP_ok 1000 60 ready_ev _).2 ⟨rfl,rfl,rfl⟩
theorem s_ready {h : Heap} {K : Post} : ACall X f_q03s [] h K = K (AB true) h []:=lib_call (by kernel_rfl) rfl
end Go.Am
end
section
/- Rows that are handed to a function: it sees their values. -/
open Go
namespace Go.Am
end Go.Am
end
section
/- What all laws of the keep package use. -/
open Go
set_option linter.all false
namespace Go.Am
variable {h : Heap} {K : Post}
theorem s_errsK (l : List Int) (hl : l.length ≤ 1000) : ACall X f_q03q [AL l] h K = K (AI (firstErr l)) h []:=by
  refine rule ?_
  rw [c_q03q rfl]
  simp only [d_q03q,go_sem]
  refine N_loop (fun k : Nat=>⟨[(5,AL l),(6,AI l.length),(7,AI k)],h,[]⟩) (fun k=>k ≤ l.length ∧ firstErr (l.drop k) = firstErr l) (fun k=>l.length - k) 0 rfl (by simp) ?_
  rintro k ⟨hk,hp⟩
  rcases Nat.lt_or_ge k l.length with hlt | hge
  · have hg := map_get eI hlt
    have w2 : IntKind.i64.wrap ((k : Int) + 1) = ((k + 1 : Nat) : Int):=i64_wrap _ (by omega) (by omega)
    rw [List.drop_eq_getElem_cons hlt,firstErr] at hp
    by_cases he : l[k] = 0
    · rw [if_pos he] at hp
      simp only [go_sem,hlt,hg,w2,he]
      exact ⟨k + 1,rfl,⟨by omega,hp⟩,by omega⟩
    · rw [if_neg he] at hp
      simp only [go_sem,hlt,hg,w2,he]
      rw [hp]
  · have e1 : k = l.length := by omega
    subst e1
    simp only [go_sem,Nat.lt_irrefl]
    rw [List.drop_length] at hp
    rw [← hp]; rfl
end Go.Am
end
section
/- What is drawn and right: limits,records. -/
open Go
set_option linter.all false
namespace Go.Am
variable {L : List Int} {a : Int} {h l : Heap} {id : Nat} {K : Post}
theorem limOk_bd {l : List Lim} (h2 : l.length ≤ 3) (hb : ∀ x ∈ l,LimBd x) : LimOk l:=⟨by omega,fun x hx=>(hb x hx).k⟩
theorem g_RightLimits (hp : posN 200 a) : GenE f_q04e [] L a (fun v a2=>a ≤ a2 ∧ a2 ≤ a + 72 ∧ ∃ l : List Lim,1 ≤ l.length ∧ l.length ≤ 3 ∧ (∀ x ∈ l,LimBd x) ∧ limsFault l = 0 ∧ v = ALim l):=by
  refine GenE.of fun h id hid=>?_
  rw [c_q04e rfl]
  simp only [d_q04e,go_sem,hid]
  refine N_loop (fun t : Nat × Int=>⟨[(0,.ref id 0),(4,AI t.1)],h.set id (strm L t.2),[]⟩) (fun t=>t.1 ≤ 6 ∧ a ≤ t.2 ∧ t.2 ≤ a + 12 * t.1) (fun t=>6 - t.1) (0,a) rfl ⟨by simp,by simp,by simp⟩ ?_
  rintro ⟨k,b⟩ ⟨h1,h2,h3⟩
  dsimp only at h1 h2 h3 ⊢
  rcases Nat.lt_or_ge k 6 with hlt | hge
  · have hk : (k : Int) < 6 := by omega
    have w1 : IntKind.i64.wrap ((k : Int) + 1) = ((k + 1 : Nat) : Int):=i64_wrap _ (by omega) (by omega)
    obtain ⟨_,a2,⟨c1,c2,l,l1,l2,lb,rfl⟩,V⟩:=(g_LimitList (L:=L) (a:=b) (posN_le hp h2 (by omega))).set (h:=h) hid
    have F:=fun h K=>s_LimitsFault (h:=h) (K:=K) l (limOk_bd l2 lb).k (by omega)
    by_cases hf : limsFault l = 0
    · simp only [go_sem, hid, hk, ↓V, V, ↓F, F, hf]
      exact ⟨a2,⟨by omega,by omega,l,l1,l2,lb,hf,rfl⟩,rfl⟩
    · simp only [go_sem, hid, hk, ↓V, V, ↓F, F, hf, w1]
      exact ⟨(k + 1,a2),rfl,⟨by dsimp only; omega,by dsimp only; omega,by dsimp only; omega⟩,by dsimp only; omega⟩
  · have hk : ¬ (k : Int) < 6 := by omega
    simp only [go_sem,hid,hk]
    refine ⟨b,⟨by omega,by omega,[⟨[118,111,108,116],0,10,5⟩],by simp,by simp,fun x hx=>?_,by decide,rfl⟩,rfl⟩
    rw [List.mem_singleton] at hx
    subst hx
    exact ⟨by simp,by simp,by simp⟩
theorem g_RightRecords (hp : posN 20000 a) (l : List Lim) (hl1 : 1 ≤ l.length) (hl2 : l.length ≤ 3) (hl : LimOk l) (hz : limsFault l = 0) (n : Nat) (hn : n ≤ 19) :
    GenE f_q04f [ALim l,AI n] L a (fun v a2=>a ≤ a2 ∧ a2 ≤ a + 12000 ∧ ∃ rs : List Rec,rs.length ≤ n ∧ (∀ r ∈ rs,RecOk r) ∧ recsFault l rs = 0 ∧ v = ARec rs):=by
  refine GenE.of fun h id hid=>?_
  rw [c_q04f rfl]
  simp only [d_q04f,go_sem,hid]
  refine N_loop (fun t : Nat × Int=>⟨[(0,.ref id 0),(1,ALim l),(2,AI n),(8,AI t.1)],h.set id (strm L t.2),[]⟩) (fun t=>t.1 ≤ 6 ∧ a ≤ t.2 ∧ t.2 ≤ a + 2000 * t.1) (fun t=>6 - t.1) (0,a) rfl ⟨by simp,by simp,by simp⟩ ?_
  rintro ⟨k,b⟩ ⟨h1,h2,h3⟩
  dsimp only at h1 h2 h3 ⊢
  rcases Nat.lt_or_ge k 6 with hlt | hge
  · have hk : (k : Int) < 6 := by omega
    have w1 : IntKind.i64.wrap ((k : Int) + 1) = ((k + 1 : Nat) : Int):=i64_wrap _ (by omega) (by omega)
    obtain ⟨_,a2,⟨c1,c2,rs,r1,r2,rfl⟩,V⟩:=(g_Records (L:=L) (a:=b) (posN_le hp h2 (by omega)) l hl1 hl2 n hn).set (h:=h) hid
    have F:=fun h K=>s_RecordsFault (h:=h) (K:=K) l rs hl r2 (by omega)
    by_cases hf : recsFault l rs = 0
    · simp only [go_sem, hid, hk, ↓V, V, ↓F, F, hf]
      exact ⟨a2,⟨by omega,by omega,rs,r1,r2,hf,rfl⟩,rfl⟩
    · simp only [go_sem, hid, hk, ↓V, V, ↓F, F, hf, w1]
      exact ⟨(k + 1,a2),rfl,⟨by dsimp only; omega,by dsimp only; omega,by dsimp only; omega⟩,by dsimp only; omega⟩
  · have hk : ¬ (k : Int) < 6 := by omega
    simp only [go_sem,hid,hk]
    refine ⟨b,⟨by omega,by omega,[],by simp,by simp,?_,rfl⟩,rfl⟩
    unfold recsFault
    rw [if_neg (by simp [hz])]
    rfl
end Go.Am
end
section
/- Lists of strings sorted,left out: printed by program. -/
open Go
set_option linter.unusedSimpArgs false
namespace Go.Am
attribute [-go_sem] PV.cells splice
variable {h : Heap} {K : Post}
theorem insOrd_string (id n : Nat) (l tl : List PV) (hn : n = l.length + tl.length) (hs : shps none l) (hl : l.length ≤ 1000) (hh : h[id]? = some (.row none (l ++ tl) 0)) {lt : PV → PV → Bool} (hc : ∀ x ∈ l,∀ y ∈ l,∀ (h : Heap) (K : Post),ACall X f_q00u [.p x,.p y] h K = K (AB (lt x y)) h []) :
    ACall X f_q06x [.own id n 0 l.length,AI 0,AI l.length] h K = K (.tup []) (h.set id (.row none (isort lt l ++ tl) 0)) []:=by
  refine rule ?_
  rw [c_q06x]
  have hid:=get_lt hh
  have hst : ∀ o,(h.set id o)[id]? = some o:=fun o=>set_get' hid
  simp only [d_q06x,go_sem,show IntKind.i64.wrap 1 = 1 from rfl]
  refine N_loop (fun i : Nat=>⟨[(0,.own id n 0 l.length),(1,AI 0),(2,AI l.length),(6,AI i)],h.set id (.row none ((isortR lt (l.take i)).reverse ++ (l.drop i ++ tl)) 0),[]⟩) (fun i=>1 ≤ i ∧ (i ≤ l.length ∨ i = 1)) (fun i=>l.length - i) 1 ?_ (by simp) ?_
  · have : (isortR lt (l.take 1)).reverse ++ (l.drop 1 ++ tl) = l ++ tl := by cases l <;> rfl
    rw [this,set_self hh]; rfl
  rintro i ⟨hi1,hi2⟩
  rcases Nat.lt_or_ge i l.length with hlt | hge
  · simp only [go_sem, hlt]
    have hxl : l[i] ∈ l:=List.getElem_mem hlt
    generalize hx : l[i] = x at *
    generalize hR : isortR lt (l.take i) = R
    have hRl : R.length = i:=by rw [← hR,isortR_len]; simp; omega
    have hRm : ∀ z ∈ R,z ∈ l:=fun z hz=>List.mem_of_mem_take ((isortR_perm lt (l.take i)).mem_iff.1 (by rw [hR]; exact hz))
    have hdrop : l.drop i = x :: l.drop (i + 1):=by rw [← hx]; exact List.drop_eq_getElem_cons hlt
    have hnext : isortR lt (l.take (i + 1)) = insR lt x R:=by rw [isortR_take_succ _ _ _ hlt,hR,hx]
    refine N_loop (fun t : List PV × List PV=>⟨[(0,.own id n 0 l.length),(1,AI 0),(2,AI l.length),(6,AI i),(7,AI t.1.length)],h.set id (.row none (t.1.reverse ++ x :: t.2) 0),[]⟩)
      (fun t=>∃ B,R = B ++ t.1 ∧ t.2 = B.reverse ++ (l.drop (i + 1) ++ tl) ∧ ∀ b ∈ B,lt x b = true) (fun t=>t.1.length) (R,l.drop (i + 1) ++ tl) (by rw [hdrop,hRl]; rfl) ⟨[],rfl,rfl,by simp⟩ ?_
    rintro ⟨A,C⟩ ⟨B,q1,q2,q3⟩
    dsimp only at q1 q2 q3
    have hlen : (A.reverse ++ x :: C).length = n:=by
      have : R.length = B.length + A.length:=by rw [q1]; simp
      rw [q2]; simp; omega
    have hBA : B.length + A.length < l.length:=by
      have : R.length = B.length + A.length:=by rw [q1]; simp
      omega
    have hln : l.length ≤ n:=by omega
    have w1 : IntKind.i64.wrap ((i : Int) + 1) = ((i + 1 : Nat) : Int):=i64_wrap _ (by omega) (by omega)
    cases A with
    | nil=>
      have hd : insR lt x R = B ++ [x]:=by rw [q1]; exact ins_done lt x [] B q3 (fun y r h=>by cases h)
      simp only [go_sem,Int.lt_irrefl,w1]
      refine ⟨i + 1,?_,by omega,by omega⟩
      simp only [hnext,hd,q2,List.reverse_append,List.reverse_nil,List.nil_append,List.reverse_cons,List.append_assoc,List.cons_append]
    | cons y A=>
      have hyl : y ∈ l:=hRm y (by rw [q1]; simp)
      have g1:=ins_get (y :: A) C x
      have g2:=ins_get1 A C x y
      have sw:=ins_swap A C x y
      simp only [List.length_cons] at hBA
      generalize hrow : (y :: A).reverse ++ x :: C = row at *
      simp only [List.length_cons] at g1
      have w2 : IntKind.i64.wrap (((A.length + 1 : Nat) : Int) - 1) = (A.length : Int):=by rw [i64_wrap _ (by omega) (by omega)]; omega
      have p1 : (0 : Int) < ((A.length + 1 : Nat) : Int):=by omega
      have b1 : A.length + 1 < l.length:=by omega
      have b2 : A.length < l.length:=by omega
      have cx:=shp_cut (hs x hxl)
      have cy:=shp_cut (hs y hyl)
      have hcc:=fun h K=>hc x hxl y hyl h K
      cases hxy : lt x y with
      | false=>
        have hd : insR lt x R = B ++ x :: y :: A:=by rw [q1]; exact ins_done lt x (y :: A) B q3 (fun z r h=>by cases h; exact hxy)
        simp only [go_sem,hst,p1,hlen,g1,g2,w2,b1,b2,hln,cx,cy,hcc,hxy,w1]
        refine ⟨i + 1,?_,by omega,by omega⟩
        simp only [hnext,hd,← hrow,q2,List.reverse_append,List.reverse_cons,List.append_assoc,List.cons_append,List.nil_append]
      | true=>
        have g3 : (row.set (A.length + 1) y)[A.length]? = some y:=by rw [List.getElem?_set_ne (by omega),g2]
        have lx:=shp_len (hs x hxl)
        have ly:=shp_len (hs y hyl)
        have sx:=shp_all (hs x hxl)
        have sy:=shp_all (hs y hyl)
        simp only [shSize] at lx ly
        have t1:=fun i xs h1=>shp_st (hs x hxl) (hs y hyl) id i 0 xs h1
        have t2:=fun i xs h1=>shp_st (hs y hyl) (hs x hxl) id i 0 xs h1
        simp only [go_sem,hst,p1,hlen,g1,g2,g3,w2,b1,b2,hln,cx,cy,hcc,hxy,lx,ly,sx,sy,t1,t2,sw]
        refine ⟨(A,y :: C),rfl,⟨B ++ [y],by simp [q1],by simp [q2],fun b hb=>?_⟩,by simp⟩
        rw [List.mem_append,List.mem_singleton] at hb
        rcases hb with hb | rfl
        · exact q3 b hb
        · exact hxy
  · have hge' : ¬ i < l.length := by omega
    have e1 : l.take i = l:=List.take_of_length_le hge
    have e2 : l.drop i = []:=List.drop_of_length_le hge
    simp only [go_sem,hge',e1,e2]
    rfl
theorem Sort_string (id n : Nat) (l tl : List PV) (hn : n = l.length + tl.length) (hs : shps none l) (hl : l.length ≤ 12) (hh : h[id]? = some (.row none (l ++ tl) 0)) {lt : PV → PV → Bool} (hc : ∀ x ∈ l,∀ y ∈ l,∀ (h : Heap) (K : Post),ACall X f_q00u [.p x,.p y] h K = K (AB (lt x y)) h []) :
    ACall X f_q06k [.own id n 0 l.length] h K = K (.tup []) (h.set id (.row none (isort lt l ++ tl) 0)) []:=by
  refine rule ?_
  rw [c_q06k]
  have w0 : IntKind.u64.wrap (l.length : Int) = l.length:=u64_wrap _ (by omega) (by omega)
  obtain ⟨m,hm⟩:=len_any (l.length : Int) (by omega) (by omega)
  have is:=fun h' (hq : h' = h) K=>insOrd_string (h:=h) (K:=K) id n l tl hn hs (by omega) hh hc
  have key : ∀ K : Post,ACall X f_q07j [.own id n 0 l.length,AI 0,AI l.length,AI m] h K = K (.tup []) (h.set id (.row none (isort lt l ++ tl) 0)) []:=by
    intro K
    refine rule ?_
    rw [c_q07j]
    simp only [d_q07j,go_sem]
    refine N_loop (fun _ : Unit=>⟨[(0,.own id n 0 l.length),(1,AI 0),(2,AI l.length),(3,AI m),(8,AB true),(9,AB true)],h,[]⟩) (fun _=>True) (fun _=>0) () rfl trivial ?_
    intro _ _
    have w1 : IntKind.i64.wrap ((l.length : Int) - 0) = l.length:=by rw [i64_wrap _ (by omega) (by omega)]; omega
    have b1 : ((l.length : Int) ≤ 12):=by omega
    simp only [go_sem,w1,b1,is _ rfl]
  simp only [d_q06k,go_sem,w0,hm,key]
end Go.Am
end
section
/- Finding and deleting records,strings: printed by program. -/
open Go
set_option linter.unusedSimpArgs false
namespace Go.Am
attribute [-go_sem] PV.cells splice
variable {h : Heap} {K : Post}
attribute [-go_sem] AV.cells cut
attribute [go_sem] AV.cells cut
end Go.Am
end
section
/- Units,and the record of each that counts: the reference's way. -/
open Go
set_option linter.all false
namespace Go.Am
variable {h : Heap} {K : Post}
abbrev AStr (us : List (List UInt8)) : AV:=.p (.sl none (us.map PV.str))
theorem str_shps {us : List (List UInt8)} : shps none (us.map PV.str):=fun x hx=>by obtain ⟨n,_,rfl⟩:=List.mem_map.1 hx; rfl
def unStr : PV → List UInt8
  | .str s=>s
  | _=>[]
theorem bytesLess_cmpL : ∀ a b : List UInt8,Op.bytesLess a b = ltS a b
  | [],[]=>rfl
  | [],_ :: _=>rfl
  | _ :: _,[]=>rfl
  | a :: x,b :: y=>by
    have ih:=bytesLess_cmpL x y
    unfold ltS at ih ⊢
    unfold Op.bytesLess cmpL
    rw [ih]
    by_cases h1 : a < b
    · simp [h1]
    · by_cases h2 : b < a
      · have : ¬ a = b := fun e => by subst e; exact UInt8.lt_irrefl _ h2
        simp [h1,h2,this]
      · have : a = b:=by
          rcases UInt8.lt_or_lt_of_ne (a:=a) (b:=b) |> fun f=>Classical.em (a = b) with e | e
          · exact e
          · rcases UInt8.lt_or_lt_of_ne e with h | h
            · exact absurd h h1
            · exact absurd h h2
        simp [h1,h2,this]
def ltPS (x y : PV) : Bool:=ltS (unStr x) (unStr y)
theorem s_isNaNS (a : List UInt8) : ACall X f_q00x [AS a] h K = K (AB false) h []:=by
  refine rule ?_
  rw [c_q00x rfl]
  simp only [d_q00x,go_sem]
theorem s_LessS (a b : List UInt8) : ACall X f_q00u [AS a,AS b] h K = K (AB (ltS a b)) h []:=by
  refine rule ?_
  rw [c_q00u rfl]
  simp only [d_q00u,go_sem,s_isNaNS,bytesLess_cmpL]
theorem less_str {us : List (List UInt8)} : ∀ x ∈ us.map PV.str,∀ y ∈ us.map PV.str,∀ (h : Heap) (K : Post),ACall X f_q00u [.p x,.p y] h K = K (AB (ltPS x y)) h []:=by
  intro x hx y hy h K
  obtain ⟨a,_,rfl⟩:=List.mem_map.1 hx
  obtain ⟨b,_,rfl⟩:=List.mem_map.1 hy
  exact s_LessS a b
theorem isort_str (us : List (List UInt8)) : isort ltPS (us.map PV.str) = (isort ltS us).map PV.str:=isort_map PV.str (fun a b=>rfl) us
theorem s_SortS (id : Nat) (us : List (List UInt8)) (hl : us.length ≤ 12) (hh : h[id]? = some (.row none (us.map PV.str) 0)) :
    ACall X f_q06k [.own id us.length 0 us.length] h K = K (.tup []) (h.set id (.row none ((isort ltS us).map PV.str) 0)) []:=by
  have:=Sort_string (h:=h) (K:=K) id us.length (us.map PV.str) [] (by simp) str_shps (by simpa using hl) (by simpa using hh) (lt:=ltPS) less_str
  simp only [List.length_map,List.append_nil,isort_str] at this
  exact this
end Go.Am
end
section
/- Final bins,both ways. -/
open Go
set_option linter.all false
namespace Go.Am
variable {h : Heap} {K : Post}
theorem limsFaultFrom_all : ∀ {l pre : List Lim},limsFaultFrom pre l = 0 → ∀ x ∈ l,limBad x = false
  | [],_,_,x,hx=>by cases hx
  | y :: l,pre,hf,x,hx=>by
    unfold limsFaultFrom at hf
    split at hf
    · cases hf
    · split at hf
      · cases hf
      · split at hf
        · cases hf
        · rename_i hb
          rcases List.mem_cons.1 hx with e | e
          · subst e; simpa using hb
          · exact limsFaultFrom_all hf x e
theorem lims_bin {l : List Lim} (hf : limsFault l = 0) : ∀ x ∈ l,2 ≤ x.bin ∧ x.bin ≤ 100:=by
  unfold limsFault at hf
  split at hf
  · cases hf
  · split at hf
    · cases hf
    · intro x hx
      have:=limsFaultFrom_all hf x hx
      unfold limBad inB at this
      simp at this
      omega
theorem binR_bd {l : List Lim} (hf : limsFault l = 0) (x : Rec) : 1 ≤ binR l x ∧ binR l x ≤ 100 ∧ (binR l x = 1 ↔ badR l x = false):=by
  have hb:=lims_bin hf
  unfold binR binV badR
  rcases failIdx_cases l x.res with ⟨e,_⟩ | ⟨k,e,hk,_⟩
  · rw [e]; simp
  · rw [e]
    have hkl : k < l.length:=by unfold goods at hk; simp at hk; omega
    have:=hb l[k] (List.getElem_mem hkl)
    rw [if_pos (by omega),Int.toNat_natCast,List.getD_eq_getElem?_getD,List.getElem?_eq_getElem hkl,Option.getD_some]
    refine ⟨by omega,by omega,?_⟩
    constructor
    · intro h; omega
    · intro h; simp at h
theorem recsFault_lims {l : List Lim} {r : List Rec} (h : recsFault l r = 0) : limsFault l = 0:=by
  unfold recsFault at h
  split at h
  · rename_i h1; exact absurd h h1
  · rename_i h1
    by_cases h2 : limsFault l = 0
    · exact h2
    · exact absurd h2 h1
theorem s_lotFinal (l : List Lim) (r : List Rec) (ru : Int) (hl : LimOk l) (hr : ∀ x ∈ r,RecOk x) (hn : r.length ≤ 12) :
    ACall X f_q025 [ALim l,ARec r,AI ru] h K = K (if orL [recsFault l r,ruleF ru] = 0 then .tup [ASS (finalP l ru r),AI 0] else .tup [ASS [],AI (orL [recsFault l r,ruleF ru])]) h []:=by
  refine rule ?_
  rw [c_q025 rfl]
  have q1:=fun h K=>s_ruleFault (h:=h) (K:=K) l r ru hl hr (by omega)
  by_cases he : orL [recsFault l r,ruleF ru] = 0
  case neg=>
    simp only [d_q025,go_sem,↓q1,q1,he]
    rfl
  have hz : recsFault l r = 0:=by unfold orL at he; split at he <;> simp_all
  have hfm : ∀ x ∈ r,formB l x.res = true:=fun x hx=>recFault_form (recsFault_all hz x hx)
  have q2:=fun h K=>s_final (h:=h) (K:=K) l ru r hfm hl.n hn
  have hul : (finL l ru r).length ≤ 12:=by have:=finL_len l ru r; omega
  have hmem : ∀ x ∈ finL l ru r,formB l x.res = true:=fun x hx=>hfm x (finL_mem hx)
  unfold finalP
  simp only [d_q025,go_sem,↓q1,q1,he,↓q2,q2]
  generalize finL l ru r = fs at *
  refine N_loop (fun k : Nat=>⟨[(0,ALim l),(9,.own h.length k 0 k),(22,ARec fs),(23,AI fs.length),(24,AI k)],h ++ [.row (some 2) (((fs.take k).map fun x=>(x.unit,itoa (binR l x))).map ssPv) 0],[]⟩)
    (fun k=>k ≤ fs.length) (fun k=>fs.length - k) 0 rfl (by omega) ?_
  intro k hk
  rcases Nat.lt_or_ge k fs.length with hlt | hge
  · have hg := map_get Rec.pv hlt
    have cx : cutP (some 4) 0 (fs[k].pv) = some fs[k].pv:=rfl
    have w2 : IntKind.i64.wrap ((k : Int) + 1) = ((k + 1 : Nat) : Int):=i64_wrap _ (by omega) (by omega)
    have hmx : k + 1 ≤ maxSl:=by unfold maxSl; omega
    have hln : min k fs.length = k:=by omega
    have hum:=List.getElem_mem hlt
    have et : ((fs.take (k + 1)).map fun x=>(x.unit,itoa (binR l x))).map ssPv = ((fs.take k).map fun x=>(x.unit,itoa (binR l x))).map ssPv ++ [ssPv (fs[k].unit,itoa (binR l fs[k]))]:=by rw [List.take_succ_eq_append_getElem hlt,List.map_append,List.map_append]; rfl
    have hcf:=hmem _ hum
    generalize fs[k] = c at *
    have q3:=fun h K=>s_binOf (h:=h) (K:=K) l c hcf hl.n
    have hbd:=binR_bd (recsFault_lims hz) c
    have q4:=fun h K=>s_pair (h:=h) (K:=K) c.unit (binR l c) (by omega) (by omega)
    have ebr : binV l (failIdx l c.res) = binR l c:=rfl
    rw [ebr] at q3
    simp only [Rec.pv] at q3 hg cx
    simp only [ssPv] at et q4
    simp only [go_sem,hlt,hg,cx,w2,hmx,hln,List.length_take,↓q3,q3,↓q4,q4]
    refine ⟨k + 1,?_,by omega,by omega⟩
    simp only [et]
  · have ek : k = fs.length := by omega
    subst ek
    simp only [go_sem,Nat.lt_irrefl,List.take_length]
    rw [win_full (by simp)]
attribute [-go_sem] oLook oMupd
def vI (n : Int) : AV:=.p (.int .i64 n)
def kS (s : List UInt8) : PV:=.str s
end Go.Am
end
section
/- Bins,the reference's way. -/
open Go
set_option linter.all false
namespace Go.Am
variable {h : Heap} {K : Post}
theorem countP_take_succ {α : Type} (p : α → Bool) (l : List α) (k : Nat) (hk : k < l.length) : (l.take (k + 1)).countP p = (l.take k).countP p + if p l[k] then 1 else 0:=by
  rw [List.take_succ_eq_append_getElem hk,List.countP_append]; simp [List.countP_cons]
end Go.Am
end
section
/- Stable sorts of numbers: printed by program. -/
open Go
set_option linter.unusedSimpArgs false
namespace Go.Am
attribute [-go_sem] PV.cells splice
variable {h : Heap} {K : Post}
theorem insCmp_int (id n : Nat) (l tl : List PV) (hn : n = l.length + tl.length) (hs : shps none l) (hl : l.length ≤ 1000) (hh : h[id]? = some (.row none (l ++ tl) 0)) {g : Nat} {caps : List AV} {c : PV → PV → Int} (hc : Cmps g caps c l id h) :
    ACall X f_q06v [.own id n 0 l.length,AI 0,AI l.length,.fn g caps] h K = K (.tup []) (h.set id (.row none (isort (ltC c) l ++ tl) 0)) []:=by
  refine rule ?_
  rw [c_q06v]
  have hid:=get_lt hh
  have hst : ∀ o,(h.set id o)[id]? = some o:=fun o=>set_get' hid
  simp only [d_q06v,go_sem,show IntKind.i64.wrap 1 = 1 from rfl]
  refine N_loop (fun i : Nat=>⟨[(0,.own id n 0 l.length),(1,AI 0),(2,AI l.length),(3,.fn g caps),(8,AI i)],h.set id (.row none ((isortR (ltC c) (l.take i)).reverse ++ (l.drop i ++ tl)) 0),[]⟩) (fun i=>1 ≤ i ∧ (i ≤ l.length ∨ i = 1)) (fun i=>l.length - i) 1 ?_ (by simp) ?_
  · have : (isortR (ltC c) (l.take 1)).reverse ++ (l.drop 1 ++ tl) = l ++ tl := by cases l <;> rfl
    rw [this,set_self hh]; rfl
  rintro i ⟨hi1,hi2⟩
  rcases Nat.lt_or_ge i l.length with hlt | hge
  · simp only [go_sem, hlt]
    have hxl : l[i] ∈ l:=List.getElem_mem hlt
    generalize hx : l[i] = x at *
    generalize hR : isortR (ltC c) (l.take i) = R
    have hRl : R.length = i:=by rw [← hR,isortR_len]; simp; omega
    have hRm : ∀ z ∈ R,z ∈ l:=fun z hz=>List.mem_of_mem_take ((isortR_perm (ltC c) (l.take i)).mem_iff.1 (by rw [hR]; exact hz))
    have hdrop : l.drop i = x :: l.drop (i + 1):=by rw [← hx]; exact List.drop_eq_getElem_cons hlt
    have hnext : isortR (ltC c) (l.take (i + 1)) = insR (ltC c) x R:=by rw [isortR_take_succ _ _ _ hlt,hR,hx]
    refine N_loop (fun t : List PV × List PV=>⟨[(0,.own id n 0 l.length),(1,AI 0),(2,AI l.length),(3,.fn g caps),(8,AI i),(9,AI t.1.length)],h.set id (.row none (t.1.reverse ++ x :: t.2) 0),[]⟩)
      (fun t=>∃ B,R = B ++ t.1 ∧ t.2 = B.reverse ++ (l.drop (i + 1) ++ tl) ∧ ∀ b ∈ B,ltC c x b = true) (fun t=>t.1.length) (R,l.drop (i + 1) ++ tl) (by rw [hdrop,hRl]; rfl) ⟨[],rfl,rfl,by simp⟩ ?_
    rintro ⟨A,C⟩ ⟨B,q1,q2,q3⟩
    dsimp only at q1 q2 q3
    have hlen : (A.reverse ++ x :: C).length = n:=by
      have : R.length = B.length + A.length:=by rw [q1]; simp
      rw [q2]; simp; omega
    have hBA : B.length + A.length < l.length:=by
      have : R.length = B.length + A.length:=by rw [q1]; simp
      omega
    have hln : l.length ≤ n:=by omega
    have w1 : IntKind.i64.wrap ((i : Int) + 1) = ((i + 1 : Nat) : Int):=i64_wrap _ (by omega) (by omega)
    cases A with
    | nil=>
      have hd : insR (ltC c) x R = B ++ [x]:=by rw [q1]; exact ins_done (ltC c) x [] B q3 (fun y r h=>by cases h)
      simp only [go_sem,Int.lt_irrefl,w1]
      refine ⟨i + 1,?_,by omega,by omega⟩
      simp only [hnext,hd,q2,List.reverse_append,List.reverse_nil,List.nil_append,List.reverse_cons,List.append_assoc,List.cons_append]
    | cons y A=>
      have hyl : y ∈ l:=hRm y (by rw [q1]; simp)
      have g1:=ins_get (y :: A) C x
      have g2:=ins_get1 A C x y
      have sw:=ins_swap A C x y
      simp only [List.length_cons] at hBA
      generalize hrow : (y :: A).reverse ++ x :: C = row at *
      simp only [List.length_cons] at g1
      have w2 : IntKind.i64.wrap (((A.length + 1 : Nat) : Int) - 1) = (A.length : Int):=by rw [i64_wrap _ (by omega) (by omega)]; omega
      have p1 : (0 : Int) < ((A.length + 1 : Nat) : Int):=by omega
      have b1 : A.length + 1 < l.length:=by omega
      have b2 : A.length < l.length:=by omega
      have cx:=shp_cut (hs x hxl)
      have cy:=shp_cut (hs y hyl)
      have hcc:=fun o K=>hc o x hxl y hyl K
      by_cases hxy : c x y < 0
      · have g3 : (row.set (A.length + 1) y)[A.length]? = some y := by rw [List.getElem?_set_ne (by omega), g2]
        have lx:=shp_len (hs x hxl)
        have ly:=shp_len (hs y hyl)
        have sx:=shp_all (hs x hxl)
        have sy:=shp_all (hs y hyl)
        simp only [shSize] at lx ly
        have t1:=fun i xs h1=>shp_st (hs x hxl) (hs y hyl) id i 0 xs h1
        have t2:=fun i xs h1=>shp_st (hs y hyl) (hs x hxl) id i 0 xs h1
        simp only [go_sem,hst,p1,hlen,g1,g2,g3,w2,b1,b2,hln,cx,cy,hcc,hxy,lx,ly,sx,sy,t1,t2,sw]
        refine ⟨(A,y :: C),rfl,⟨B ++ [y],by simp [q1],by simp [q2],fun b hb=>?_⟩,by simp⟩
        rw [List.mem_append,List.mem_singleton] at hb
        rcases hb with hb | rfl
        · exact q3 b hb
        · simpa [ltC] using hxy
      · have hd : insR (ltC c) x R = B ++ x :: y :: A := by rw [q1]; exact ins_done (ltC c) x (y :: A) B q3 (fun z r h => by cases h; simpa [ltC] using hxy)
        simp only [go_sem,hst,p1,hlen,g1,g2,w2,b1,b2,hln,cx,cy,hcc,hxy,w1]
        refine ⟨i + 1,?_,by omega,by omega⟩
        simp only [hnext,hd,← hrow,q2,List.reverse_append,List.reverse_cons,List.append_assoc,List.cons_append,List.nil_append]
  · have hge' : ¬ i < l.length := by omega
    have e1 : l.take i = l:=List.take_of_length_le hge
    have e2 : l.drop i = []:=List.drop_of_length_le hge
    simp only [go_sem,hge',e1,e2]
    rfl
theorem stable_int (id : Nat) (l : List PV) (hs : shps none l) (hl : l.length ≤ 19) (hh : h[id]? = some (.row none l 0)) {g : Nat} {caps : List AV} {c : PV → PV → Int} (hc : Cmps g caps c l id h) :
    ACall X f_q06i [.own id l.length 0 l.length,.fn g caps] h K = K (.tup []) (h.set id (.row none (isort (ltC c) l) 0)) []:=by
  refine rule ?_
  rw [c_q06i]
  have key : ∀ K : Post,ACall X f_q07t [.own id l.length 0 l.length,AI l.length,.fn g caps] h K = K (.tup []) (h.set id (.row none (isort (ltC c) l) 0)) []:=by
    intro K
    refine rule ?_
    rw [c_q07t]
    have is:=fun K=>insCmp_int (h:=h) (K:=K) id l.length l [] rfl hs (by omega) (by rw [List.append_nil]; exact hh) hc
    simp only [List.append_nil] at is
    have b1 : ¬ ((20 : Int) ≤ (l.length : Int)):=by omega
    have b2 : ¬ ((20 : Int) < (l.length : Int)):=by omega
    simp only [d_q07t,go_sem]
    refine N_loop (fun _ : Unit=>⟨[(0,.own id l.length 0 l.length),(1,AI l.length),(2,.fn g caps),(6,AI 20),(7,AI 0),(8,AI 20)],h,[]⟩) (fun _=>True) (fun _=>0) () rfl trivial ?_
    intro _ _
    simp only [go_sem,b1,is]
    refine N_loop (fun _ : Unit=>⟨[(0,.own id l.length 0 l.length),(1,AI l.length),(2,.fn g caps),(6,AI 20)],h.set id (.row none (isort (ltC c) l) 0),[]⟩) (fun _=>True) (fun _=>0) () rfl trivial ?_
    intro _ _
    simp only [go_sem,b2]
  simp only [d_q06i,go_sem,key]
end Go.Am
end
