/- Texts of the proof, laid together: SpThr3, PThr2, SpCnt2, SpArg, SpThr4, SpYld, SpInts, SpPar, SpPar2, SpSit, SpBin, SpLawUC, SpLawYC, Bridge, AmL2. -/
import Derived.ProofKit
import Derived.Shelf.Strconv.Itoa3
import Derived.Lib.LaidTab
import Derived.Test.YtndefcapdnkgmaaGreatDoorlawYC8
set_option linter.all false
section
/- The product of fractions,the reference's way. -/
open Go
set_option linter.all false
namespace Go.Am
variable {h : Heap} {K : Post}
attribute [-go_sem] oLook oMupd oMentry oMrange
def contC (w : Bool) (t : Nat × Nat) (q : Nat) (i : Nat) : Int:=if i = (bif w then 1 else 0) then (facK 20 2 t.1).count q else - ((facK 20 2 t.2).count q : Int)
def contS (w : Bool) (t : Nat × Nat) (q : Nat) (s : List Nat) : Int:=(s.map (contC w t q)).sum
theorem contS_snoc (w : Bool) (t : Nat × Nat) (q : Nat) (s : List Nat) (i : Nat) : contS w t q (s ++ [i]) = contS w t q s + contC w t q i:=by unfold contS; simp
theorem contS_full {w : Bool} {t : Nat × Nat} {q : Nat} {s : List Nat} (hp : s.Perm (List.range 2)) : contS w t q s = netC t q:=by
  have h1 : (s.map (contC w t q)).Perm ((List.range 2).map (contC w t q)):=hp.map _
  have h2 : ∀ {a b : List Int},a.Perm b → a.sum = b.sum:=fun h=>by
    induction h with
    | nil=>rfl
    | cons x _ ih=>simp [ih]
    | swap x y l=>simp; omega
    | trans _ _ h1 h2=>exact h1.trans h2
  unfold contS
  rw [h2 h1]
  show [contC w t q 0,contC w t q 1].sum = _
  cases w <;> simp [contC,netC] <;> omega
theorem contS_bd {w : Bool} {n m q : Nat} (hn : n ≤ 12) (hm : m ≤ 12) : ∀ {s : List Nat},s.length ≤ 1 → -3 ≤ contS w (n,m) q s ∧ contS w (n,m) q s ≤ 3
  | [],_=>by simp [contS]
  | [j],_=>by
    have a:=count_most hn q
    have b:=count_most hm q
    have c:=mostC_le q
    have e : contS w (n,m) q [j] = contC w (n,m) q j:=by simp [contS]
    rw [e]
    unfold contC
    dsimp only
    split <;> omega
  | _ :: _ :: _,h=>by simp at h
def preP (S : Nat → Int) (j : Nat) : Int:=prodI ((List.range' 2 j).map (bigP S))
theorem pre_succ (S : Nat → Int) (j : Nat) : preP S (j + 1) = preP S j * bigP S (j + 2):=by
  unfold preP
  rw [List.range'_concat,List.map_append,prodI_append]
  congr 1
  rw [show 2 + 1 * j = j + 2 by omega]
  exact Int.one_mul _
theorem pre_far {S : Nat → Int} (hz : ∀ q,12 < q → S q = 0) {j : Nat} (hj : 11 ≤ j) : preP S j = preP S 11:=by
  unfold preP
  refine prodI_among List.nodup_range' List.nodup_range' (fun q hq=>?_) fun q hq hn=>?_
  · rw [List.mem_range'_1] at hq ⊢; omega
  · rw [List.mem_range'_1] at hq hn
    unfold bigP
    rw [hz q (by omega)]; rfl
theorem pre_bd {S : Nat → Int} (hS : ∀ q,S q ≤ 3 * mostC q) (hz : ∀ q,12 < q → S q = 0) (j : Nat) : 1 ≤ preP S j ∧ preP S j ≤ 1000000000000000:=by
  have key : ∀ j,j ≤ 11 → 1 ≤ preP S j ∧ preP S j ≤ 1000000000000000:=fun j hj=>
    ⟨prodI_pos fun q hq=>bigP_pos (by rw [List.mem_range'_1] at hq; omega),prod_bound hS List.nodup_range' fun q hq=>by rw [List.mem_range'_1] at hq; omega⟩
  rcases Nat.lt_or_ge j 11 with h | h
  · exact key j (by omega)
  · rw [pre_far hz h]; exact key 11 (by omega)
theorem sumC_far {l : List (Nat × Nat)} (hl : ∀ t ∈ l,FrOk t) {q : Nat} (hq : 12 < q) : sumC l q = 0:=by
  have:=sumC_bd (l:=l) (fun t ht=>by have:=hl t ht; unfold FrOk at this; omega) q
  have e : mostC q = 0:=by unfold mostC; rw [if_neg (by omega),if_neg (by omega),if_neg (by omega),if_neg (by omega),if_neg (by omega)]
  rw [e] at this
  simp at this
  omega
attribute [-go_sem] e_q04u_k5 d_q04u_k5
set_option maxHeartbeats 4000000 in
theorem prod_k5 (l : List (Nat × Nat)) (k n m : Nat) (ks : List (Int × Int)) (L : List (Int × Int)) (w : Bool) (hn1 : 1 ≤ n ∧ n ≤ 12) (hm1 : 1 ≤ m ∧ m ≤ 12) (hnm : n ≠ m)
    (hL : ∀ i (hi : i < L.length),∃ (x : Nat) (b : Int),L[i].1 = (x : Int) ∧ L[i].2 = b ∧ 1 ≤ x ∧ x ≤ 12 ∧ (b = 1 ∨ b = -1) ∧ ∀ q,contC w (n,m) q i = b * ((facK 20 2 x).count q : Nat)) (hl2 : L.length = 2)
    (hsm : ∀ q,-100 ≤ sumC (l.take k) q ∧ sumC (l.take k) q ≤ 100) (hks : KeysOk 12 ks) (hpg : ∀ q : Nat,powG ks q = sumC (l.take k) q) (K : Ex → St → Prop)
    (hKa : ∀ ms : List (Int × Int),KeysOk 12 ms → (∀ q : Nat,powG ms q = sumC (l.take k) q + netC (n,m) q) → K .normal ⟨[(1,AI 5000),(4,.ref h.length 0),(6,.mp (h.length + 1)),(8,.ref (h.length + 2) 0),(17,AFr l),(18,AI l.length),(19,AI k),(33,.it (h.length + 4)),(35,AB false)],h ++ [.box [AI 0,AI 0],mobj kI vI ms,.box [AI n,AI m],mobj kI vI L,.iter none 1 [] 0],[]⟩) :
    d_q04u_k5 (ACall X) X.gl p_q04u_k4 (AI 5000) (.ref h.length 0) (.mp (h.length + 1)) (.ref (h.length + 2) 0) (AFr l) (AI l.length) (AI k) (.it (h.length + 4)) (h ++ [.box [AI 0,AI 0],mobj kI vI ks,.box [AI n,AI m],mobj kI vI L,.iter (some (h.length + 3)) L.length [] L.length]) [] K:=by
  have hnm2 : ¬ ((n : Int) = m):=by omega
  simp only [d_q04u_k5,go_sem]
  refine N_loop (fun t : List Nat × List (Int × Int) × Option (Nat × Int × Nat)=>⟨match t.2.2 with
      | none=>[(1,AI 5000),(4,.ref h.length 0),(6,.mp (h.length + 1)),(8,.ref (h.length + 2) 0),(17,AFr l),(18,AI l.length),(19,AI k),(33,.it (h.length + 4))]
      | some y=>[(1,AI 5000),(4,.ref h.length 0),(6,.mp (h.length + 1)),(8,.ref (h.length + 2) 0),(9,AI y.1),(10,AI y.2.1),(11,AI y.2.2),(17,AFr l),(18,AI l.length),(19,AI k),(33,.it (h.length + 4)),(45,AB false)],
      h ++ [.box [AI 0,AI 0],mobj kI vI t.2.1,.box [AI n,AI m],mobj kI vI L,.iter (some (h.length + 3)) L.length t.1 L.length],[]⟩)
    (fun t=>t.1.Nodup ∧ (∀ i ∈ t.1,i < L.length) ∧ KeysOk 12 t.2.1 ∧ ∀ q : Nat,powG t.2.1 q = sumC (l.take k) q + contS w (n,m) q t.1) (fun t=>L.length - t.1.length) ([],ks,none) rfl ⟨List.nodup_nil,by simp,hks,fun q=>by dsimp only; rw [hpg q]; simp [contS]⟩ ?_
  rintro ⟨s,ms,e⟩ ⟨hd,hb,hms,hpm⟩
  dsimp only at hd hb hms hpm ⊢
  rcases e with _ | ⟨y1,y2,y3⟩
  all_goals dsimp only
  all_goals simp only [go_sem]
  all_goals
    have eI : ∀ (a b c f o o' : Obj),(h ++ [a,b,c,f,o]).set (h.length + 4) o' = h ++ [a,b,c,f,o']:=fun a b c f o o'=>by rw [List.set_append_right _ _ (by omega)]; simp
    refine nx_mes (key:=kI) (val:=vI) (l:=L) (m:=h.length + 3) (seen:=s) (by simp) (by simp) ?_ ?_
    · intro hall
      have hp:=seen_perm hd hb hall
      rw [hl2] at hp
      rw [eI]
      simp only [go_sem]
      exact hKa ms hms fun q=>by rw [hpm q,contS_full hp]
    · intro i hi hni
      rw [eI]
      have me:=mentry_mes (h:=h ++ [.box [AI 0,AI 0],mobj kI vI ms,.box [AI n,AI m],mobj kI vI L,.iter (some (h.length + 3)) L.length (s ++ [i]) L.length]) (j:=h.length + 4) (m:=h.length + 3) (key:=kI) (val:=vI) (l:=L) (seen:=s) (i:=i) (by simp) (by simp) hi
      obtain ⟨x,b,ex,eb,hx1,hx2,hbb,hcc⟩:=hL i hi
      rw [ex,eb] at me
      rw [ex,eb]
      have hsl:=seen_lt hd hb hi hni
      have hdn:=nodup_snoc hd hni
      have hbn:=below_snoc hb hi
      have vIe : ∀ x : Int,vI x = AI x:=fun _=>rfl
      have kIe : ∀ x : Int,kI x = PV.int .i64 x:=fun _=>rfl
      simp only [kIe,vIe] at me ⊢
      simp only [go_sem,me,hnm2]
      have hbd:=fun q=>contS_bd (w:=w) (n:=n) (m:=m) (q:=q) (by omega) (by omega) (show s.length ≤ 1 by omega)
      have hd0:=(fac_small ⟨x,by omega⟩).1
      have hRk : KeysOk 12 (addAll b ms x):=keys_all hx2 hms
      have hRp : ∀ q : Nat,powG (addAll b ms x) q = sumC (l.take k) q + contS w (n,m) q (s ++ [i]):=fun q=>by
        rw [contS_snoc,hcc]; unfold addAll; rw [powG_fold,hpm q]; omega
      have hR : (facK 20 2 x).foldl (addP b) ms = addAll b ms x:=rfl
      generalize addAll b ms x = R at hR hRk hRp
      have hmi : ∀ o,(h ++ [.box [AI 0,AI 0],o,.box [AI n,AI m],mobj kI vI L,.iter (some (h.length + 3)) L.length (s ++ [i]) L.length])[h.length + 1]? = some o:=fun o=>by simp
      have e1 : ∀ (a o c f g o' : Obj),(h ++ [a,o,c,f,g]).set (h.length + 1) o' = h ++ [a,o',c,f,g]:=fun a o c f g o'=>by rw [List.set_append_right _ _ (by omega)]; simp
      refine N_loop (fun t : Nat × Nat × Nat × List (Int × Int)=>⟨[(1,AI 5000),(4,.ref h.length 0),(6,.mp (h.length + 1)),(8,.ref (h.length + 2) 0),(9,AI t.2.2.1),(10,AI b),(11,AI t.2.1),(17,AFr l),(18,AI l.length),(19,AI k),(33,.it (h.length + 4))],h ++ [.box [AI 0,AI 0],mobj kI vI t.2.2.2,.box [AI n,AI m],mobj kI vI L,.iter (some (h.length + 3)) L.length (s ++ [i]) L.length],[]⟩)
        (fun t=>2 ≤ t.2.1 ∧ t.2.1 + t.1 ≤ 40 ∧ t.2.2.1 ≤ 12 ∧ doneK t.1 t.2.1 t.2.2.1 = true ∧ (facK t.1 t.2.1 t.2.2.1).foldl (addP b) t.2.2.2 = R ∧ ∀ q : Nat,-140 + (t.1 : Int) ≤ powG t.2.2.2 q ∧ powG t.2.2.2 q ≤ 140 - (t.1 : Int))
        (fun t=>if t.2.2.1 ≤ 1 then 0 else t.1 + 1) (20,2,x,ms) rfl ⟨by dsimp only; omega,by dsimp only; omega,hx2,hd0,hR,fun q=>by have h1:=hsm q; have h2:=hbd q; have h4:=hpm q; dsimp only; omega⟩ ?_
      rintro ⟨k0,p,z,m0⟩ ⟨i1,i2,i3,i4,i5,i6⟩
      dsimp only at i1 i2 i3 i4 i5 i6 ⊢
      by_cases hn1 : z ≤ 1
      · have hf := (fac_done (k := k0) (p := p) hn1).1
        rw [hf] at i5
        have i5 : m0 = R:=i5
        have hg : ¬ (1 : Int) < z:=by omega
        simp only [go_sem,hg]
        rw [i5]
        exact ⟨(s ++ [i],R,some (z,b,p)),rfl,⟨hdn,hbn,hRk,hRp⟩,by dsimp only; simp; omega⟩
      · have hg : (1 : Int) < z := by omega
        simp only [go_sem,hg]
        refine N_loop (fun t : Nat × Nat × List (Int × Int)=>⟨[(1,AI 5000),(4,.ref h.length 0),(6,.mp (h.length + 1)),(8,.ref (h.length + 2) 0),(9,AI t.2.1),(10,AI b),(11,AI p),(17,AFr l),(18,AI l.length),(19,AI k),(33,.it (h.length + 4))],h ++ [.box [AI 0,AI 0],mobj kI vI t.2.2,.box [AI n,AI m],mobj kI vI L,.iter (some (h.length + 3)) L.length (s ++ [i]) L.length],[]⟩)
          (fun t=>t.1 ≤ k0 ∧ (t.1 = k0 → t.2.1 = z) ∧ 1 ≤ t.2.1 ∧ t.2.1 ≤ 12 ∧ doneK t.1 p t.2.1 = true ∧ (facK t.1 p t.2.1).foldl (addP b) t.2.2 = R ∧ ∀ q : Nat,-140 + (t.1 : Int) ≤ powG t.2.2 q ∧ powG t.2.2 q ≤ 140 - (t.1 : Int))
          (fun t=>t.1) (k0,z,m0) rfl ⟨Nat.le_refl _,fun _=>rfl,by dsimp only; omega,i3,i4,i5,i6⟩ ?_
        rintro ⟨k1,n1,m1⟩ ⟨j1,j2,j3,j4,j5,j6,j7⟩
        dsimp only at j1 j2 j3 j4 j5 j6 j7 ⊢
        have p0 : ((p : Int) = 0) = False:=by simp only [eq_iff_iff,iff_false]; omega
        have lk:=fun (hp : Heap) (hh : hp[h.length + 1]? = some (mobj kI vI m1))=>lookI (b:=(p : Int)) hh
        have up:=fun (hp : Heap) (v : Int) (hh : hp[h.length + 1]? = some (mobj kI vI m1))=>updI (b:=(p : Int)) (v:=v) hh
        have tm:=tmod_nat n1 p
        have td:=tdiv_nat n1 p
        have wm : IntKind.i64.wrap ((n1 % p : Nat) : Int) = ((n1 % p : Nat) : Int):=wrapN _ (Nat.lt_of_le_of_lt (Nat.mod_le n1 p) (by omega))
        have wd : IntKind.i64.wrap ((n1 / p : Nat) : Int) = ((n1 / p : Nat) : Int):=wrapN _ (Nat.lt_of_le_of_lt (Nat.div_le_self n1 p) (by omega))
        by_cases hz0 : n1 % p = 0
        · have hn2 : 1 < n1:=by
            rcases Nat.lt_or_ge 1 n1 with q | q
            · exact q
            · exact absurd hz0 (mod_1 i1 q j3)
          obtain ⟨k2,e2,d2,f2⟩:=fac_step hn2 hz0 j5
          rw [f2] at j6
          have hpw:=j7 p
          have wp : IntKind.i64.wrap ((getM (p : Int) m1).getD 0 + b) = powG m1 p + b:=i64_wrap (powG m1 p + b) (by omega) (by omega)
          have ez : ((n1 % p : Nat) : Int) = 0:=by omega
          simp only [go_sem,p0,tm,td,wm,wd,ez,hmi,e1,lk,up,wp]
          refine ⟨(k2,n1 / p,addP b m1 p),rfl,⟨by dsimp only; omega,fun e=>by dsimp only at e; omega,?_,?_,d2,j6,fun q=>?_⟩,by dsimp only; omega⟩
          · exact Nat.div_pos (Nat.le_of_dvd (by omega) (Nat.dvd_of_mod_eq_zero hz0)) (by omega)
          · have:=Nat.div_le_self n1 p; dsimp only; omega
          · have := j7 q
            rw [powG_add]
            dsimp only
            split <;> omega
        · have hz2 : ¬ (((n1 % p : Nat) : Int) = 0) := by omega
          have wq : IntKind.i64.wrap ((p : Int) + 1) = ((p + 1 : Nat) : Int):=i64_wrap _ (by omega) (by omega)
          simp only [go_sem,p0,tm,wm,hz2,wq]
          by_cases hn2 : n1 ≤ 1
          · refine ⟨(k1, p + 1, n1, m1), rfl, ⟨by dsimp only; omega, ?_, j4, (fac_done hn2).2, ?_, j7⟩, ?_⟩
            · have : k1 ≠ k0 := fun e => by have := j2 e; omega
              dsimp only; omega
            · rw [(fac_done hn2).1] at j6
              dsimp only
              rw [(fac_done hn2).1]; exact j6
            · dsimp only; rw [if_pos hn2,if_neg hn1]; omega
          · obtain ⟨k2, e2, d2, f2⟩ := fac_next (by omega) hz0 j5
            rw [f2] at j6
            refine ⟨(k2,p + 1,n1,m1),rfl,⟨by dsimp only; omega,by dsimp only; omega,j4,d2,j6,fun q=>?_⟩,?_⟩
            · have:=j7 q; dsimp only; omega
            · dsimp only; rw [if_neg hn2,if_neg hn1]; omega
theorem prod_same (l : List (Nat × Nat)) (k n : Nat) (ks : List (Int × Int)) (v : Int) (K : Ex → St → Prop)
    (hKb : K .normal ⟨[(1,AI 5000),(4,.ref h.length 0),(6,.mp (h.length + 1)),(8,.ref (h.length + 2) 0),(9,AI n),(10,AI v),(17,AFr l),(18,AI l.length),(19,AI k),(33,.it (h.length + 4)),(43,AB true)],h ++ [.box [AI 0,AI 0],mobj kI vI ks,.box [AI n,AI n],mobj kI vI [((n : Int),v)],.iter (some (h.length + 3)) 1 [0] 1],[]⟩) :
    d_q04u_k5 (ACall X) X.gl p_q04u_k4 (AI 5000) (.ref h.length 0) (.mp (h.length + 1)) (.ref (h.length + 2) 0) (AFr l) (AI l.length) (AI k) (.it (h.length + 4)) (h ++ [.box [AI 0,AI 0],mobj kI vI ks,.box [AI n,AI n],mobj kI vI [((n : Int),v)],.iter (some (h.length + 3)) 1 [] 1]) [] K:=by
  simp only [d_q04u_k5,go_sem]
  refine N_loop (fun _ : Unit=>⟨[(1,AI 5000),(4,.ref h.length 0),(6,.mp (h.length + 1)),(8,.ref (h.length + 2) 0),(17,AFr l),(18,AI l.length),(19,AI k),(33,.it (h.length + 4))],h ++ [.box [AI 0,AI 0],mobj kI vI ks,.box [AI n,AI n],mobj kI vI [((n : Int),v)],.iter (some (h.length + 3)) 1 [] 1],[]⟩)
    (fun _=>True) (fun _=>1) () rfl trivial ?_
  intro _ _
  simp only [go_sem]
  refine nx_mes (key:=kI) (val:=vI) (l:=[((n : Int),v)]) (m:=h.length + 3) (seen:=[]) (by simp) (by simp) (fun hall=>absurd (hall 0 (by simp)) (by simp)) ?_
  intro i hi _
  have ei : i = 0:=by simp at hi; omega
  subst ei
  have eI : ∀ (a b c f o o' : Obj),(h ++ [a,b,c,f,o]).set (h.length + 4) o' = h ++ [a,b,c,f,o']:=fun a b c f o o'=>by rw [List.set_append_right _ _ (by omega)]; simp
  rw [eI]
  have me:=mentry_mes (h:=h ++ [.box [AI 0,AI 0],mobj kI vI ks,.box [AI n,AI n],mobj kI vI [((n : Int),v)],.iter (some (h.length + 3)) 1 ([] ++ [0]) 1]) (j:=h.length + 4) (m:=h.length + 3) (key:=kI) (val:=vI) (l:=[((n : Int),v)]) (seen:=[]) (i:=0) (by simp) (by simp) (by simp)
  rw [List.nil_append] at me
  have vIe : ∀ x : Int,vI x = AI x:=fun _=>rfl
  have kIe : ∀ x : Int,kI x = PV.int .i64 x:=fun _=>rfl
  simp only [kIe,vIe,List.getElem_cons_zero] at me
  simp only [kIe,vIe,List.getElem_cons_zero]
  simp only [go_sem,me]
  exact hKb
set_option maxHeartbeats 4000000 in
theorem s_product (l : List (Nat × Nat)) (hl : ∀ t ∈ l,FrOk t) (h3 : l.length ≤ 3) :
    ACall X f_q04u [AFr l,AI 5000] h K = K (.tup [.p (.agg (if l.any (fun t=>t.1 == 0) then [eI 0,eI 1] else [eI (numF l),eI (denF l)])),AI 0]) h []:=by
  refine rule ?_
  rw [c_q04u rfl]
  simp only [d_q04u]
  refine ⟨_,_,_,⟨rfl,rfl,rfl⟩,?_⟩
  simp only [go_sem]
  refine N_loop (fun t : Nat × List (Int × Int)=>⟨[(1,AI 5000),(4,.ref h.length 0),(6,.mp (h.length + 1)),(17,AFr l),(18,AI l.length),(19,AI t.1)],h ++ [.box [AI 0,AI 0],mobj kI vI t.2],[]⟩)
    (fun t=>t.1 ≤ l.length ∧ (∀ x ∈ l.take t.1,x.1 ≠ 0) ∧ KeysOk 12 t.2 ∧ ∀ q : Nat,powG t.2 q = sumC (l.take t.1) q) (fun t=>l.length - t.1) (0,[]) (by simp; rfl) ⟨by dsimp only; omega,by simp,⟨List.nodup_nil,by simp [keysM]⟩,fun q=>rfl⟩ ?_
  rintro ⟨k,ks⟩ ⟨hk,hz,hks,hpg⟩
  dsimp only at hk hz hks hpg ⊢
  rcases Nat.lt_or_ge k l.length with hlt | hge
  · have hg := map_get frP hlt
    have hmem:=List.getElem_mem hlt
    have hfr:=hl _ hmem
    have htk:=List.take_succ_eq_append_getElem hlt
    have htl : ∀ t ∈ l.take k,FrOk t:=fun t ht=>hl t (List.mem_of_mem_take ht)
    have hsm:=fun q=>sumC_small htl (by rw [List.length_take]; omega) q
    generalize hc : l[k] = c at *
    obtain ⟨n,m⟩:=c
    have hfr2:=hfr
    unfold FrOk at hfr2
    dsimp only at hfr2
    have cx : cutP (some 2) 0 (frP (n,m)) = some (frP (n,m)):=rfl
    simp only [frP] at hg cx
    have w2 : IntKind.i64.wrap ((k : Int) + 1) = ((k + 1 : Nat) : Int):=i64_wrap _ (by omega) (by omega)
    by_cases hn0 : n = 0
    · subst hn0
      have ha : l.any (fun t=>t.1 == 0) = true:=List.any_eq_true.2 ⟨_,hmem,rfl⟩
      have i0 : ((0 : Nat) : Int) = 0:=rfl
      simp only [i0] at hg cx
      simp only [go_sem,hlt,hg,cx,ha]
      done
    · have hn1 : ¬ ((n : Int) = 0) := by omega
      have u1:=fun (hp : Heap) (hh : hp[h.length + 3]? = some (mobj kI vI []))=>updI (b:=(n : Int)) (v:=1) hh
      have u2:=fun (hp : Heap) (hh : hp[h.length + 3]? = some (mobj kI vI [((n : Int),(1 : Int))]))=>updI (b:=(m : Int)) (v:=-1) hh
      have u3:=fun (hp : Heap) (hh : hp[h.length + 3]? = some (mobj kI vI []))=>updI (b:=(m : Int)) (v:=-1) hh
      have u4:=fun (hp : Heap) (hh : hp[h.length + 3]? = some (mobj kI vI [((m : Int),(-1 : Int))]))=>updI (b:=(n : Int)) (v:=1) hh
      have hmo : Obj.amap [] 0 = mobj kI vI []:=rfl
      have hm1 : updM (n : Int) (1 : Int) [] = [((n : Int),(1 : Int))]:=rfl
      have hm3 : updM (m : Int) (-1 : Int) [] = [((m : Int),(-1 : Int))]:=rfl
      rw [hm1] at u1
      rw [hm3] at u3
      have e3 : ∀ (a b c o o' : Obj),(h ++ [a,b,c,o]).set (h.length + 3) o' = h ++ [a,b,c,o']:=fun a b c o o'=>by rw [List.set_append_right _ _ (by omega)]; simp
      have mr:=fun (L : List (Int × Int))=>mrange_mes (h:=h ++ [.box [AI 0,AI 0],mobj kI vI ks,.box [AI n,AI m],mobj kI vI L]) (id:=h.length + 3) (key:=kI) (val:=vI) (l:=L) (by simp)
      have e4 : ∀ L,(h ++ [.box [AI 0,AI 0],mobj kI vI ks,.box [AI n,AI m],mobj kI vI L]).length = h.length + 4:=fun L=>by simp
      simp only [e4] at mr
      have e5:=@e_q04u_k5
      simp only [go_sem,hmo,hlt,hg,cx,hn1,u1,u2,u3,u4,e3,mr]
      clear mr e4 u1 u2 u3 u4 hmo hm1 hm3
      have out : ∀ (ms : List (Int × Int)) (J : List (Nat × AV)) (o3 o4 o5 : Obj),KeysOk 12 ms → (∀ q : Nat,powG ms q = sumC (l.take k) q + netC (n,m) q) →
          ∃ t : Nat × List (Int × Int),(⟨[(1,AI 5000),(4,.ref h.length 0),(6,.mp (h.length + 1)),(17,AFr l),(18,AI l.length),(19,AI ((k + 1 : Nat) : Int))],h ++ [.box [AI 0,AI 0],mobj kI vI ms],[]⟩ : St) = ⟨[(1,AI 5000),(4,.ref h.length 0),(6,.mp (h.length + 1)),(17,AFr l),(18,AI l.length),(19,AI t.1)],h ++ [.box [AI 0,AI 0],mobj kI vI t.2],[]⟩ ∧
            (t.1 ≤ l.length ∧ (∀ x ∈ l.take t.1,¬ x.1 = 0) ∧ KeysOk 12 t.2 ∧ ∀ q : Nat,powG t.2 q = sumC (l.take t.1) q) ∧ l.length - t.1 < l.length - k:=fun ms J o3 o4 o5 h1 h2=>by
        refine ⟨(k + 1,ms),rfl,⟨by dsimp only; omega,fun t ht=>?_,h1,fun q=>?_⟩,by dsimp only; omega⟩
        · dsimp only at ht
          rw [htk] at ht
          rcases List.mem_append.1 ht with q | q
          · exact hz t q
          · rw [List.mem_singleton] at q; subst q; exact hn0
        · dsimp only
          rw [htk,sumC_snoc,h2 q]
      rw [e5,e5]
      simp only [aget,Nat.reduceEqDiff,if_true,if_false]
      by_cases hnm : n = m
      · subst hnm
        have eA : updM (n : Int) (-1 : Int) [((n : Int),(1 : Int))] = [((n : Int),(-1 : Int))]:=by simp [updM]
        have eB : updM (n : Int) (1 : Int) [((n : Int),(-1 : Int))] = [((n : Int),(1 : Int))]:=by simp [updM]
        rw [eA,eB]
        have hk : ∀ q : Nat,powG ks q = sumC (l.take k) q + netC (n,n) q:=fun q=>by rw [net_same,hpg q]; omega
        refine ⟨prod_same l k n ks (-1) _ ?_,prod_same l k n ks 1 _ ?_⟩
        all_goals
          simp only [go_sem,w2]
          exact out ks [] default default default hks hk
      · have eA : updM (m : Int) (-1 : Int) [((n : Int), (1 : Int))] = [((n : Int), (1 : Int)), ((m : Int), (-1 : Int))] := by simp [updM]; omega
        have eB : updM (n : Int) (1 : Int) [((m : Int),(-1 : Int))] = [((m : Int),(-1 : Int)),((n : Int),(1 : Int))]:=by simp [updM]; omega
        rw [eA,eB]
        have hs100 : ∀ q,-100 ≤ sumC (l.take k) q ∧ sumC (l.take k) q ≤ 100:=fun q=>by have:=hsm q; omega
        refine ⟨prod_k5 l k n m ks _ false (by omega) (by omega) hnm (fun i hi=>?_) rfl hs100 hks hpg _ fun ms h1 h2=>?_,prod_k5 l k n m ks _ true (by omega) (by omega) hnm (fun i hi=>?_) rfl hs100 hks hpg _ fun ms h1 h2=>?_⟩
        · rcases (by simp at hi; omega : i = 0 ∨ i = 1) with e | e
          · subst e; exact ⟨n,1,rfl,rfl,by omega,by omega,.inl rfl,fun q=>by simp [contC]⟩
          · subst e; exact ⟨m,-1,rfl,rfl,by omega,by omega,.inr rfl,fun q=>by simp [contC]⟩
        · simp only [go_sem, w2]
          exact out ms [] default default default h1 h2
        · rcases (by simp at hi; omega : i = 0 ∨ i = 1) with e | e
          · subst e; exact ⟨m,-1,rfl,rfl,by omega,by omega,.inr rfl,fun q=>by simp [contC]⟩
          · subst e; exact ⟨n,1,rfl,rfl,by omega,by omega,.inl rfl,fun q=>by simp [contC]⟩
        · simp only [go_sem, w2]
          exact out ms [] default default default h1 h2
  · have ek : k = l.length := by omega
    subst ek
    rw [List.take_length] at hz hpg
    have hany : l.any (fun t=>t.1 == 0) = false:=by
      rw [Bool.eq_false_iff]; intro hh; obtain ⟨t,ht,e⟩:=List.any_eq_true.1 hh; exact hz t ht (by simpa using e)
    have hsm:=fun q=>sumC_bd (l:=l) (fun t ht=>by have:=hl t ht; unfold FrOk at this; omega) q
    have hS1 : ∀ q,(fun q=>- sumC l q) q ≤ 3 * mostC q:=fun q=>by have:=hsm q; have h5 : mostC q * l.length ≤ mostC q * 3:=Nat.mul_le_mul (Nat.le_refl _) h3; dsimp only; omega
    have hS2 : ∀ q,sumC l q ≤ 3 * mostC q:=fun q=>by have:=hsm q; have h5 : mostC q * l.length ≤ mostC q * 3:=Nat.mul_le_mul (Nat.le_refl _) h3; omega
    have hZ1 : ∀ q : Nat,12 < q → (fun q=>- sumC l q) q = 0:=fun q hq=>by have:=sumC_far hl hq; dsimp only; omega
    have hZ2 : ∀ q : Nat,12 < q → sumC l q = 0:=fun q hq=>sumC_far hl hq
    have hB1:=pre_bd hS1 hZ1
    have hB2:=pre_bd hS2 hZ2
    have hN1:=pre_succ fun q=>- sumC l q
    have hN2:=pre_succ (sumC l)
    have hF1 : preP (fun q=>- sumC l q) 4999 = denF l:=pre_far hZ1 (by omega)
    have hF2 : preP (sumC l) 4999 = numF l:=pre_far hZ2 (by omega)
    have h01 : preP (fun q=>- sumC l q) 0 = 1:=rfl
    have h02 : preP (sumC l) 0 = 1:=rfl
    have hsm9:=fun q=>sumC_small hl h3 q
    generalize preP (fun q=>- sumC l q) = D1 at *
    generalize preP (sumC l) = D2 at *
    have hpg2 : ∀ q : Nat,(getM (q : Int) ks).getD 0 = sumC l q:=hpg
    simp only [go_sem,Nat.lt_irrefl]
    refine N_loop (fun p : Nat=>⟨[(1,AI 5000),(4,.ref h.length 0),(6,.mp (h.length + 1)),(12,.ref (h.length + 2) 0),(13,AI p)],h ++ [.box [AI 0,AI 0],mobj kI vI ks,.box [AI 1,AI (D1 (p - 2))]],[]⟩)
      (fun p=>2 ≤ p ∧ p ≤ 5001) (fun p=>5001 - p) 2 (by simp [h01]) ⟨by omega,by omega⟩ ?_
    rintro p ⟨hp1,hp2⟩
    rcases Nat.lt_or_ge p 5001 with hlt | hge2
    · have c1 : ((p : Int) ≤ 5000) = True := by simp only [eq_iff_iff, iff_true]; omega
      have lk:=fun (hp : Heap) (hh : hp[h.length + 1]? = some (mobj kI vI ks))=>lookI (b:=(p : Int)) hh
      rw [hpg2 p] at lk
      have b0:=hB1 (p - 2)
      have b1:=hB1 (p - 2 + 1)
      have bn:=hN1 (p - 2)
      rw [show p - 2 + 2 = p by omega] at bn
      unfold bigP at bn
      dsimp only at bn
      have hv:=hsm9 p
      generalize sumC l p = v at *
      simp only [go_sem,c1,lk]
      refine N_loop (fun j : Nat=>⟨[(1,AI 5000),(4,.ref h.length 0),(6,.mp (h.length + 1)),(12,.ref (h.length + 2) 0),(13,AI p),(14,AI (v + j))],h ++ [.box [AI 0,AI 0],mobj kI vI ks,.box [AI 1,AI (D1 (p - 2) * (p : Int) ^ j)]],[]⟩)
        (fun j=>j ≤ (-v).toNat) (fun j=>(-v).toNat - j) 0 (by rw [Int.pow_zero,Int.mul_one]; simp) (by omega) ?_
      intro j hj
      by_cases hjc : j < (-v).toNat
      · obtain ⟨g1, g2, g3, g4, g5, g6⟩ := pow_step (D := D1 (p - 2)) (p := p) (c := (-v).toNat) (j := j) b0.1 hp1 hjc (by rw [← bn]; exact b1.2)
        have hjv : (v + (j : Int) < 0) = True:=by simp only [eq_iff_iff,iff_true]; omega
        have hno : ((1000000000000000 : Int) < D1 (p - 2) * (p : Int) ^ (j + 1)) = False:=by simp only [eq_iff_iff,iff_false]; omega
        have wm : IntKind.i64.wrap (D1 (p - 2) * (p : Int) ^ (j + 1)) = D1 (p - 2) * (p : Int) ^ (j + 1):=i64_wrap _ (by omega) (by omega)
        have wj : IntKind.i64.wrap (v + (j : Int) + 1) = v + ((j + 1 : Nat) : Int):=by rw [i64_wrap _ (by omega) (by omega)]; omega
        simp only [go_sem,hjv,g3,wm,hno,wj]
        exact ⟨j + 1,rfl,by omega,by omega⟩
      · have ej : j = (-v).toNat := by omega
        have hjv : (v + (j : Int) < 0) = False:=by simp only [eq_iff_iff,iff_false]; omega
        have wp : IntKind.i64.wrap ((p : Int) + 1) = ((p + 1 : Nat) : Int):=i64_wrap _ (by omega) (by omega)
        simp only [go_sem,hjv,wp]
        rw [ej,← bn]
        exact ⟨p + 1,by rw [show p + 1 - 2 = p - 2 + 1 by omega],⟨by omega,by omega⟩,by omega⟩
    · have ep : p = 5001 := by omega
      subst ep
      have c1 : (((5001 : Nat) : Int) ≤ 5000) = False:=by simp
      rw [show 5001 - 2 = 4999 by omega,hF1]
      simp only [go_sem,c1]
      refine N_loop (fun p : Nat=>⟨[(1,AI 5000),(4,.ref h.length 0),(6,.mp (h.length + 1)),(12,.ref (h.length + 2) 0),(15,AI p)],h ++ [.box [AI 0,AI 0],mobj kI vI ks,.box [AI (D2 (p - 2)),AI (denF l)]],[]⟩)
        (fun p=>2 ≤ p ∧ p ≤ 5001) (fun p=>5001 - p) 2 (by simp [h02]) ⟨by omega,by omega⟩ ?_
      clear c1
      rintro p ⟨hp1,hp2⟩
      rcases Nat.lt_or_ge p 5001 with hlt | hge2
      · have c1 : ((p : Int) ≤ 5000) = True := by simp only [eq_iff_iff, iff_true]; omega
        have lk:=fun (hp : Heap) (hh : hp[h.length + 1]? = some (mobj kI vI ks))=>lookI (b:=(p : Int)) hh
        rw [hpg2 p] at lk
        have b0:=hB2 (p - 2)
        have b1:=hB2 (p - 2 + 1)
        have bn:=hN2 (p - 2)
        rw [show p - 2 + 2 = p by omega] at bn
        unfold bigP at bn
        have hv:=hsm9 p
        generalize sumC l p = v at *
        simp only [go_sem,c1,lk]
        refine N_loop (fun j : Nat=>⟨[(1,AI 5000),(4,.ref h.length 0),(6,.mp (h.length + 1)),(12,.ref (h.length + 2) 0),(15,AI p),(91,AI (max v 0)),(92,AI j)],h ++ [.box [AI 0,AI 0],mobj kI vI ks,.box [AI (D2 (p - 2) * (p : Int) ^ j),AI (denF l)]],[]⟩)
          (fun j=>j ≤ v.toNat) (fun j=>v.toNat - j) 0 (by rw [Int.pow_zero,Int.mul_one]; rfl) (by omega) ?_
        intro j hj
        by_cases hjc : j < v.toNat
        · obtain ⟨g1, g2, g3, g4, g5, g6⟩ := pow_step (D := D2 (p - 2)) (p := p) (c := v.toNat) (j := j) b0.1 hp1 hjc (by rw [← bn]; exact b1.2)
          have hjv : ((j : Int) < max v 0) = True:=by simp only [eq_iff_iff,iff_true]; omega
          have wm : IntKind.i64.wrap (D2 (p - 2) * (p : Int) ^ (j + 1)) = D2 (p - 2) * (p : Int) ^ (j + 1):=i64_wrap _ (by omega) (by omega)
          have wj : IntKind.i64.wrap ((j : Int) + 1) = ((j + 1 : Nat) : Int):=i64_wrap _ (by omega) (by omega)
          simp only [go_sem,hjv,g3,wm,wj]
          exact ⟨j + 1,rfl,by omega,by omega⟩
        · have ej : j = v.toNat := by omega
          have hjv : ((j : Int) < max v 0) = False:=by simp only [eq_iff_iff,iff_false]; omega
          have wp : IntKind.i64.wrap ((p : Int) + 1) = ((p + 1 : Nat) : Int):=i64_wrap _ (by omega) (by omega)
          simp only [go_sem,hjv,wp]
          rw [ej,← bn]
          exact ⟨p + 1,by rw [show p + 1 - 2 = p - 2 + 1 by omega],⟨by omega,by omega⟩,by omega⟩
      · have ep : p = 5001 := by omega
        subst ep
        have c1 : (((5001 : Nat) : Int) ≤ 5000) = False:=by simp
        rw [show 5001 - 2 = 4999 by omega,hF2]
        simp only [go_sem,c1]
        rw [hany]
        rfl
end Go.Am
end
section
/- Parts raw and in lowest terms: the same product. -/
set_option linter.all false
namespace Go.Am
theorem numF_congr {a b : List (Nat × Nat)} (h : ∀ q,sumC a q = sumC b q) : numF a = numF b ∧ denF a = denF b:=by
  have e : sumC a = sumC b:=funext h
  unfold numF denF
  rw [e]
  exact ⟨rfl,rfl⟩
theorem sum_low : ∀ {l : List (Nat × Nat)},(∀ t ∈ l,PartOk t) → ∀ q,sumC (l.map lowN) q = sumC l q
  | [],_,_=>rfl
  | t :: l,h,q=>by
    have e1 : sumC (t :: l) q = netC t q + sumC l q:=by unfold sumC; simp
    have e2 : sumC ((t :: l).map lowN) q = netC (lowN t) q + sumC (l.map lowN) q:=by unfold sumC; simp
    rw [e1,e2,sum_low (fun t ht=>h t (by simp [ht])) q,net_low (h t (by simp))]
theorem low_num0 {t : Nat × Nat} (h : FrOk t) : ((lowN t).1 == 0) = (t.1 == 0):=by
  unfold FrOk at h
  unfold lowN
  have hg : 0 < Nat.gcd t.1 t.2:=Nat.gcd_pos_of_pos_right _ (by omega)
  by_cases hz : t.1 = 0
  · simp [hz]
  · have : 0 < t.1 / Nat.gcd t.1 t.2 := Nat.div_pos (Nat.gcd_le_left _ (by omega)) hg
    have h1 : ¬ t.1 / Nat.gcd t.1 t.2 = 0:=Nat.pos_iff_ne_zero.1 this
    rw [Bool.eq_iff_iff]
    simp only [beq_iff_eq]
    exact ⟨fun e=>absurd e h1,fun e=>absurd e hz⟩
theorem low_ok {t : Nat × Nat} (h : FrOk t) : FrOk (lowN t):=by
  unfold FrOk at h ⊢
  unfold lowN
  have hg : 0 < Nat.gcd t.1 t.2:=Nat.gcd_pos_of_pos_right _ (by omega)
  have h1 : 0 < t.2 / Nat.gcd t.1 t.2:=Nat.div_pos (Nat.gcd_le_right _ (by omega)) hg
  have h2:=Nat.div_le_self t.2 (Nat.gcd t.1 t.2)
  exact ⟨Nat.div_le_div_right h.1,h1,by omega⟩
def prodF (l : List (Nat × Nat)) : Int × Int:=if l.any (fun t=>t.1 == 0) then (0,1) else (numF l,denF l)
theorem prod_low {l : List (Nat × Nat)} (h : ∀ t ∈ l,FrOk t) : prodF (l.map lowN) = prodF l:=by
  unfold prodF
  have e : (l.map lowN).any (fun t=>t.1 == 0) = l.any (fun t=>t.1 == 0):=by
    induction l with
    | nil=>rfl
    | cons t l ih=>rw [List.map_cons,List.any_cons,List.any_cons,low_num0 (h t (by simp)),ih fun t ht=>h t (by simp [ht])]
  rw [e]
  split
  · rfl
  · rename_i hz
    have hp : ∀ t ∈ l,PartOk t:=fun t ht=>by
      have a:=h t ht
      unfold FrOk at a
      refine ⟨?_,a.1,a.2.2⟩
      rcases Nat.eq_zero_or_pos t.1 with q | q
      · exact absurd (List.any_eq_true.2 ⟨t,ht,by simp [q]⟩) hz
      · exact q
    have:=numF_congr (sum_low hp)
    rw [this.1,this.2]
end Go.Am
end
section
/- Bins,the reference's way. -/
open Go
set_option linter.all false
namespace Go.Am
variable {h : Heap} {K : Post}
theorem countP_take_succ {α : Type} (p : α → Bool) (l : List α) (k : Nat) (hk : k < l.length) : (l.take (k + 1)).countP p = (l.take k).countP p + if p l[k] then 1 else 0:=by
  rw [List.take_succ_eq_append_getElem hk,List.countP_append]; simp [List.countP_cons]
end Go.Am
end
section
/- Rows that are handed to a function: it sees their values. -/
open Go
namespace Go.Am
theorem arg_pur {X : Ctx} {f : Nat} {F : AFun} {a : List AV} {vs : List PV} {h h1 : Heap} {P : Post} (hf : X.fn f = some F) (hr : F.byref = false) (hp : puras h a = some (vs.map .p,h1)) (hq : puras h1 (vs.map .p) = some (vs.map .p,h1)) (hl : vs.length = F.nparams) (hlen : h1.length = h.length) : ACall X f a h P = ACall X f (vs.map .p) h1 P:=by
  cases hd : F.isDet with
  | false=>rw [call_val hf hr hp (by simpa using hl) hd,call_val hf hr hq (by simpa using hl) hd,hlen]
  | true=>rw [call_val_det hf hr hp (by simpa using hl) hd,call_val_det hf hr hq (by simpa using hl) hd,hlen]
theorem frz_len {h : Heap} {id k : Nat} : (frz h id k).length = h.length:=by
  unfold frz
  split <;> simp
end Go.Am
end
section
/- The yields of all tests together,both ways. -/
open Go
set_option linter.all false
namespace Go.Am
variable {h : Heap} {K : Post}
def atL (l : List Lim) (i : Nat) : Lim:=l.getD i ⟨[],0,0,0⟩
def thA (r : List Rec) (i : Nat) : Nat:=r.countP fun x=>decide (i < x.res.length)
def thG (l : List Lim) (r : List Rec) (i : Nat) : Nat:=r.countP fun x=>decide (i < x.res.length) && good (atL l i) (x.res.getD i 0)
def thP (l : List Lim) (r : List Rec) : Nat → List (Nat × Nat)
  | 0=>[]
  | k + 1=>thP l r k ++ if 0 < thA r k then [(thG l r k,thA r k)] else []
theorem thG_le (l : List Lim) (r : List Rec) (i : Nat) : thG l r i ≤ thA r i:=by
  unfold thG thA
  refine List.countP_mono_left fun x _ hx=>?_
  simp only [Bool.and_eq_true] at hx
  exact hx.1
theorem thP_ok {l : List Lim} {r : List Rec} (hn : r.length ≤ 12) : ∀ (k : Nat),(∀ t ∈ thP l r k,FrOk t) ∧ (thP l r k).length ≤ k
  | 0=>⟨(fun t ht=>by cases ht),Nat.le_refl _⟩
  | k + 1=>by
    have ih:=thP_ok hn (l:=l) k
    have h1:=thG_le l r k
    have h2 : thA r k ≤ r.length:=List.countP_le_length
    unfold thP
    refine ⟨fun t ht=>?_,?_⟩
    · rcases List.mem_append.1 ht with q | q
      · exact ih.1 t q
      · split at q
        · rw [List.mem_singleton] at q; subst q; unfold FrOk; dsimp only; omega
        · cases q
    · rw [List.length_append]
      split <;> simp <;> omega
theorem frz1 {o0 : Obj} {sh : Sh} {xs : List PV} {fz k : Nat} : frz [o0,.row sh xs fz] 1 k = [o0,.row sh xs (max fz k)]:=rfl
theorem s_ProductOwn (l : List (Nat × Nat)) (hl : ∀ t ∈ l,FrOk t) (h3 : l.length ≤ 3) {id : Nat} (hh : h[id]? = some (.row (some 2) (l.map frP) 0)) :
    ACall X f_q009 [.own id l.length 0 l.length] h K = K (.tup [.p (.agg [eI (prodF l).1,eI (prodF l).2]),AB true]) (frz h id l.length) []:=by
  have e:=arg_pur (X:=X) (f:=f_q009) (F:=a_q009) (a:=[.own id l.length 0 l.length]) (vs:=[.sl (some 2) (l.map frP)]) (h:=h) (h1:=frz h id l.length) (P:=K) x_q009 rfl
    (by
      have : win (l.map frP) 0 l.length = l.map frP:=win_full (by simp)
      simp [puras,pur,rd,hh,this]) rfl rfl frz_len
  rw [e]
  refine (s_Product l hl h3).trans ?_
  unfold prodF
  split <;> rfl
theorem s_productOwn (l : List (Nat × Nat)) (hl : ∀ t ∈ l,FrOk t) (h3 : l.length ≤ 3) {id : Nat} (hh : h[id]? = some (.row (some 2) (l.map frP) 0)) :
    ACall X f_q04u [.own id l.length 0 l.length,AI 5000] h K = K (.tup [.p (.agg [eI (prodF l).1,eI (prodF l).2]),AI 0]) (frz h id l.length) []:=by
  have e:=arg_pur (X:=X) (f:=f_q04u) (F:=a_q04u) (a:=[.own id l.length 0 l.length,AI 5000]) (vs:=[.sl (some 2) (l.map frP),.int .i64 5000]) (h:=h) (h1:=frz h id l.length) (P:=K) x_q04u rfl
    (by
      have : win (l.map frP) 0 l.length = l.map frP:=win_full (by simp)
      simp [puras,pur,rd,hh,this]) rfl rfl frz_len
  rw [e]
  refine (s_product l hl h3).trans ?_
  unfold prodF
  split <;> rfl
def thruV (l : List Lim) (r : List Rec) : AV:=
  if recsFault l r ≠ 0 then .tup [.p (.agg [eI 0,eI 0]),AI (recsFault l r)]
  else if r.length = 0 then .tup [.p (.agg [eI 0,eI 0]),AI 8]
  else .tup [.p (.agg [eI (prodF (thP l r l.length)).1,eI (prodF (thP l r l.length)).2]),AI 0]
theorem s_Through (l : List Lim) (r : List Rec) (hl : LimOk l) (hr : ∀ x ∈ r,RecOk x) (hn : r.length ≤ 12) (h3 : l.length ≤ 3) :
    ACall X f_q02c [ALim l,ARec r] h K = K (thruV l r) h []:=by
  refine rule ?_
  rw [c_q02c rfl]
  have q1:=fun h K=>s_CheckRecords (h:=h) (K:=K) l r hl hr (by omega)
  unfold thruV
  by_cases he : recsFault l r = 0
  case neg=>
    simp only [d_q02c,go_sem,↓q1,q1,he]
  by_cases hz : r.length = 0
  · simp only [d_q02c,go_sem,↓q1,q1,he,hz]
  have hz' : ¬ ((r.length : Int) = 0):=by omega
  simp only [d_q02c,go_sem,↓q1,q1,he,hz,hz']
  refine N_loop (fun k : Nat=>⟨[(0,ALim l),(1,ARec r),(4,.ref h.length 0),(7,.own (h.length + 1) (thP l r k).length 0 (thP l r k).length),(30,AI l.length),(31,AI k)],h ++ [.box [AI 0,AI 0],.row (some 2) ((thP l r k).map frP) 0],[]⟩)
    (fun k=>k ≤ l.length) (fun k=>l.length - k) 0 rfl (by omega) ?_
  intro k hk
  have hok:=thP_ok (l:=l) hn k
  rcases Nat.lt_or_ge k l.length with hlt | hge
  · have gl := map_get Lim.pv hlt
    have cl : cutP (some 4) 0 (l[k].pv) = some l[k].pv:=rfl
    have hat : atL l k = l[k]:=by unfold atL; simp [List.getD_eq_getElem?_getD,List.getElem?_eq_getElem hlt]
    have w1 : IntKind.i64.wrap ((k : Int) + 1) = ((k + 1 : Nat) : Int):=i64_wrap _ (by omega) (by omega)
    have e1 : thP l r (k + 1) = thP l r k ++ if 0 < thA r k then [(thG l r k,thA r k)] else []:=rfl
    simp only [go_sem,hlt]
    refine N_loop (fun j : Nat=>⟨[(0,ALim l),(1,ARec r),(4,.ref h.length 0),(7,.own (h.length + 1) (thP l r k).length 0 (thP l r k).length),(8,AI k),(9,AI (thG l (r.take j) k : Nat)),(10,AI (thA (r.take j) k : Nat)),(30,AI l.length),(31,AI k),(34,ARec r),(35,AI r.length),(36,AI j)],h ++ [.box [AI 0,AI 0],.row (some 2) ((thP l r k).map frP) 0],[]⟩)
      (fun j=>j ≤ r.length) (fun j=>r.length - j) 0 rfl (by omega) ?_
    intro j hj
    rcases Nat.lt_or_ge j r.length with hlt2 | hge2
    · have hg := map_get Rec.pv hlt2
      have cx : cutP (some 4) 0 (r[j].pv) = some r[j].pv:=rfl
      have w2 : IntKind.i64.wrap ((j : Int) + 1) = ((j + 1 : Nat) : Int):=i64_wrap _ (by omega) (by omega)
      have hA : thA (r.take (j + 1)) k = thA (r.take j) k + if k < r[j].res.length then 1 else 0:=by unfold thA; rw [countP_take_succ _ _ _ hlt2]; simp
      have hG : thG l (r.take (j + 1)) k = thG l (r.take j) k + if k < r[j].res.length ∧ good l[k] (r[j].res.getD k 0) = true then 1 else 0:=by unfold thG; rw [countP_take_succ _ _ _ hlt2,hat]; simp
      have bA : thA (r.take j) k ≤ (r.take j).length:=List.countP_le_length
      have bG:=thG_le l (r.take j) k
      simp only [List.length_take] at bA
      generalize thA (r.take j) k = A at *
      generalize thG l (r.take j) k = G at *
      have wA : IntKind.i64.wrap ((A : Int) + 1) = ((A + 1 : Nat) : Int):=i64_wrap _ (by omega) (by omega)
      have wG : IntKind.i64.wrap ((G : Int) + 1) = ((G + 1 : Nat) : Int):=i64_wrap _ (by omega) (by omega)
      have hrk:=hr _ (List.getElem_mem hlt2)
      have hrn:=hrk.n
      simp only [Rec.pv] at hg cx
      by_cases hb : k < r[j].res.length
      · have g2 := map_get eI hb
        have gd : r[j].res.getD k 0 = r[j].res[k]:=by simp [List.getD_eq_getElem?_getD,List.getElem?_eq_getElem hb]
        rw [gd] at hG
        cases hgd : good l[k] r[j].res[k] with
        | true=>
          rw [hgd] at hG
          simp only [hb,and_self,if_true] at hA hG
          simp only [go_sem,hlt,hlt2,hg,cx,gl,cl,hb,g2,s_good,hgd,wA,wG,w2]
          exact ⟨j + 1,by rw [hA,hG],by omega,by omega⟩
        | false=>
          rw [hgd] at hG
          simp only [hb,and_false,if_true,if_false,Bool.false_eq_true,Nat.add_zero] at hA hG
          simp only [go_sem,hlt,hlt2,hg,cx,gl,cl,hb,g2,s_good,hgd,wA,wG,w2]
          exact ⟨j + 1,by rw [hA,hG],by omega,by omega⟩
      · simp only [hb, false_and, if_false, Nat.add_zero] at hA hG
        simp only [go_sem,hlt,hlt2,hg,cx,hb,w2]
        exact ⟨j + 1,by rw [hA,hG],by omega,by omega⟩
    · have ej : j = r.length := by omega
      subst ej
      rw [List.take_length]
      have bA : thA r k ≤ r.length:=List.countP_le_length
      have bG:=thG_le l r k
      by_cases hp : 0 < thA r k
      · rw [if_pos hp] at e1
        have hp' : (0 : Int) < (thA r k : Nat):=by omega
        have em : (thP l r k).map frP ++ [PV.agg [.int .i64 (thG l r k : Nat),.int .i64 (thA r k : Nat)]] = (thP l r (k + 1)).map frP:=by rw [e1,List.map_append]; rfl
        have el : (thP l r k).length + 1 = (thP l r (k + 1)).length:=by rw [e1]; simp
        have hmx : (thP l r k).length + 1 ≤ maxSl:=by unfold maxSl; omega
        simp only [go_sem,Nat.lt_irrefl,hp',hmx,w1]
        exact ⟨k + 1,by rw [em,el],by omega,by omega⟩
      · rw [if_neg hp, List.append_nil] at e1
        have hp' : ¬ (0 : Int) < (thA r k : Nat):=by omega
        simp only [go_sem,Nat.lt_irrefl,hp',w1]
        exact ⟨k + 1,by rw [e1],by omega,by omega⟩
  · have ek : k = l.length := by omega
    subst ek
    have q2:=fun (hp : Heap) K (hh : hp[h.length + 1]? = some (.row (some 2) ((thP l r l.length).map frP) 0))=>s_ProductOwn (h:=hp) (K:=K) (thP l r l.length) hok.1 (by omega) hh
    simp only [go_sem,Nat.lt_irrefl,↓q2,q2,frz1]
end Go.Am
end
section
/- Yields,both ways. -/
open Go
set_option linter.all false
namespace Go.Am
variable {h : Heap} {K : Post}
theorem fin_pos {l : List Lim} {r : List Rec} {ru : Int} (hz : r.length ≠ 0) : 0 < (finL l ru r).length:=by
  obtain ⟨x,hx⟩:=List.exists_mem_of_length_pos (Nat.pos_of_ne_zero hz)
  have h1 : x.unit ∈ unitsL r:=units_mem.2 ⟨x,hx,rfl⟩
  rw [← finL_units l ru r] at h1
  obtain ⟨y,hy,_⟩:=List.mem_map.1 h1
  exact List.length_pos_of_mem hy
def yldV (l : List Lim) (r : List Rec) (ru : Int) : AV:=
  if orL [recsFault l r,ruleF ru] ≠ 0 then .tup [.p (.agg [eI 0,eI 0]),AI (orL [recsFault l r,ruleF ru])]
  else if r.length = 0 then .tup [.p (.agg [eI 0,eI 0]),AI 8]
  else .tup [.p (.agg [eI (low (nBin l ru r 1 : Nat) (finL l ru r).length).1,eI (low (nBin l ru r 1 : Nat) (finL l ru r).length).2]),AI 0]
theorem s_Yield (l : List Lim) (r : List Rec) (ru : Int) (hl : LimOk l) (hr : ∀ x ∈ r,RecOk x) (hn : r.length ≤ 12) :
    ACall X f_q02g [ALim l,ARec r,AI ru] h K = K (yldV l r ru) h []:=by
  refine rule ?_
  rw [c_q02g rfl]
  have q1:=fun h K=>s_ruleFault (h:=h) (K:=K) l r ru hl hr (by omega)
  unfold yldV
  by_cases he : orL [recsFault l r,ruleF ru] = 0
  case neg=>
    simp only [d_q02g,go_sem,↓q1,q1,he]
  by_cases hz : r.length = 0
  · simp only [d_q02g,go_sem,↓q1,q1,he,hz]
  have hz' : ¬ ((r.length : Int) = 0):=by omega
  have hrf : recsFault l r = 0:=by unfold orL at he; split at he <;> simp_all
  have hfm : ∀ x ∈ r,formB l x.res = true:=fun x hx=>recFault_form (recsFault_all hrf x hx)
  have q2:=fun h K=>s_final (h:=h) (K:=K) l ru r hfm hl.n hn
  have hul : (finL l ru r).length ≤ 12:=by have:=finL_len l ru r; omega
  have hps : 0 < (finL l ru r).length:=fin_pos hz
  have hmem : ∀ x ∈ finL l ru r,formB l x.res = true:=fun x hx=>hfm x (finL_mem hx)
  unfold nBin
  simp only [d_q02g,go_sem,↓q1,q1,he,hz,hz',↓q2,q2]
  generalize finL l ru r = fs at *
  refine N_loop (fun k : Nat=>⟨[(0,ALim l),(6,.ref h.length 0),(9,AI ((fs.take k).countP fun x=>decide (binR l x = 1) : Nat)),(10,ARec fs),(32,ARec fs),(33,AI fs.length),(34,AI k)],h ++ [.box [AI 0,AI 0]],[]⟩)
    (fun k=>k ≤ fs.length) (fun k=>fs.length - k) 0 rfl (by omega) ?_
  intro k hk
  rcases Nat.lt_or_ge k fs.length with hlt | hge
  · have hg := map_get Rec.pv hlt
    have cx : cutP (some 4) 0 (fs[k].pv) = some fs[k].pv:=rfl
    have w2 : IntKind.i64.wrap ((k : Int) + 1) = ((k + 1 : Nat) : Int):=i64_wrap _ (by omega) (by omega)
    have hum:=List.getElem_mem hlt
    have hcf:=hmem _ hum
    have hct:=countP_take_succ (fun x : Rec=>decide (binR l x = 1)) fs k hlt
    have hcl : (fs.take k).countP (fun x=>decide (binR l x = 1)) ≤ (fs.take k).length:=List.countP_le_length
    simp only [List.length_take] at hcl
    generalize (fs.take k).countP (fun x=>decide (binR l x = 1)) = cc at *
    have w5 : IntKind.i64.wrap ((cc : Int) + 1) = ((cc + 1 : Nat) : Int):=i64_wrap _ (by omega) (by omega)
    have hbd:=(binR_bd (recsFault_lims hrf) fs[k]).2.2
    generalize fs[k] = c at *
    have q3:=fun h K=>s_failsF (h:=h) (K:=K) l c hcf hl.n
    unfold badR at hbd
    simp only [Rec.pv] at q3 hg cx
    by_cases hp : failIdx l c.res < 0
    · have hb1 : binR l c = 1 := hbd.2 (by simp; omega)
      simp only [hb1,decide_true,if_true] at hct
      simp only [go_sem,hlt,hg,cx,↓q3,q3,hp,w2,w5]
      exact ⟨k + 1,by rw [hct],by omega,by omega⟩
    · have hb1 : ¬ binR l c = 1 := fun e => by have := hbd.1 e; simp at this; omega
      simp only [hb1,decide_false,Bool.false_eq_true,if_false,Nat.add_zero] at hct
      simp only [go_sem,hlt,hg,cx,↓q3,q3,hp,w2]
      exact ⟨k + 1,by rw [hct],by omega,by omega⟩
  · have ek : k = fs.length := by omega
    subst ek
    rw [List.take_length]
    have hcl : fs.countP (fun x=>decide (binR l x = 1)) ≤ fs.length:=List.countP_le_length
    generalize fs.countP (fun x=>decide (binR l x = 1)) = cc at *
    have q4:=fun h K=>s_Fraction (h:=h) (K:=K) (cc : Int) (fs.length : Int) (by omega) (by omega)
    simp only [go_sem,Nat.lt_irrefl,↓q4,q4]
theorem s_FirstPass (l : List Lim) (r : List Rec) (hl : LimOk l) (hr : ∀ x ∈ r,RecOk x) (hn : r.length ≤ 12) :
    ACall X f_q025 [ALim l,ARec r] h K = K (yldV l r 1) h []:=by
  refine rule ?_
  rw [c_q025 rfl]
  have q1:=fun h K=>s_Yield (h:=h) (K:=K) l r 1 hl hr hn
  simp only [d_q025,go_sem,↓q1,q1]
  unfold yldV
  split
  · simp only [go_sem]
  · split <;> simp only [go_sem]
theorem s_YieldOf (l : List Lim) (r : List Rec) (ru : Int) (hl : LimOk l) (hr : ∀ x ∈ r,RecOk x) (hn : r.length ≤ 12) (hz : orL [recsFault l r,ruleF ru] = 0) :
    ACall X f_q04m [ALim l,ARec r,AI ru] h K = K (yldV l r ru) h []:=by
  refine rule ?_
  rw [c_q04m rfl]
  have hrf : recsFault l r = 0:=by unfold orL at hz; split at hz <;> simp_all
  have hf : ruleF ru = 0:=by rw [hrf] at hz; unfold orL at hz; simp at hz; unfold orL at hz; split at hz <;> simp_all
  have hru : 1 ≤ ru ∧ ru ≤ 3:=by unfold ruleF at hf; split at hf <;> simp_all
  have q1:=fun h K=>s_FinalOf (h:=h) (K:=K) l r ru hl hr hn (recsFault_lims hrf)
  have hql : (finalQ l ru r).length = (finL l ru r).length:=by rw [← final_eq l hru r]; unfold finalP; simp
  have hul : (finL l ru r).length ≤ 12:=by have:=finL_len l ru r; omega
  have hnb:=nBin_eq l hru r 1
  have e1 : itoa 1 = [49]:=by unfold itoa; simp [decN_lt,digC]
  rw [e1] at hnb
  unfold yldV
  by_cases hr0 : r.length = 0
  · have h0 : finalQ l ru r = []:=by
      have:=finL_len l ru r
      exact List.length_eq_zero_iff.1 (by omega)
    simp only [d_q04m,go_sem,↓q1,q1,hz,hr0,h0,List.map_nil,List.length_nil]
  have hps : 0 < (finL l ru r).length:=fin_pos hr0
  have hps' : ¬ ((finalQ l ru r).length : Int) = 0:=by omega
  simp only [d_q04m,go_sem,↓q1,q1,hz,hr0,hps']
  rw [← hnb,← hql]
  generalize finalQ l ru r = fq at *
  refine N_loop (fun k : Nat=>⟨[(6,.ref h.length 0),(8,ASS fq),(9,AI ((fq.take k).countP fun p=>decide (p.2 = [49]) : Nat)),(20,ASS fq),(21,AI fq.length),(22,AI k)],h ++ [.box [AI 0,AI 0]],[]⟩)
    (fun k=>k ≤ fq.length) (fun k=>fq.length - k) 0 rfl (by omega) ?_
  intro k hk
  rcases Nat.lt_or_ge k fq.length with hlt | hge
  · have hg := map_get ssPv hlt
    have cx : cutP (some 2) 0 (ssPv fq[k]) = some (ssPv fq[k]):=rfl
    have w2 : IntKind.i64.wrap ((k : Int) + 1) = ((k + 1 : Nat) : Int):=i64_wrap _ (by omega) (by omega)
    have hct:=countP_take_succ (fun p : SS=>decide (p.2 = [49])) fq k hlt
    have hcl : (fq.take k).countP (fun p=>decide (p.2 = [49])) ≤ (fq.take k).length:=List.countP_le_length
    simp only [List.length_take] at hcl
    generalize (fq.take k).countP (fun p=>decide (p.2 = [49])) = cc at *
    have w5 : IntKind.i64.wrap ((cc : Int) + 1) = ((cc + 1 : Nat) : Int):=i64_wrap _ (by omega) (by omega)
    simp only [ssPv] at hg cx
    by_cases hp : fq[k].2 = [49]
    · simp only [hp, decide_true, if_true] at hct
      simp only [go_sem,hlt,hg,cx,hp,w2,w5]
      exact ⟨k + 1,by rw [hct],by omega,by omega⟩
    · simp only [hp, decide_false, Bool.false_eq_true, if_false, Nat.add_zero] at hct
      simp only [go_sem,hlt,hg,cx,hp,w2]
      exact ⟨k + 1,by rw [hct],by omega,by omega⟩
  · have ek : k = fq.length := by omega
    subst ek
    rw [List.take_length]
    have hcl : fq.countP (fun p=>decide (p.2 = [49])) ≤ fq.length:=List.countP_le_length
    generalize fq.countP (fun p=>decide (p.2 = [49])) = cc at *
    have q4:=fun h K=>s_refLowest (h:=h) (K:=K) (cc : Int) (fq.length : Int) (by omega) (by omega)
    simp only [go_sem,Nat.lt_irrefl,↓q4,q4]
theorem thP_low (l : List Lim) (r : List Rec) : ∀ k,((thP l r k).map lowN).length = (thP l r k).length:=fun k=>by simp
theorem low_nat (a b : Nat) : low (a : Int) (b : Int) = (((lowN (a,b)).1 : Int),((lowN (a,b)).2 : Int)):=by
  unfold low lowN
  have : Int.gcd (a : Int) (b : Int) = Nat.gcd a b:=rfl
  rw [this,← Int.ofNat_tdiv,← Int.ofNat_tdiv]
theorem s_ThroughOf (l : List Lim) (r : List Rec) (hl : LimOk l) (hr : ∀ x ∈ r,RecOk x) (hn : r.length ≤ 12) (h3 : l.length ≤ 3) (hz : recsFault l r = 0) :
    ACall X f_q04l [ALim l,ARec r] h K = K (thruV l r) h []:=by
  refine rule ?_
  rw [c_q04l rfl]
  unfold thruV
  by_cases hr0 : r.length = 0
  · simp only [d_q04l,go_sem,hz,hr0]
  have hr0' : ¬ ((r.length : Int) = 0):=by omega
  simp only [d_q04l,go_sem,hz,hr0,hr0']
  refine N_loop (fun k : Nat=>⟨[(0,ALim l),(1,ARec r),(4,.ref h.length 0),(6,.own (h.length + 1) (thP l r k).length 0 (thP l r k).length),(17,AI l.length),(18,AI k)],h ++ [.box [AI 0,AI 0],.row (some 2) (((thP l r k).map lowN).map frP) 0],[]⟩)
    (fun k=>k ≤ l.length) (fun k=>l.length - k) 0 rfl (by omega) ?_
  intro k hk
  have hok:=thP_ok (l:=l) hn k
  rcases Nat.lt_or_ge k l.length with hlt | hge
  · have gl := map_get Lim.pv hlt
    have cl : cutP (some 4) 0 (l[k].pv) = some l[k].pv:=rfl
    have hat : atL l k = l[k]:=by unfold atL; simp [List.getD_eq_getElem?_getD,List.getElem?_eq_getElem hlt]
    have w1 : IntKind.i64.wrap ((k : Int) + 1) = ((k + 1 : Nat) : Int):=i64_wrap _ (by omega) (by omega)
    have e1 : thP l r (k + 1) = thP l r k ++ if 0 < thA r k then [(thG l r k,thA r k)] else []:=rfl
    simp only [Lim.pv] at gl cl
    simp only [go_sem,hlt]
    refine N_loop (fun j : Nat=>⟨[(0,ALim l),(1,ARec r),(4,.ref h.length 0),(6,.own (h.length + 1) (thP l r k).length 0 (thP l r k).length),(7,AI k),(8,AI (thA (r.take j) k : Nat)),(9,AI (thG l (r.take j) k : Nat)),(17,AI l.length),(18,AI k),(21,ARec r),(22,AI r.length),(23,AI j)],h ++ [.box [AI 0,AI 0],.row (some 2) (((thP l r k).map lowN).map frP) 0],[]⟩)
      (fun j=>j ≤ r.length) (fun j=>r.length - j) 0 rfl (by omega) ?_
    intro j hj
    rcases Nat.lt_or_ge j r.length with hlt2 | hge2
    · have hg := map_get Rec.pv hlt2
      have cx : cutP (some 4) 0 (r[j].pv) = some r[j].pv:=rfl
      have w2 : IntKind.i64.wrap ((j : Int) + 1) = ((j + 1 : Nat) : Int):=i64_wrap _ (by omega) (by omega)
      have hA : thA (r.take (j + 1)) k = thA (r.take j) k + if k < r[j].res.length then 1 else 0:=by unfold thA; rw [countP_take_succ _ _ _ hlt2]; simp
      have hG : thG l (r.take (j + 1)) k = thG l (r.take j) k + if k < r[j].res.length ∧ good l[k] (r[j].res.getD k 0) = true then 1 else 0:=by unfold thG; rw [countP_take_succ _ _ _ hlt2,hat]; simp
      have bA : thA (r.take j) k ≤ (r.take j).length:=List.countP_le_length
      have bG:=thG_le l (r.take j) k
      simp only [List.length_take] at bA
      generalize thA (r.take j) k = A at *
      generalize thG l (r.take j) k = G at *
      have wA : IntKind.i64.wrap ((A : Int) + 1) = ((A + 1 : Nat) : Int):=i64_wrap _ (by omega) (by omega)
      have wG : IntKind.i64.wrap ((G : Int) + 1) = ((G + 1 : Nat) : Int):=i64_wrap _ (by omega) (by omega)
      have hrk:=hr _ (List.getElem_mem hlt2)
      have hrn:=hrk.n
      simp only [Rec.pv] at hg cx
      by_cases hb : k < r[j].res.length
      · have g2 := map_get eI hb
        have gd : r[j].res.getD k 0 = r[j].res[k]:=by simp [List.getD_eq_getElem?_getD,List.getElem?_eq_getElem hb]
        rw [gd] at hG
        have si:=fun h K=>s_in (h:=h) (K:=K) r[j].res[k] l[k].lo l[k].hi
        have eg : (decide (l[k].lo ≤ r[j].res[k]) && decide (r[j].res[k] ≤ l[k].hi)) = good l[k] r[j].res[k]:=rfl
        rw [eg] at si
        cases hgd : good l[k] r[j].res[k] with
        | true=>
          rw [hgd] at hG si
          simp only [hb,and_self,if_true] at hA hG
          simp only [go_sem,hlt,hlt2,hg,cx,gl,cl,hb,g2,↓si,si,wA,wG,w2]
          exact ⟨j + 1,by rw [hA,hG],by omega,by omega⟩
        | false=>
          rw [hgd] at hG si
          simp only [hb,and_false,if_true,if_false,Bool.false_eq_true,Nat.add_zero] at hA hG
          simp only [go_sem,hlt,hlt2,hg,cx,gl,cl,hb,g2,↓si,si,wA,wG,w2]
          exact ⟨j + 1,by rw [hA,hG],by omega,by omega⟩
      · simp only [hb, false_and, if_false, Nat.add_zero] at hA hG
        simp only [go_sem,hlt,hlt2,hg,cx,hb,w2]
        exact ⟨j + 1,by rw [hA,hG],by omega,by omega⟩
    · have ej : j = r.length := by omega
      subst ej
      rw [List.take_length]
      have bA : thA r k ≤ r.length:=List.countP_le_length
      have bG:=thG_le l r k
      by_cases hp : 0 < thA r k
      · rw [if_pos hp] at e1
        have hp' : (0 : Int) < (thA r k : Nat):=by omega
        have em : ((thP l r k).map lowN).map frP ++ [PV.agg [.int .i64 (lowN (thG l r k,thA r k)).1,.int .i64 (lowN (thG l r k,thA r k)).2]] = ((thP l r (k + 1)).map lowN).map frP:=by rw [e1,List.map_append,List.map_append]; rfl
        have el : (thP l r k).length + 1 = (thP l r (k + 1)).length:=by rw [e1]; simp
        have hmx : (thP l r k).length + 1 ≤ maxSl:=by unfold maxSl; omega
        have q4:=fun h K=>s_refLowest (h:=h) (K:=K) (thG l r k : Nat) (thA r k : Nat) (by omega) (by omega)
        simp only [low_nat] at q4
        simp only [go_sem,Nat.lt_irrefl,hp',hmx,w1,↓q4,q4]
        exact ⟨k + 1,by rw [em,el],by omega,by omega⟩
      · rw [if_neg hp, List.append_nil] at e1
        have hp' : ¬ (0 : Int) < (thA r k : Nat):=by omega
        simp only [go_sem,Nat.lt_irrefl,hp',w1]
        exact ⟨k + 1,by rw [e1],by omega,by omega⟩
  · have ek : k = l.length := by omega
    subst ek
    have hlo : ∀ t ∈ (thP l r l.length).map lowN,FrOk t:=fun t ht=>by
      obtain ⟨y,hy,rfl⟩:=List.mem_map.1 ht
      exact low_ok (hok.1 y hy)
    have q2:=fun (hp : Heap) K (hh : hp[h.length + 1]? = some (.row (some 2) (((thP l r l.length).map lowN).map frP) 0))=>s_productOwn (h:=hp) (K:=K) ((thP l r l.length).map lowN) hlo (by rw [thP_low]; omega) hh
    rw [thP_low,prod_low hok.1] at q2
    simp only [go_sem,Nat.lt_irrefl,↓q2,q2,frz1]
end Go.Am
end
section
/- Stable sorts of numbers: printed by program. -/
open Go
set_option linter.unusedSimpArgs false
namespace Go.Am
attribute [-go_sem] PV.cells splice
variable {h : Heap} {K : Post}
end Go.Am
end
section
/- How often tests are failed,both ways. -/
open Go
set_option linter.all false
namespace Go.Am
variable {h : Heap} {K : Post}
attribute [-go_sem] oLook oMupd
end Go.Am
end
section
/- How often tests are failed,the reference's way. -/
open Go
set_option linter.all false
namespace Go.Am
variable {h : Heap} {K : Post}
attribute [-go_sem] oLook oMupd
end Go.Am
end
section
/- Sites,both ways. -/
open Go
set_option linter.all false
namespace Go.Am
variable {h : Heap} {K : Post}
attribute [-go_sem] oLook oMupd
end Go.Am
end
section
/- Package lot computes spreads. -/
open Go
set_option linter.unusedSimpArgs false
namespace Go.Am
variable {h : Heap} {K : Post}
theorem spread13 : spreadV [1,3] = .tup [.p (.agg [eI 2,eI 1]),.p (.agg [eI 1,eI 1]),AI 0]:=by kernel_rfl
theorem s_binned : ACall X f_q03v [] h K = K (AB true) h []:=by
  refine rule ?_
  rw [c_q03v rfl]
  have s1:=fun h K=>s_Spread (h:=h) (K:=K) [1,3] (by simp)
  rw [spread13] at s1
  simp only [AL,List.map_cons,List.map_nil] at s1
  simp only [d_q03v,go_sem,↓s1,s1]
end Go.Am
end
section
/- UnitsCounted returns true. -/
open Go
set_option linter.all false
namespace Go.Am
variable {h : Heap} {K : Post}
theorem s_EqSS (l : List SS) (hl : l.length ≤ 1000000) : ACall X f_q05f [ASS l,ASS l] h K = K (AB true) h []:=by
  refine rule ?_
  rw [c_q05f rfl]
  simp only [d_q05f,go_sem]
  refine N_loop (fun k : Nat=>⟨[(0,ASS l),(1,ASS l),(12,AI l.length),(13,AI k)],h,[]⟩) (fun k=>k ≤ l.length) (fun k=>l.length - k) 0 rfl (by simp) ?_
  intro k hk
  rcases Nat.lt_or_ge k l.length with hlt | hge
  · have hg := map_get ssPv hlt
    have cx : cutP (some 2) 0 (ssPv l[k]) = some (ssPv l[k]):=rfl
    have w2 : IntKind.i64.wrap ((k : Int) + 1) = ((k + 1 : Nat) : Int):=i64_wrap _ (by omega) (by omega)
    simp only [ssPv] at hg cx
    simp only [go_sem,hlt,hg,cx,w2]
    exact ⟨k + 1,rfl,by omega,by omega⟩
  · have e1 : k = l.length := by omega
    subst e1
    simp only [go_sem,Nat.lt_irrefl]
theorem firstErr_orL' : ∀ l : List Int,firstErr l = orL l
  | []=>rfl
  | x :: r=>by unfold firstErr orL; rw [firstErr_orL' r]; by_cases h : x = 0 <;> simp [h]
end Go.Am
end
section
/- YieldsComputed returns true. -/
open Go
set_option linter.all false
namespace Go.Am
variable {h : Heap} {K : Post}
def yld (l : List Lim) (r : List Rec) (ru : Int) : Int × Int × Int:=
  if orL [recsFault l r,ruleF ru] ≠ 0 then (0,0,orL [recsFault l r,ruleF ru])
  else if r.length = 0 then (0,0,8)
  else ((low (nBin l ru r 1 : Nat) (finL l ru r).length).1,(low (nBin l ru r 1 : Nat) (finL l ru r).length).2,0)
theorem yld_eq (l : List Lim) (r : List Rec) (ru : Int) : yldV l r ru = .tup [.p (.agg [eI (yld l r ru).1,eI (yld l r ru).2.1]),AI (yld l r ru).2.2]:=by
  unfold yldV yld
  split
  · rfl
  · split <;> rfl
def thru (l : List Lim) (r : List Rec) : Int × Int × Int:=
  if recsFault l r ≠ 0 then (0,0,recsFault l r)
  else if r.length = 0 then (0,0,8)
  else ((prodF (thP l r l.length)).1,(prodF (thP l r l.length)).2,0)
theorem thru_eq (l : List Lim) (r : List Rec) : thruV l r = .tup [.p (.agg [eI (thru l r).1,eI (thru l r).2.1]),AI (thru l r).2.2]:=by
  unfold thruV thru
  split
  · rfl
  · split <;> rfl
attribute [-go_sem] e_q03u_k1 e_q03u_k2 d_q03u_k1 d_q03u_k2
theorem yc_k1 (P : List SS) (e y1 y2 f z1 z2 g t1 t2 k : Int) (s : Obj) (hP : P.length ≤ 1000000) (K : Ex → St → Prop) (hK : ∀ h x,x = [] → K .ret ⟨[(2,AB true)],h,x⟩) :
    d_q03u_k1 (ACall X) X.gl (ASS P) (AI e) (.ref 1 0) (AI f) (.ref 2 0) (AI g) (.ref 3 0) (AI k) (AI e) (AI f) (AI g) (AI k) (ASS P) (.ref 4 0) (.ref 5 0) (.ref 6 0) [s,.box [AI y1,AI y2],.box [AI z1,AI z2],.box [AI t1,AI t2],.box [AI y1,AI y2],.box [AI z1,AI z2],.box [AI t1,AI t2]] [] K:=by
  have q1:=fun h K=>s_EqSS (h:=h) (K:=K) P hP
  simp only [d_q03u_k1,go_sem,↓q1,q1,s_binned]
  exact hK _ _ rfl
theorem yc_k2 (l : List Lim) (r : List Rec) (P : List SS) (e y1 y2 f : Int) (s : Obj) (hl : LimOk l) (hr : ∀ x ∈ r,RecOk x) (hn : r.length ≤ 12) (h3 : l.length ≤ 3) (hP : P.length ≤ 1000000) (K : Ex → St → Prop) (hK : ∀ h x,x = [] → K .ret ⟨[(2,AB true)],h,x⟩) :
    d_q03u_k2 (ACall X) X.gl p_q03u_k1 (ALim l) (ARec r) (ASS P) (AI e) (.ref 1 0) (AI f) (.ref 2 0) (AI (yld l r 1).2.2) (.ref 3 0) (AI (thru l r).2.2) (AI (recsFault l r)) (AI e) (AI f) (AI (recsFault l r)) (AI (recsFault l r)) (ASS P) (.ref 4 0) (.ref 5 0) (.ref 6 0) [s,.box [AI y1,AI y2],.box [AI (yld l r 1).1,AI (yld l r 1).2.1],.box [AI (thru l r).1,AI (thru l r).2.1],.box [AI y1,AI y2],.box [AI 0,AI 0],.box [AI 0,AI 0]] [] K:=by
  have e1:=@e_q03u_k1
  have r1 : ruleF 1 = 0:=by decide
  by_cases hE : recsFault l r = 0
  · have ho : orL [recsFault l r, ruleF 1] = 0 := by rw [hE, r1]; rfl
    have q1:=fun h K=>s_YieldOf (h:=h) (K:=K) l r 1 hl hr hn ho
    have q2:=fun h K=>s_ThroughOf (h:=h) (K:=K) l r hl hr hn h3 hE
    rw [yld_eq] at q1
    rw [thru_eq] at q2
    simp only [d_q03u_k2,go_sem,hE,↓q1,q1,↓q2,q2]
    rw [e1]
    simp only [aget,Nat.reduceEqDiff,if_true,if_false]
    exact yc_k1 P e y1 y2 f _ _ _ _ _ _ s hP K hK
  · have ho : orL [recsFault l r, ruleF 1] = recsFault l r := by unfold orL; simp [hE]
    have ey : yld l r 1 = (0,0,recsFault l r):=by unfold yld; rw [ho,if_pos hE]
    have et : thru l r = (0,0,recsFault l r):=by unfold thru; rw [if_pos hE]
    simp only [d_q03u_k2,go_sem,hE]
    rw [e1]
    simp only [aget,Nat.reduceEqDiff,if_true,if_false]
    rw [ey,et]
    exact yc_k1 P e y1 y2 f _ _ _ _ _ _ s hP K hK
theorem law_YC (L : List Int) {K : Post} : ACall X f_q03u [AL L] [] K = K (AB true) [] []:=by
  refine rule ?_
  rw [c_q03u rfl]
  obtain ⟨_,a1,⟨b1,b2,l,hl1,hl2,hlb,rfl⟩,V⟩:=(g_LimitList (L:=L) (a:=0) (by unfold posN; omega)).hd (l:=[])
  have P1:=posAll (a:=a1) (by unfold posN; omega)
  obtain ⟨n1,n2⟩:=rangeV_bd (u:=0) (v:=12) L a1 (by omega) (by omega)
  obtain ⟨n,hn⟩:=Int.eq_ofNat_of_zero_le n1
  obtain ⟨_,a2,⟨b3,b4,r,hr1,hr2,rfl⟩,R⟩:=(g_Records (L:=L) (a:=a1 + 1) (by unfold posN; omega) l hl1 hl2 n (by omega)).hd (l:=[])
  obtain ⟨ru,a3,b5,b6,b7,b8,g⟩:=g_Odd (L:=L) (a:=a2) (by unfold posN; omega) 1 3 (by omega) (by omega) (by omega)
  have O:=fun K=>g.hd (l:=[]) (K:=K)
  have hl : LimOk l:=⟨by omega,fun x hx=>(hlb x hx).k⟩
  have hrn : r.length ≤ 12:=by omega
  have S1:=fun h K=>s_lotFinal (h:=h) (K:=K) l r ru hl hr2 hrn
  have S2:=fun h K=>s_Yield (h:=h) (K:=K) l r ru hl hr2 hrn
  have S3:=fun h K=>s_FirstPass (h:=h) (K:=K) l r hl hr2 hrn
  have S4:=fun h K=>s_Through (h:=h) (K:=K) l r hl hr2 hrn hl2
  have S5:=fun h K=>s_RecordsFault (h:=h) (K:=K) l r hl hr2 (by omega)
  have S6:=fun h K=>s_RuleFault (h:=h) (K:=K) ru
  have S7:=fun h K=>s_errs (h:=h) (K:=K) [recsFault l r,ruleF ru] (by simp)
  simp only [AL,List.map_cons,List.map_nil,firstErr_orL'] at S7
  rw [yld_eq] at S2 S3
  rw [thru_eq] at S4
  have e2:=@e_q03u_k2
  have fin : ∀ (h : Heap) (x : Esc),x = [] → finR [.t 2] false (List.length ([] : Heap)) (fun v1 h1 x1=>v1 = AB true ∧ h1 = [] ∧ x1 = []) .ret ⟨[(2,AB true)],h,x⟩:=fun h x hx=>by
    subst hx
    simp only [go_sem]
  have hP : (finalP l ru r).length ≤ 1000000:=by have:=finL_len l ru r; unfold finalP; simp; omega
  have k2:=fun (P : List SS) (e y1 y2 f : Int) (s : Obj) hP K hK=>yc_k2 l r P e y1 y2 f s hl hr2 hrn hl2 hP K hK
  by_cases he : orL [recsFault l r,ruleF ru] = 0
  · have hz : recsFault l r = 0 := by unfold orL at he; split at he <;> simp_all
    have hf : ruleF ru = 0:=by rw [hz] at he; unfold orL at he; simp at he; unfold orL at he; split at he <;> simp_all
    have hru : 1 ≤ ru ∧ ru ≤ 3:=by unfold ruleF at hf; split at hf <;> simp_all
    have S8:=fun h K=>s_FinalOf (h:=h) (K:=K) l r ru hl hr2 hrn (recsFault_lims hz)
    have S9:=fun h K=>s_YieldOf (h:=h) (K:=K) l r ru hl hr2 hrn he
    rw [← final_eq l hru r] at S8
    rw [yld_eq] at S9
    simp only [he,if_true] at S1 S7
    simp only [d_q03u,go_sem,P1,↓V,V,hn,↓R,R,↓O,O,↓S1,S1,↓S2,S2,↓S3,S3,↓S4,S4,↓S5,S5,↓S6,S6,↓S7,S7,↓S8,S8,↓S9,S9]
    rw [e2]
    simp only [aget,Nat.reduceEqDiff,if_true,if_false]
    exact k2 _ 0 _ _ _ _ hP _ fin
  · simp only [he, if_false] at S1
    have ey : yld l r ru = (0,0,orL [recsFault l r,ruleF ru]):=by unfold yld; rw [if_pos he]
    rw [ey] at S2
    simp only [ASS,List.map_nil] at S1
    simp only [d_q03u,go_sem,P1,↓V,V,hn,↓R,R,↓O,O,↓S1,S1,↓S2,S2,↓S3,S3,↓S4,S4,↓S5,S5,↓S6,S6,↓S7,S7,he]
    rw [e2]
    simp only [aget,Nat.reduceEqDiff,if_true,if_false]
    exact k2 [] _ 0 0 _ _ (by simp) _ fin
end Go.Am
end
section
/- From a law that is true here to the model's calls at what came in. -/
open Go
namespace Go.Am
variable {P : Program}
theorem law_nil {X : Ctx} (HX : Fits P X) {f : Nat} {F : AFun} (hF : X.fn f = some F) (H : ∀ L : List Int,ACall X f [pints L] [] fun v _ _=>v = .p (.bool true)) (W : World) (hG : GInv X.gl (imm [] [] W)) :
    Calls P f #[.slice none 0 0] W fun e W'=>e = .returned (.bool true) ∧ RowKit.Below W.heap.size W W':=by
  refine (calls_of HX hF (H []) (W:=W) (vs:=[.slice none 0 0]) hG rfl (fun j y v hy hv=>?_)).mono fun e W' he=>?_
  · cases j with
    | zero=>cases hy; cases hv; exact came_nil W
    | succ j=>cases hy
  · cases e with
    | returned r=>
      obtain ⟨⟨v,h,x,μ,hk,hr⟩,hb⟩:=he
      subst hk
      exact ⟨by rw [hr.p_bool],hb⟩
    | panicked _=>exact he.elim
    | outgrown=>exact he.elim
theorem law_ints {X : Ctx} (HX : Fits P X) {f : Nat} {F : AFun} (hF : X.fn f = some F) (H : ∀ L : List Int,ACall X f [pints L] [] fun v _ _=>v = .p (.bool true)) {W : World} (hG : GInv X.gl (imm [] [] W)) {a : Addr} {len cap : Nat} {zs : List Int}
    (hl : len ≤ cap) (hz : len ≤ zs.length) (hc : ∀ i,i < zs.length → W.cell? (a.add i) = some (.int .i64 (zs.getD i 0))) :
    Calls P f #[.slice (some a) len cap] W fun e W'=>e = .returned (.bool true) ∧ RowKit.Below W.heap.size W W':=by
  refine (calls_of HX hF (H (zs.take len)) (W:=W) (vs:=[.slice (some a) len cap]) hG rfl (fun j y v hy hv=>?_)).mono fun e W' he=>?_
  · cases j with
    | zero=>
      cases hy; cases hv
      rcases Nat.eq_zero_or_pos len with h0 | h0
      · subst h0
        exact .p _ _ (.nils _ _ _)
      · exact came_ints (by simpa [Addr.add] using World.cell?_spot (hc 0 (by omega))) hl hz hc
    | succ j=>cases hy
  · cases e with
    | returned r=>
      obtain ⟨⟨v,h,x,μ,hk,hr⟩,hb⟩:=he
      subst hk
      exact ⟨by rw [hr.p_bool],hb⟩
    | panicked _=>exact he.elim
    | outgrown=>exact he.elim
end Go.Am
namespace Go.ChangeShapes
open Go.RowKit Go.WideShapes
section
variable {H : Type} {enc : TypeId × Value → H} {P : Program}
end
end Go.ChangeShapes
end
section
/- The abstract machine,part L2: the kit's contracts asv rows. -/
set_option linter.unusedSimpArgs false
set_option linter.unusedVariables false
namespace Go.Am
variable {P : Program} {gl : Nat → Option PV}
open Go.Shelf
theorem lib_dec : ∀ n : Nat,Go.Lib.decDigits n = decN n:=by
  intro n
  induction n using Nat.strongRecOn with
  | _ n ih=>
    rw [Go.Lib.decDigits,decN]
    split
    · rfl
    · rw [ih _ (by omega)]; rfl
theorem lib_itoa (n : Int) : Go.Lib.itoa n = itoa n:=by
  unfold Go.Lib.itoa itoa
  split
  · rw [lib_dec]
  · rw [lib_dec]; congr 1; omega
theorem tab_of {M : Mem} {w : World} {g : Nat} {name : String} {k : IntKind} {zs : List Int} (hn : P.globalNamed name = some g) (hg : gl g = some (.agg (zs.map (PV.int k)))) (hc : ∀ b o v,M.c b o = some v → w.cell? ⟨b,o,none⟩ = some v) (hb : ∀ b o,M.b b = some o → w.heap[b]? = some o) (hG : GInv gl M) :
    Go.Lib.TabIs P w name k zs:=by
  obtain ⟨hv,cs,t,x,h2,h3⟩:=hG g _ hg
  have h4:=hb _ _ h2
  unfold Go.Lib.TabIs World.var?
  rw [hn]
  simp only [Option.bind_some,h4,Option.some.injEq]
  simp only [PV.cells,List.length_map] at h3
  apply Array.ext
  · simpa using h3
  · intro i hi1 hi2
    have hi : i < zs.length:=by omega
    cases hv with
    | vp _ _ _ f hm hr=>
      have hy : (PV.agg (zs.map (PV.int k))).cells[i]? = some (.int k zs[i]):=by simp [PV.cells,hi]
      have q1:=hc _ _ _ (hm i _ hy)
      have q2:=hr i _ hy
      have q3 : f i = .int k zs[i]:=by
        generalize f i = u at q2
        cases q2; rfl
      rw [q3] at q1
      have q4 : cs[i]? = some (.int k zs[i]):=by simpa [World.cell?,h4] using q1
      rw [Array.getElem?_eq_getElem hi1] at q4
      simpa using q4
theorem ginv_tab {W : World} {g : Nat} {name : String} {k : IntKind} {zs : List Int} {v : PV} (hn : P.globalNamed name = some g) (ht : Go.Lib.TabIs P W name k zs) (hv : v = .agg (zs.map (PV.int k))) : GInv (glOf [(g,v)]) (imm [] [] W):=by
  intro n v' hv'
  unfold glOf at hv'
  cases hq : Nat.beq n g with
  | false=>rw [hq] at hv'; cases hv'
  | true=>
    rw [hq] at hv'
    have e:=Nat.eq_of_beq_eq_true hq
    subst e
    simp only [cond_true,Option.some.injEq] at hv'
    subst hv'
    subst hv
    unfold Go.Lib.TabIs World.var? at ht
    rw [hn] at ht
    simp only [Option.bind_some] at ht
    cases hb : W.heap[n]? with
    | none=>rw [hb] at ht; cases ht
    | some o=>
      rw [hb] at ht
      cases o with
      | cells cs t x=>
        simp only [Option.some.injEq] at ht
        refine ⟨.vp _ n 0 (fun j=>(zs.map fun z=>Value.int k z).getD j undef) (fun j y hy=>?_) (fun j y hy=>?_),cs,t,x,imm0_blk hb,by rw [ht]; simp [PV.cells]⟩
        · have hj : j < zs.length := by have := lt_of_get hy; simpa [PV.cells] using this
          refine imm0_cell ?_
          simp [World.cell?,hb,ht,hj,List.getD_eq_getElem?_getD]
        · have hj : j < zs.length := by have := lt_of_get hy; simpa [PV.cells] using this
          have e1 : y = .int k zs[j]:=by simpa [PV.cells,hj] using hy.symm
          have e2 : (zs.map fun z=>Value.int k z).getD j undef = .int k zs[j]:=by simp [List.getD_eq_getElem?_getD,hj]
          rw [e1,e2]
          exact .int k _
      | _=>cases ht
theorem grow_ext (w : World) (k : Nat) (os : Array Go.Obj) : WExt w (Go.Sort.grow (w.drewN k) os):=by
  refine ⟨?_,fun b hb=>?_,rfl⟩
  · show w.heap.size ≤ (w.heap ++ os).size
    simp
  · show (w.heap ++ os)[b]? = _
    rw [Array.getElem?_append_left hb]
theorem itoaRow {ρ : Ren} (L : Go.Proofs.LaysM.n171 P ρ) (g : Nat) (hn : P.globalNamed "internal/strconv.uint64pow10" = some g) (hg : gl g = some pow10PV) (he : ∀ us w,(callFunc (ρ.f 171) us).run P w = .ok (.enter (ρ.f 171) us) w) : PureRow P gl (ρ.f 171) itoaS where
  enter:=he
  run M w vs r us hc hb hG hl hr hs:=by
    unfold itoaS at hs
    split at hs
    · rename_i n
      match us,hl with
      | [u],_=>
        have q:=hr 0 _ u rfl rfl
        cases q
        cases hbd : (decide (-9223372036854775808 ≤ n) && decide (n ≤ 9223372036854775807)) with
        | false=>rw [hbd] at hs; cases hs
        | true=>
          rw [hbd] at hs
          simp only [cond_true,Option.some.injEq] at hs
          subst hs
          simp only [Bool.and_eq_true,decide_eq_true_eq] at hbd
          have hpw : pow10PV = .agg (Go.Lib.pow10Tab.map (PV.int .u64)):=by unfold pow10PV Go.Lib.pow10Tab; rw [List.map_map]; rfl
          rw [hpw] at hg
          refine (Go.Proofs.Any.strconv_Itoa L n hbd.1 hbd.2 w (tab_of hn hg hc hb hG)).mono fun e w' h=>?_
          obtain ⟨rfl,k,os,rfl⟩:=h
          exact ⟨_,rfl,grow_ext w k os,by rw [lib_itoa]; exact .p _ _ (.str _)⟩
    · cases hs
end Go.Am
end
