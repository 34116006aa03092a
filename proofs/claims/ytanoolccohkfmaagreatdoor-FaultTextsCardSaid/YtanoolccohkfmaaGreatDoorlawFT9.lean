/- Texts of the proof, laid together: SpChg, SpGenA2, SpDelF, SpGenF2, SpInts, SpFltE, SpFaulted, SpLawFT, Bridge, AmL2, AmL3. -/
import Derived.ProofKit
import Derived.Shelf.Strconv.Itoa3
import Derived.Lib.LaidTab
import Derived.Shelf.Strconv.AtoiAll
import Derived.Test.YtanoolccohkfmaaGreatDoorlawFT8
set_option linter.all false
section
/- A text changed at random. -/
open Go
set_option linter.all false
namespace Go.Am
variable {L : List Int} {a : Int} {h l : Heap} {id : Nat} {K : Post}
theorem win_le {α : Type} (xs : List α) (a n : Nat) : (win xs a n).length ≤ n:=by simp [win]; omega
theorem g_Changed (t w : List UInt8) (ht : t.length ≤ 1000000) (hw : w.length ≤ 1000) (hw0 : w ≠ []) (ha : w.all (fun b=>decide (b.toNat < 128)) = true) (hp : posN 3 a) : GenE f_q03r [AS t,AS w] L a (fun v a2=>a ≤ a2 ∧ a2 ≤ a + 3 ∧ ∃ t' : List UInt8,t'.length ≤ t.length + w.length ∧ v = AS t'):=by
  refine GenE.of fun h id hid=>?_
  rw [c_q03r rfl]
  by_cases h0 : t = []
  · subst h0
    simp only [d_q03r,go_sem,hid,hw0]
    exact ⟨a,⟨by omega,by omega,w,by omega,rfl⟩,rfl⟩
  · have hl : 0 < t.length := List.length_pos_iff.2 h0
    have hlw : 0 < w.length:=List.length_pos_iff.2 hw0
    have p0:=posN_le (n:=0) hp (Int.le_refl a) (by omega)
    have p1 : posN 0 (a + 1):=posN_le hp (by omega) (by omega)
    have p2 : posN 0 (a + 1 + 1):=posN_le hp (by omega) (by omega)
    obtain ⟨n1,n2⟩:=nextV_bd L a t.length (by omega) (by omega)
    obtain ⟨i,hi⟩:=Int.eq_ofNat_of_zero_le n1
    rw [hi] at n2
    obtain ⟨m1,m2⟩:=nextV_bd L (a + 1) w.length (by omega) (by omega)
    obtain ⟨j,hj⟩:=Int.eq_ofNat_of_zero_le m1
    rw [hj] at m2
    have hjl : j < w.length:=by omega
    have hgj : w[j]? = some w[j]:=List.getElem?_eq_getElem hjl
    have hc : (w[j]).toNat < 128:=by
      have:=List.all_eq_true.1 ha _ (List.getElem_mem hjl)
      simpa using this
    have wc : IntKind.i32.wrap ((w[j]).toNat : Int) = ((w[j]).toNat : Int):=by simp [IntKind.wrap,IntKind.bits,IntKind.signed]; omega
    have wi : IntKind.i64.wrap ((i : Int) + 1) = ((i + 1 : Nat) : Int):=i64_wrap _ (by omega) (by omega)
    have hil : i ≤ t.length:=by omega
    have hil2 : i + 1 ≤ t.length:=by omega
    have c0 : (0 : Int) ≤ ((w[j]).toNat : Int):=by omega
    have c1 : ((w[j]).toNat : Int) < 128:=by omega
    have l1:=win_le t 0 i
    have l2:=win_le t (i + 1) (t.length - (i + 1))
    have l3:=win_le t i (t.length - i)
    have mx : 3000000 ≤ maxStr:=by unfold maxStr; omega
    simp only [d_q03r,go_sem,hid,h0,hw0,p0,p1,p2,hi,hj,hgj]
    by_cases z0 : nextV L (a + 1 + 1) 3 = 0
    · simp only [go_sem, z0, hil, hil2, wc, wi, c0, c1]
      rw [if_pos (by omega),if_pos (by first | omega | (simp only [List.length_append,List.length_cons,List.length_nil]; omega))]
      exact ⟨a + 1 + 1 + 1,⟨by omega,by omega,_,by simp only [List.length_append,List.length_cons,List.length_nil]; omega,rfl⟩,rfl⟩
    · by_cases z1 : nextV L (a + 1 + 1) 3 = 1
      · have z0' : ¬ (1 : Int) = 0 := by omega
        simp only [go_sem,z1,z0',hil,hil2,wc,wi,c0,c1]
        rw [if_pos (by omega),if_pos (by first | omega | (simp only [List.length_append,List.length_cons,List.length_nil]; omega))]
        exact ⟨a + 1 + 1 + 1,⟨by omega,by omega,_,by simp only [List.length_append,List.length_cons,List.length_nil]; omega,rfl⟩,rfl⟩
      · simp only [go_sem, z0, z1, hil, hil2, wc, wi, c0, c1]
        rw [if_pos (by omega)]
        exact ⟨a + 1 + 1 + 1,⟨by omega,by omega,_,by simp only [List.length_append]; omega,rfl⟩,rfl⟩
theorem decN18 {n : Nat} (h : n ≤ 9000000000000000000) : (decN n).length ≤ 19:=(decN_len 18 n (by omega)).2
theorem itoa_len {n : Int} (h1 : -9000000000000000000 ≤ n) (h2 : n ≤ 9000000000000000000) : (itoa n).length ≤ 20:=by
  unfold itoa
  have:=decN18 (n:=n.natAbs) (by omega)
  split
  · simp; omega
  · omega
end Go.Am
end
section
/- What is drawn: faults. -/
open Go
set_option linter.all false
namespace Go.Am
variable {L : List Int} {a : Int} {h l : Heap} {id : Nat} {K : Post}
def SmallF (f : Flt) : Prop:=f.nets.length ≤ 8 ∧ (∀ x ∈ f.nets,-1152921504606846976 ≤ x ∧ x ≤ 1152921504606846976) ∧ -1152921504606846976 ≤ f.kind ∧ f.kind ≤ 1152921504606846976
theorem win_pre {α : Type} (xs : List α) (n : Nat) : win xs 0 n = xs.take n:=by simp [win]
theorem af_ret {kd : Int} {w : AV} {ns : List Int} {b2 : Int} {t : Heap} {x : Esc} {K0 : Post} (hw : reif h.length (h.set id (strm L b2) ++ t) w = some (.p (.sl none (ns.map eI)))) (hx : ∀ y ∈ x,h.length ≤ y.1)
    (hK : K0 (.p (Flt.pv ⟨kd,ns⟩)) (h.set id (strm L b2)) []) : retK false h.length K0 (some [.agg [AI kd,w]]) (h.set id (strm L b2) ++ t) x:=by
  have hr : reif h.length (h.set id (strm L b2) ++ t) (oneOf [.agg [AI kd,w]]) = some (.p (Flt.pv ⟨kd,ns⟩)):=by
    simp only [oneOf,reif_agg,reifs_cons,reif_p,hw,reifs_nil]
    rfl
  rw [retK_out hx hr (Nat.zero_le _),set_app_take]
  exact hK
theorem af_retP {v : PV} {b2 : Int} {t : Heap} {x : Esc} {K0 : Post} (hx : ∀ y ∈ x,h.length ≤ y.1)
    (hK : K0 (.p v) (h.set id (strm L b2)) []) : retK false h.length K0 (some [.p v]) (h.set id (strm L b2) ++ t) x:=by
  rw [retK_out hx (v:=.p v) (by rfl) (Nat.zero_le _),set_app_take]
  exact hK
theorem reif_row {b2 : Int} {t : Heap} {j n m : Nat} {R : List PV} {fz : Nat} (ht : t[j]? = some (.row none R fz)) (hR : R.length = n) (hm : m ≤ n) : reif h.length (h.set id (strm L b2) ++ t) (.own (h.length + j) n 0 m) = some (.p (.sl none (R.take m))):=by
  have : (h.set id (strm L b2) ++ t)[h.length + j]? = some (.row none R fz):=by
    have e : h.length = (h.set id (strm L b2)).length:=by simp
    rw [e,app_get]; exact ht
  simp [reif_own,rd,this,hR,hm,win_pre]
theorem esc_if {n m : Nat} {x : Esc} {p : Prop} [Decidable p] (hn : n ≤ m) (hx : ∀ y ∈ x,n ≤ y.1) {t : Nat} : ∀ y ∈ (if p then [(m,t)] else []) ++ x,n ≤ y.1:=by
  intro y hy
  rcases List.mem_append.1 hy with hy | hy
  · split at hy
    · rw [List.mem_singleton.1 hy]; exact hn
    · cases hy
  · exact hx y hy
theorem af_k2 (kd : Int) (hkd : 1 ≤ kd ∧ kd ≤ 6) (R : List Int) (n m : Nat) (hR : R.length = n) (hm1 : 1 ≤ m) (hmn : m ≤ n) (hm3 : m ≤ 3) (hx : ∀ x ∈ R,0 ≤ x ∧ x ≤ 1000) (v1 : Int) (hv1 : -1000 ≤ v1 ∧ v1 ≤ 1000) (b : Int) (hp : posN 20 b) (hid : id < h.length) (x : Esc) (hxe : ∀ y ∈ x,h.length ≤ y.1) (K0 : Post)
    (hK : ∀ (f : Flt) (b2 : Int),SmallF f → b ≤ b2 → b2 ≤ b + 6 → K0 (.p f.pv) (h.set id (strm L b2)) []) :
    d_q03p_k2 (ACall X) X.gl p_q03p_k1 (.ref id 0) (AI v1) (.ref h.length 0) (.ref (h.length + 1) 0)
      (h.set id (strm L b) ++ [.box [AI 0,.sl0 none],.box [AI kd,.own (h.length + 2) n 0 m],.row none (R.map eI) 0]) x (finR [.cell 4 (some 2)] false h.length K0):=by
  have hid' : id ≤ h.length:=by omega
  have P:=posAll (posN_le hp (Int.le_refl b) (by omega))
  have hRl : (R.map eI).length = n:=by rw [List.length_map,hR]
  by_cases f1 : nextV L b 30 = 0
  · by_cases f2 : nextV L (b + 1) 4 = 0
    · obtain ⟨kv, a3, o1, o2, o3, o4, O⟩ := g_Odd (L := L) (a := b + 1 + 1) (posN_le hp (by omega) (by omega)) 1 6 (by omega) (by omega) (by omega)
      have O':=fun l K=>O.app (h:=h) (id:=id) (l:=l) (K:=K) hid
      simp only [d_q03p_k2,go_sem,hid,hid',P,f1,f2,↓O',O',hRl,hmn,escOf]
      refine af_ret (ns:=R.take m) (by rw [reif_row (j:=2) (fz:=0) rfl hRl hmn,List.map_take]) (esc_if (Nat.le_refl _) (esc_if (by omega) hxe)) ?_
      exact hK ⟨kv,R.take m⟩ a3 ⟨by simp; omega,fun z hz=>by have:=hx z (List.mem_of_mem_take hz); omega,by dsimp only; omega,by dsimp only; omega⟩ (by omega) (by omega)
    · by_cases f3 : nextV L (b + 1) 4 = 1
      · have hR0 : 0 < R.length := by omega
        have g0:=head_get hR0
        have hhd : R.headD 0 ∈ R:=by
          cases R with
          | nil=>cases hR0
          | cons z r=>simp
        have hb0:=hx _ hhd
        have pm:=pickV_mem (l:=[0,1,-1,v1,R.headD 0]) (L:=L) (a:=b + 1 + 1) (by simp) (by simp)
        obtain ⟨c,hc⟩ : ∃ c,pickV [0,1,-1,v1,R.headD 0] L (b + 1 + 1) = c:=⟨_,rfl⟩
        rw [hc] at pm
        have hcb : -1000 ≤ c ∧ c ≤ 1000:=by simp only [List.mem_cons,List.not_mem_nil,or_false] at pm; omega
        have hms : m + 1 ≤ maxSl:=by unfold maxSl; omega
        have hall : (R.map eI).all PV.intP = true:=by rw [List.all_eq_true]; intro z hz; obtain ⟨q,_,rfl⟩:=List.mem_map.1 hz; rfl
        by_cases hmn2 : m = n
        · simp only [d_q03p_k2, go_sem, hid, hid', P, f1, f2, f3, hc, hRl, hmn, hmn2, g0, hm1, escOf, hms]
          have hns : n + 1 ≤ maxSl:=by unfold maxSl; omega
          rw [if_pos (by omega),if_pos hns]
          refine af_ret (ns:=R ++ [c]) ?_ (esc_if (Nat.le_refl _) (esc_if (by omega) hxe)) ?_
          · rw [reif_row (j:=2) (fz:=0) rfl (by simp [hR]) (Nat.le_refl _),List.take_of_length_le (by simp [hR]),List.map_append]; rfl
          · refine hK ⟨kd, R ++ [c]⟩ (b + 1 + 1 + 1) ⟨by simp; omega, fun z hz => ?_, by dsimp only; omega, by dsimp only; omega⟩ (by omega) (by omega)
            rcases List.mem_append.1 hz with hz | hz
            · have:=hx z hz; omega
            · rw [List.mem_singleton.1 hz]; omega
        · simp only [d_q03p_k2, go_sem, hid, hid', P, f1, f2, f3, hc, hRl, hmn, hmn2, g0, hm1, escOf, hms, hall]
          rw [if_pos (by omega),if_pos ⟨by omega,rfl⟩]
          refine af_retP (esc_if (Nat.le_refl _) (esc_if (by omega) hxe)) ?_
          have hw : win (R.map eI) 0 m ++ [PV.int IntKind.i64 c] = (R.take m ++ [c]).map eI:=by rw [win_pre,List.map_append,List.map_take]; rfl
          rw [hw]
          refine hK ⟨kd,R.take m ++ [c]⟩ (b + 1 + 1 + 1) ⟨by simp; omega,fun z hz=>?_,by dsimp only; omega,by dsimp only; omega⟩ (by omega) (by omega)
          rcases List.mem_append.1 hz with hz | hz
          · have:=hx z (List.mem_of_mem_take hz); omega
          · rw [List.mem_singleton.1 hz]; omega
      · by_cases f4 : nextV L (b + 1) 4 = 2
        · simp only [d_q03p_k2, go_sem, hid, hid', P, f1, f2, f3, f4, hRl, hmn, escOf]
          refine af_retP (esc_if (Nat.le_refl _) (esc_if (by omega) hxe)) ?_
          exact hK ⟨kd,[]⟩ (b + 1 + 1) ⟨by simp,fun z hz=>by simp at hz,by dsimp only; omega,by dsimp only; omega⟩ (by omega) (by omega)
        · obtain ⟨r1, r2⟩ := rangeV_bd (u := 5) (v := 7) L (b + 1 + 1) (by omega) (by omega)
          obtain ⟨c,hc⟩:=Int.eq_ofNat_of_zero_le (show 0 ≤ rangeV 5 7 L (b + 1 + 1) by omega)
          rw [hc] at r1 r2
          have hc7 : c ≤ 7:=by omega
          simp only [d_q03p_k2,go_sem,hid,hid',P,f1,f2,f3,f4,hc,hc7,hRl,hmn,escOf]
          refine af_retP (esc_if (Nat.le_refl _) (esc_if (by omega) hxe)) ?_
          have hw : win [PV.int IntKind.i64 0,PV.int IntKind.i64 1,PV.int IntKind.i64 2,PV.int IntKind.i64 3,PV.int IntKind.i64 4,PV.int IntKind.i64 5,PV.int IntKind.i64 6] 0 c = (([0,1,2,3,4,5,6] : List Int).take c).map eI:=by rw [List.map_take]; rfl
          rw [hw]
          refine hK ⟨kd,([0,1,2,3,4,5,6] : List Int).take c⟩ (b + 1 + 1 + 1) ⟨by simp; omega,fun z hz=>?_,by dsimp only; omega,by dsimp only; omega⟩ (by omega) (by omega)
          have:=List.mem_of_mem_take hz
          simp only [List.mem_cons,List.not_mem_nil,or_false] at this
          omega
  · simp only [d_q03p_k2, go_sem, hid, hid', P, f1, hRl, hmn, escOf]
    refine af_ret (ns:=R.take m) (by rw [reif_row (j:=2) (fz:=0) rfl hRl hmn,List.map_take]) (esc_if (Nat.le_refl _) hxe) ?_
    exact hK ⟨kd,R.take m⟩ (b + 1) ⟨by simp; omega,fun z hz=>by have:=hx z (List.mem_of_mem_take hz); omega,by dsimp only; omega,by dsimp only; omega⟩ (by omega) (by omega)
attribute [-go_sem] d_q03p_k2
theorem isort_eI (l : List Int) : isort ltP (l.map eI) = (isort ltI l).map eI:=isort_map eI (fun a b=>rfl) l
theorem esc_if1 {n m : Nat} {p : Prop} [Decidable p] (hn : n ≤ m) {t : Nat} : ∀ y ∈ (if p then [(m,t)] else ([] : Esc)),n ≤ y.1:=by
  intro y hy
  split at hy
  · rw [List.mem_singleton.1 hy]; exact hn
  · cases hy
theorem sort_at {l0 : List Int} (o m N : Nat) (hl : l0.length = N) (hom : o + m ≤ N) (hm : m ≤ 12) (x y : Obj) (b : Int) : ∃ R : List Int,R.length = N ∧ (∀ z ∈ R,z ∈ l0) ∧ ∀ K : Post,ACall X f_q069 [.own (h.length + 2) N o m] (h.set id (strm L b) ++ [x,y,.row none (l0.map eI) 0]) K = K (.tup []) (h.set id (strm L b) ++ [x,y,.row none (R.map eI) 0]) []:=by
  have hsp : l0 = l0.take o ++ ((l0.drop o).take m ++ l0.drop (o + m)):=by
    rw [← List.drop_drop,List.take_append_drop,List.take_append_drop]
  have hl1 : ((l0.drop o).take m).length = m:=by simp; omega
  have hg : (h.set id (strm L b) ++ [x,y,.row none (l0.map eI) 0])[h.length + 2]? = some (.row none (((l0.take o).map eI) ++ (((l0.drop o).take m).map eI ++ (l0.drop (o + m)).map eI)) 0):=by
    have e : h.length = (h.set id (strm L b)).length:=by simp
    rw [e,app_get]
    show some (Obj.row none (l0.map eI) 0) = _
    rw [← List.map_append,← List.map_append,← hsp]
  refine ⟨l0.take o ++ (isort ltI ((l0.drop o).take m) ++ l0.drop (o + m)),?_,fun z hz=>?_,fun K=>?_⟩
  · rw [List.length_append,List.length_append,isort_len,hl1]; simp; omega
  · rw [hsp]
    rcases List.mem_append.1 hz with hz | hz
    · exact List.mem_append_left _ hz
    · rcases List.mem_append.1 hz with hz | hz
      · exact List.mem_append_right _ (List.mem_append_left _ (isort_mem.1 hz))
      · exact List.mem_append_right _ (List.mem_append_right _ hz)
  · have := SortO_int (K := K) (h.length + 2) N o ((l0.take o).map eI) (((l0.drop o).take m).map eI) ((l0.drop (o + m)).map eI) (by simp; omega) (by rw [List.length_map, hl1]; simp; omega) shps_eI (by rw [List.length_map, hl1]; exact hm) hg (lt := ltP) less_eI
    rw [List.length_map,hl1] at this
    rw [this,isort_eI,← List.map_append,← List.map_append]
    congr 1
    have e : h.length + 2 = (h.set id (strm L b)).length + 2:=by simp
    rw [e,app_set]; rfl
theorem g_AFault (n : Nat) (hn : n ≤ 100) (hp : posN 3000 a) : GenE f_q03p [AI n] L a (fun v a2=>a ≤ a2 ∧ a2 ≤ a + 120 ∧ ∃ f : Flt,SmallF f ∧ v = .p f.pv):=by
  refine GenE.of fun h id hid=>?_
  rw [c_q03p rfl]
  have hid' : id ≤ h.length:=by omega
  have p0:=posN_le (n:=0) hp (Int.le_refl a) (by omega)
  obtain ⟨k1,k2⟩:=rangeV_bd (u:=1) (v:=6) L a (by omega) (by omega)
  obtain ⟨kd,hkd⟩ : ∃ k,rangeV 1 6 L a = k:=⟨_,rfl⟩
  rw [hkd] at k1 k2
  obtain ⟨N,hN⟩ : ∃ N : Nat,max (n : Int) 1 = (N : Int):=⟨max n 1,by omega⟩
  have hN1 : 1 ≤ N ∧ N ≤ 100:=by omega
  have hg : ∀ t : Heap,(h.set id (strm L (a + 1)) ++ t)[id]? = some (strm L (a + 1)):=fun t=>set_app_get hid _
  obtain ⟨xs,a3,⟨d1,d2,l,hl,rfl⟩,V⟩:=g_Order (L:=L) (a:=a + 1) N (by omega) (posN_le hp (by omega) (by omega)) (h.set id (strm L (a + 1)) ++ [.box [AI 0,.sl0 none],.box [AI kd,.sl0 none]]) id (hg _)
  have hll : l.length = N:=by rw [hl.length_eq,upI_len]
  have hb2 : (h.set id (strm L (a + 1)) ++ [Obj.box [AI 0,.sl0 none],.box [AI kd,.sl0 none]]).length = h.length + 2:=by simp
  rw [List.length_map,hll,hb2] at V
  simp only [set_app_set hid,List.append_assoc,List.cons_append,List.nil_append] at V
  have hlm : ∀ x ∈ l,0 ≤ x ∧ x ≤ 1000:=fun x hx=>by have:=upI_mem.1 (hl.mem_iff.1 hx); omega
  have P3:=posAll (posN_le hp (show a ≤ a3 by omega) (show a3 + 14 ≤ a + 3000 by omega))
  by_cases hk : 3 ≤ kd ∧ kd ≤ 5
  · have pm := pickV_mem (l := [2, 2, 3]) (L := L) (a := a3) (by simp) (by simp)
    obtain ⟨c,hc⟩ : ∃ c,pickV [2,2,3] L a3 = c:=⟨_,rfl⟩
    rw [hc] at pm
    have hc3 : 2 ≤ c ∧ c ≤ 3:=by simp only [List.mem_cons,List.not_mem_nil,or_false] at pm; omega
    obtain ⟨m,hm⟩ : ∃ m : Nat,min c (N : Int) = (m : Int):=⟨(min c (N : Int)).toNat,by omega⟩
    have hm2 : 1 ≤ m ∧ m ≤ N ∧ m ≤ 3:=by omega
    have hm0 : ¬ m = 0:=by omega
    have hpos : posN 20 (a3 + 1):=posN_le hp (by omega) (by omega)
    by_cases h5 : kd = 5
    · subst h5
      simp only [d_q03p,go_sem,hid,hid',p0,hkd,hN,V,P3,hk.1,hk.2,hc,hm,hll,hm2,hm0,escOf]
      obtain ⟨R,r1,r2,r3⟩:=sort_at (h:=h) (id:=id) (L:=L) (l0:=l) 1 (m - 1) N hll (by omega) (by omega) (.box [AI 0,AV.sl0 none]) (.box [AI 5,AV.own (h.length + 2) N 0 m]) (a3 + 1)
      rw [r3]
      refine af_k2 5 (by omega) R N m r1 (by omega) (by omega) (by omega) (fun z hz=>hlm z (r2 z hz)) n (by omega) (a3 + 1) hpos hid _ ?_ _ ?_
      · rw [List.nil_append]
        exact esc_if (by omega) (esc_if1 (by omega))
      · intro f b2 q1 q2 q3
        exact ⟨b2,⟨by omega,by omega,f,q1,rfl⟩,rfl,rfl⟩
    · have h5' : ¬ (kd = 5) := h5
      simp only [d_q03p,go_sem,hid,hid',p0,hkd,hN,V,P3,hk.1,hk.2,hc,hm,h5',hll,hm2,hm0,escOf]
      obtain ⟨R,r1,r2,r3⟩:=sort_at (h:=h) (id:=id) (L:=L) (l0:=l) 0 m N hll (by omega) (by omega) (.box [AI 0,AV.sl0 none]) (.box [AI kd,AV.own (h.length + 2) N 0 m]) (a3 + 1)
      rw [r3]
      refine af_k2 kd (by omega) R N m r1 (by omega) (by omega) (by omega) (fun z hz=>hlm z (r2 z hz)) n (by omega) (a3 + 1) hpos hid _ ?_ _ ?_
      · rw [List.nil_append]
        exact esc_if (by omega) (esc_if1 (by omega))
      · intro f b2 q1 q2 q3
        exact ⟨b2,⟨by omega,by omega,f,q1,rfl⟩,rfl,rfl⟩
  · have h5 : ¬ kd = 5 := by omega
    have hpos : posN 20 a3:=posN_le hp (by omega) (by omega)
    have fin : ∀ (y : Esc),(∀ z ∈ y,h.length ≤ z.1) → (ACall X f_q069 [.own (h.length + 2) N 0 1] (h.set id (strm L a3) ++ [.box [AI 0,AV.sl0 none],.box [AI kd,AV.own (h.length + 2) N 0 1],.row none (l.map eI) 0])
        fun t12 h13 y14=>d_q03p_k2 (ACall X) X.gl p_q03p_k1 (.ref id 0) (AI n) (.ref h.length 0) (.ref (h.length + 1) 0) h13 (y14 ++ y)
          (finR [.cell 4 (some 2)] false h.length fun v1 h1 x1=>∃ a2,(a ≤ a2 ∧ a2 ≤ a + 120 ∧ ∃ f : Flt,SmallF f ∧ v1 = .p f.pv) ∧ h1 = h.set id (strm L a2) ∧ x1 = [])):=by
      intro y hy
      obtain ⟨R,r1,r2,r3⟩:=sort_at (h:=h) (id:=id) (L:=L) (l0:=l) 0 1 N hll (by omega) (by omega) (.box [AI 0,AV.sl0 none]) (.box [AI kd,AV.own (h.length + 2) N 0 1]) a3
      rw [r3]
      refine af_k2 kd (by omega) R N 1 r1 (by omega) (by omega) (by omega) (fun z hz=>hlm z (r2 z hz)) n (by omega) a3 hpos hid _ ?_ _ ?_
      · rw [List.nil_append]; exact hy
      · intro f b2 q1 q2 q3
        exact ⟨b2,⟨by omega,by omega,f,q1,rfl⟩,rfl,rfl⟩
    by_cases h3 : 3 ≤ kd
    · have h6 : ¬ kd ≤ 5 := by omega
      simp only [d_q03p,go_sem,hid,hid',p0,hkd,hN,V,h3,h6,h5,hll,hN1.1,escOf]
      refine fin _ ?_
      exact esc_if (by omega) (esc_if1 (by omega))
    · simp only [d_q03p, go_sem, hid, hid', p0, hkd, hN, V, h3, h5, hll, hN1.1, escOf]
      refine fin _ ?_
      exact esc_if (by omega) (esc_if1 (by omega))
end Go.Am
end
section
/- Deleting faults: printed by program. -/
open Go
set_option linter.unusedSimpArgs false
namespace Go.Am
attribute [-go_sem] PV.cells splice
variable {h : Heap} {K : Post}
theorem IndexFunc_Fault {v : AV} {g : Nat} {caps : List AV} {p : PV → Bool} {xs : List PV} (hv : Shows (some 2) v xs h) (hp : Tells g caps p xs h) (hl : xs.length ≤ 1000000000) :
    ACall X f_q062 [v,.fn g caps] h K = K (AI (idxP p xs)) h []:=by
  refine rule ?_
  rw [c_q062]
  have vl:=hv.len
  simp only [d_q062,go_sem,vl]
  refine N_loop (fun k : Nat=>⟨[(0,v),(1,.fn g caps),(7,AI xs.length),(8,AI k)],h,[]⟩) (fun k=>k ≤ xs.length ∧ ∀ x ∈ xs.take k,p x = false) (fun k=>xs.length - k) 0 rfl (by simp) ?_
  rintro k ⟨hk,hn⟩
  rcases Nat.lt_or_ge k xs.length with hlt | hge
  · obtain ⟨a, ha, hb⟩ := hv.get k hlt
    have w2 : IntKind.i64.wrap ((k : Int) + 1) = ((k + 1 : Nat) : Int):=i64_wrap _ (by omega) (by omega)
    have ht:=hp _ (List.getElem_mem hlt)
    cases hpk : p xs[k] with
    | true=>
      have hf : xs.findIdx p = k:=by
        rw [List.findIdx_eq hlt]
        refine ⟨hpk,fun j hj=>?_⟩
        have:=hn xs[j] (by rw [List.mem_take_iff_getElem]; exact ⟨j,by omega,rfl⟩)
        simpa using this
      simp only [go_sem,hlt,ha,hb,ht,hpk,w2]
      simp only [idxP,hf,hlt,if_true]
    | false=>
      simp only [go_sem,hlt,ha,hb,ht,hpk,w2]
      refine ⟨k + 1,rfl,⟨by omega,fun x hx=>?_⟩,by omega⟩
      rw [List.take_succ_eq_append_getElem hlt,List.mem_append,List.mem_singleton] at hx
      rcases hx with hx | hx
      · exact hn x hx
      · rw [hx]; exact hpk
  · have e1 : k = xs.length := by omega
    subst e1
    simp only [go_sem,Nat.lt_irrefl]
    rw [List.take_length] at hn
    have : ¬ xs.findIdx p < xs.length:=by
      rw [Nat.not_lt,Nat.le_iff_lt_or_eq]; right
      exact (List.findIdx_eq_length.2 (fun x hx=>by simp [hn x hx])).symm
    simp [idxP,this]
attribute [-go_sem] AV.cells cut
theorem DeleteFunc_Fault (id : Nat) (l : List PV) (hs : shps (some 2) l) (hl : l.length ≤ 100000) (hh : h[id]? = some (.row (some 2) l 0)) {g : Nat} {caps : List AV} {p : PV → Bool} (hp : TellsX g caps p l id h) (hcaps : AV.tops caps ≤ h.length) :
    ACall X f_q05s [.own id l.length 0 l.length,.fn g caps] h K = K (.own id l.length 0 (l.filter fun x=>!p x).length) (h.set id (.row (some 2) ((l.filter fun x=>!p x) ++ List.replicate (l.length - (l.filter fun x=>!p x).length) (PV.agg [.int .i64 0,.sl none []])) 0)) []:=by
  refine rule ?_
  rw [c_q05s]
  have hid:=get_lt hh
  have hst : ∀ o,(h.set id o)[id]? = some o:=fun o=>set_get' hid
  have hid2 : id + 1 ≤ h.length:=hid
  have hi:=fun K=>IndexFunc_Fault (h:=h) (K:=K) (shows_full hs hh) (fun x hx K=>by have:=hp (.row (some 2) l 0) [] x hx K; rwa [List.append_nil,set_self hh] at this) (by omega)
  simp only [d_q05s,go_sem,hi]
  by_cases hf : l.findIdx p < l.length
  · have e1 : idxP p l = (l.findIdx p : Int) := by simp [idxP, hf]
    have e2 : ¬ ((l.findIdx p : Int) = -1):=by omega
    have w0 : IntKind.i64.wrap ((l.findIdx p : Int) + 1) = ((l.findIdx p + 1 : Nat) : Int):=i64_wrap _ (by omega) (by omega)
    simp only [go_sem,e1,e2,w0]
    have hF0 : ((l.take (l.findIdx p + 1)).filter fun x=>!p x) = l.take (l.findIdx p):=by
      rw [List.take_succ_eq_append_getElem hf,List.filter_append]
      have q1 : (l.take (l.findIdx p)).filter (fun x=>!p x) = l.take (l.findIdx p):=by
        rw [List.filter_eq_self]
        intro x hx
        obtain ⟨j,hj,rfl⟩:=List.mem_take_iff_getElem.1 hx
        have:=List.not_of_lt_findIdx (show j < l.findIdx p by omega)
        simpa using this
      rw [q1]
      have : p l[l.findIdx p] = true:=List.findIdx_getElem (w:=hf)
      simp [this]
    refine N_loop (fun t : List PV × Nat × Nat=>⟨[(0,.own id l.length 0 l.length),(1,.fn g caps),(5,AI t.2.1),(6,AI t.2.2)],h.set id (.row (some 2) t.1 0),[]⟩)
      (fun t=>t.1.length = l.length ∧ shps (some 2) t.1 ∧ t.2.1 < t.2.2 ∧ t.2.2 ≤ l.length ∧ t.1.take t.2.1 = ((l.take t.2.2).filter fun x=>!p x) ∧ t.1.drop t.2.2 = l.drop t.2.2) (fun t=>l.length - t.2.2)
      (l,l.findIdx p,l.findIdx p + 1) (by rw [set_self hh]) ⟨rfl,hs,by simp,hf,by rw [hF0],rfl⟩ ?_
    rintro ⟨row,i,j⟩ ⟨r1,r2,r3,r4,r5,r6⟩
    dsimp only at r1 r2 r3 r4 r5 r6
    have w1 : IntKind.i64.wrap ((j : Int) + 1) = ((j + 1 : Nat) : Int):=i64_wrap _ (by omega) (by omega)
    have w2 : IntKind.i64.wrap ((i : Int) + 1) = ((i + 1 : Nat) : Int):=i64_wrap _ (by omega) (by omega)
    rcases Nat.lt_or_ge j l.length with hlt | hge
    · have g1 : row[j]? = some l[j]:=by
        have:=congrArg (·[0]?) r6
        simp only [List.getElem?_drop,Nat.add_zero] at this
        rw [this,List.getElem?_eq_getElem hlt]
      have hsj:=shps_get hs hlt
      have cx:=shp_cut hsj
      have hil : i < l.length:=by omega
      have g2 : row[i]? = some row[i]:=List.getElem?_eq_getElem (by omega)
      have hsi:=shps_get r2 (show i < row.length by omega)
      have t1:=fun xs h1=>shp_st hsj hsi id i 0 xs h1
      have lx:=shp_len hsj
      have sx:=shp_all hsj
      simp only [shSize] at lx
      have hpj:=fun o t K=>hp o t _ (List.getElem_mem hlt) K
      obtain ⟨cs,hcs,hcl,hca⟩:=shp_agg hsj
      have hcells : AV.cells (.p l[j]) = some (cs.map AV.p):=by rw [hcs]; simp [AV.cells,hca]
      have hsp : splice [.p (.int .i64 0),.sl0 none] 0 (cs.map AV.p) = cs.map AV.p:=by unfold splice; simp [hcl]
      have hcut : cut (some 2) 0 (cs.map AV.p) = some (.p l[j]):=by rw [hcs]; exact cut_map hcl
      have hn4 : (shSize (some 2)) = 2:=rfl
      have q5 : ∀ o : Obj,(h.set id o ++ [Obj.box (cs.map AV.p)])[id]? = some o:=fun o=>by rw [List.getElem?_append_left (by simpa using hid)]; exact hst o
      have q6 : ∀ o o' : Obj,(h.set id o ++ [Obj.box (cs.map AV.p)]).set id o' = h.set id o' ++ [Obj.box (cs.map AV.p)]:=fun o o'=>by rw [List.set_append_left _ _ (by simpa using hid),List.set_set]
      cases hpx : p l[j] with
      | true=>
        simp only [go_sem,hst,r1,hlt,g1,cx,hpj,hpx,w1,hcells,hsp,hcut,hcl,hid2,hcaps]
        refine ⟨(row,i,j + 1),rfl,⟨r1,r2,by dsimp only; omega,by dsimp only; omega,?_,?_⟩,by dsimp only; omega⟩
        · rw [List.take_succ_eq_append_getElem hlt, List.filter_append]
          simp [hpx,r5]
        · rw [← List.drop_drop,r6,List.drop_drop]
      | false=>
        simp only [go_sem,hst,r1,hlt,hil,g1,g2,cx,hpj,hpx,w1,w2,lx,sx,t1,hcells,hsp,hcut,hcl,q5,q6,hid2,hcaps]
        refine ⟨(row.set i l[j],i + 1,j + 1),rfl,⟨by simpa using r1,fun x hx=>?_,by dsimp only; omega,by dsimp only; omega,?_,?_⟩,by dsimp only; omega⟩
        · rcases List.mem_or_eq_of_mem_set hx with hx | rfl
          · exact r2 x hx
          · exact hsj
        · dsimp only
          rw [List.take_succ_eq_append_getElem hlt,List.filter_append,← r5,List.take_succ_eq_append_getElem (by simp; omega)]
          simp [hpx,List.take_set_of_le]
        · dsimp only
          rw [List.drop_set_of_lt (by omega),← List.drop_drop,r6,List.drop_drop]
    · have ej : j = l.length := by omega
      subst ej
      rw [List.take_length] at r5
      have hm : (l.filter fun x=>!p x).length = i:=by rw [← r5]; simp; omega
      have hil : i ≤ l.length:=by omega
      have e3 : l.length - i + i = l.length:=by omega
      have sp : splice row i (List.replicate (l.length - i) (PV.agg [.int .i64 0,.sl none []])) = (l.filter fun x=>!p x) ++ List.replicate (l.length - i) (PV.agg [.int .i64 0,.sl none []]):=by
        unfold splice
        rw [r5,List.length_replicate,List.drop_of_length_le (by omega),List.append_nil]
      have rl : ((l.filter fun x=>!p x) ++ List.replicate (l.length - i) (PV.agg [.int .i64 0,.sl none []])).length = l.length:=by simp only [List.length_append,hm,List.length_replicate]; omega
      rw [hm]
      generalize (l.filter fun x=>!p x) ++ List.replicate (l.length - i) (PV.agg [.int .i64 0,.sl none []]) = row' at *
      have hb : ¬ h.length ≤ id:=by omega
      have hb2 : max h.length (id + 1) = h.length:=by omega
      have hb3 : id + 1 ≤ h.length:=hid
      simp only [go_sem,Nat.lt_irrefl,hst,r1,rl,hil,sp,show i + (l.length - i) = l.length by omega,hb,hb2,hb3]
  · have e1 : idxP p l = -1 := by simp [idxP, hf]
    have hF : (l.filter fun x=>!p x) = l:=by
      rw [List.filter_eq_self]
      intro x hx
      cases hpx : p x with
      | false=>rfl
      | true=>exact absurd (List.findIdx_lt_length_of_exists ⟨x,hx,hpx⟩) hf
    have hb : ¬ h.length ≤ id:=by omega
    have hb2 : max h.length (id + 1) = h.length:=by omega
    have hb3 : id + 1 ≤ h.length:=hid
    simp only [go_sem,e1,hF,Nat.sub_self,List.replicate_zero,List.append_nil,hb,hb2,hb3]
    rw [set_self hh]
attribute [go_sem] AV.cells cut
end Go.Am
end
section
/- What is drawn: lists of faults. -/
open Go
set_option linter.all false
namespace Go.Am
variable {L : List Int} {a : Int} {h l : Heap} {id : Nat} {K : Post}
theorem s_CloneIP (l : List PV) (hl : l.length ≤ 1000000) : ACall X f_q05d [.p (.sl none l)] h K = K (.own h.length l.length 0 l.length) (h ++ [.row none l 0]) []:=by
  refine rule ?_
  rw [c_q05d rfl]
  simp only [d_q05d]
  refine ⟨_,_,_,⟨rfl,rfl,rfl⟩,?_⟩
  cases l with
  | nil=>
    simp only [List.length_nil,go_sem]
    exact List.take_of_length_le (by simp)
  | cons x r=>
    have hm : r.length + 1 ≤ maxSl:=by simp only [List.length_cons] at hl; unfold maxSl; omega
    simp only [List.length_cons,go_sem,hm]
    exact List.take_of_length_le (by simp)
theorem frzB {o0 o1 : Obj} {sh : Sh} {xs : List PV} {fz k : Nat} : frz [o0,o1,.row sh xs fz] 2 k = [o0,o1,.row sh xs (max fz k)]:=rfl
theorem g_FaultList (n : Nat) (hn : n ≤ 100) (hp : posN 4000 a) : GenK f_q03s [AI n] L a (some 2) (fun xs a2=>a ≤ a2 ∧ a2 ≤ a + 721 ∧ ∃ fs : List Flt,fs.length ≤ 6 ∧ (∀ f ∈ fs,SmallF f) ∧ xs = fs.map Flt.pv):=by
  refine GenK.of fun h id hid=>?_
  rw [c_q03s rfl]
  have hid' : id ≤ h.length:=by omega
  have p0:=posN_le (n:=0) hp (Int.le_refl a) (by omega)
  obtain ⟨n1,n2⟩:=rangeV_bd (u:=0) (v:=6) L a (by omega) (by omega)
  obtain ⟨m,hm⟩:=Int.eq_ofNat_of_zero_le n1
  rw [hm] at n2
  simp only [d_q03s,go_sem,hid,p0,hm]
  refine N_loop (fun t : List Flt × Int=>⟨[(0,.ref id 0),(1,AI n),(5,.own h.length t.1.length 0 t.1.length),(8,AI m),(9,AI t.1.length)],h.set id (strm L t.2) ++ [.row (some 2) (t.1.map Flt.pv) 0],[]⟩)
    (fun t=>t.1.length ≤ m ∧ (∀ f ∈ t.1,SmallF f) ∧ a + 1 ≤ t.2 ∧ t.2 ≤ a + 1 + 120 * t.1.length) (fun t=>m - t.1.length) ([],a + 1) rfl ⟨by simp,by simp,by simp,by simp⟩ ?_
  rintro ⟨fs,b⟩ ⟨q1,q2,q3,q4⟩
  dsimp only at q1 q2 q3 q4 ⊢
  rcases Nat.lt_or_ge fs.length m with hlt | hge
  · have w2 : IntKind.i64.wrap ((fs.length : Int) + 1) = ((fs.length + 1 : Nat) : Int) := i64_wrap _ (by omega) (by omega)
    obtain ⟨_,a3,⟨d1,d2,f,hf,rfl⟩,V⟩:=(g_AFault (L:=L) (a:=b) n hn (posN_le hp (by omega) (by omega))).app (h:=h) (l:=[.row (some 2) (fs.map Flt.pv) 0]) hid
    have C:=fun h K=>s_CloneIP (h:=h) (K:=K) (f.nets.map eI) (by have:=hf.1; simp; omega)
    rw [List.length_map] at C
    have hmx : fs.length + 1 ≤ maxSl:=by unfold maxSl; omega
    have hwf : win (f.nets.map eI) 0 f.nets.length = f.nets.map eI:=win_full (by simp)
    have hz : PV.shp (some 2) (.agg [.int .i64 0,.sl none []]) = true:=rfl
    have hz2 : PV.shp (some 2) (.agg [eI f.kind,.sl none (f.nets.map eI)]) = true:=rfl
    simp only [Flt.pv] at V
    simp only [go_sem,hid,hid',hlt,V,C,escOf,hmx,hwf,hz,hz2,w2,frzB]
    rw [trunc_out (by simp)]
    simp only [go_sem,hid']
    refine ⟨(fs ++ [f],a3),by simp [Flt.pv],⟨by simp; omega,fun g hg=>?_,by dsimp only; omega,by simp; omega⟩,by simp; omega⟩
    rcases List.mem_append.1 hg with hg | hg
    · exact q2 g hg
    · rw [List.mem_singleton.1 hg]; exact hf
  · have hge' : ¬ fs.length < m := by omega
    simp only [go_sem,hid,hid',hge']
    refine ⟨fs.map Flt.pv,b,⟨by omega,by omega,fs,by omega,q2,rfl⟩,by rw [List.length_map],?_⟩
    exact List.take_of_length_le (by simp)
def unFlt : PV → Flt
  | .agg [.int _ k,.sl _ xs]=>⟨k,xs.map unI⟩
  | _=>⟨0,[]⟩
theorem unFlt_pv (f : Flt) : unFlt f.pv = f:=by
  have : (f.nets.map eI).map unI = f.nets:=by
    rw [List.map_map]
    exact (List.map_congr_left fun x _=>rfl).trans (List.map_id _)
  obtain ⟨k,ns⟩:=f
  show (⟨k,(ns.map eI).map unI⟩ : Flt) = ⟨k,ns⟩
  rw [this]
theorem fltPs {fs : List Flt} : shps (some 2) (fs.map Flt.pv):=fun x hx=>by obtain ⟨f,_,rfl⟩:=List.mem_map.1 hx; rfl
theorem g_RightFaults (n : Nat) (hn : n ≤ 100) (hp : posN 4000 a) : GenE f_q041 [AI n] L a (fun v a2=>a ≤ a2 ∧ a2 ≤ a + 721 ∧ ∃ fs : List Flt,fs.length ≤ 6 ∧ (∀ f ∈ fs,SmallF f ∧ fltF n f = 0) ∧ v = AFlt fs):=by
  refine GenE.of fun h id hid=>?_
  rw [c_q041 rfl]
  have hid' : id ≤ h.length:=by omega
  obtain ⟨xs,a2,⟨d1,d2,fs,f1,f2,rfl⟩,V⟩:=g_FaultList (L:=L) (a:=a) n hn hp (h.set id (strm L a) ++ [.box [AI n]]) id (by rw [List.getElem?_append_left (by simpa using hid)]; exact set_get' hid)
  have e0 : (h.set id (strm L a) ++ [Obj.box [AI n]]).set id (strm L a2) = h.set id (strm L a2) ++ [.box [AI n]]:=by rw [List.set_append_left _ _ (by simpa using hid),List.set_set]
  rw [e0] at V
  simp only [List.length_append,List.length_set,List.length_cons,List.length_nil,List.length_map,Nat.zero_add,List.append_assoc,List.cons_append,List.nil_append] at V
  have hT : TellsX f_q042 [.ref h.length 0] (fun x=>decide (fltF n (unFlt x) ≠ 0)) (fs.map Flt.pv) (h.length + 1) (h.set id (strm L a2) ++ [.box [AI n],.row (some 2) (fs.map Flt.pv) 0]):=by
    intro o t x hx K
    obtain ⟨f,hf,rfl⟩:=List.mem_map.1 hx
    have hl:=(f2 f hf).1
    show ACall X _ _ _ K = K (AB (decide (fltF n (unFlt f.pv) ≠ 0))) _ []
    rw [unFlt_pv]
    refine rule ?_
    rw [c_q042 rfl]
    have es : (h.set id (strm L a2) ++ [Obj.box [AI n],.row (some 2) (fs.map Flt.pv) 0]).set (h.length + 1) o = h.set id (strm L a2) ++ [.box [AI n],o]:=by
      rw [List.set_append_right _ _ (by simp)]
      simp
    rw [es]
    have q:=fun h K=>s_FaultFault (h:=h) (K:=K) n f (by omega) (by omega)
    have fp : Flt.pv f = .agg [eI f.kind,.sl none (f.nets.map eI)]:=rfl
    rw [fp] at q ⊢
    have g1 : (h.set id (strm L a2) ++ Obj.box [AI n] :: o :: (t ++ [Obj.box [.p (eI f.kind),.p (.sl none (f.nets.map eI))]]))[h.length]? = some (.box [AI n]):=by
      rw [List.getElem?_append_right (by simp)]
      simp
    simp only [d_q042,go_sem,hid,g1,↓q,q]
    simp
  have D:=fun K=>DeleteFunc_Fault (K:=K) (h:=h.set id (strm L a2) ++ [.box [AI n],.row (some 2) (fs.map Flt.pv) 0]) (h.length + 1) (fs.map Flt.pv) fltPs (by simp; omega) (by rw [List.getElem?_append_right (by simp)]; simp) hT (by simp [AV.tops,AV.top])
  have e1 : fs.map Flt.pv = fs.map Flt.pv:=rfl
  have ef : ((fs.map Flt.pv).filter fun x=>!decide (fltF n (unFlt x) ≠ 0)) = (fs.filter fun f=>decide (fltF n f = 0)).map Flt.pv:=by
    rw [List.filter_map]
    congr 1
    apply List.filter_congr
    intro f _
    simp [unFlt_pv]
  rw [List.length_map,ef,List.length_map] at D
  have fl : (fs.filter fun f=>decide (fltF n f = 0)).length ≤ fs.length:=List.length_filter_le ..
  have fm : ∀ f ∈ fs.filter (fun f=>decide (fltF n f = 0)),SmallF f ∧ fltF n f = 0:=fun f hf=>by
    rw [List.mem_filter] at hf
    exact ⟨f2 f hf.1,by simpa using hf.2⟩
  generalize fs.filter (fun f=>decide (fltF n f = 0)) = gs at *
  have hle : fs.length = gs.length + (fs.length - gs.length):=by omega
  have rl : (gs.map Flt.pv ++ List.replicate (fs.length - gs.length) (PV.agg [.int .i64 0,.sl none []])).length = fs.length:=by simp; omega
  have hw : win (gs.map Flt.pv ++ List.replicate (fs.length - gs.length) (PV.agg [.int .i64 0,.sl none []])) 0 gs.length = gs.map Flt.pv:=by unfold win; simp
  generalize gs.map Flt.pv ++ List.replicate (fs.length - gs.length) (PV.agg [.int .i64 0,.sl none []]) = row at *
  simp only [d_q041,go_sem,hid,hid',↓V,V,↓D,D,rl,fl,hw,AV.top,Nat.zero_le]
  exact ⟨a2,⟨d1,d2,gs,by omega,fm,rfl⟩,rfl⟩
end Go.Am
end
section
/- Stable sorts of numbers: printed by program. -/
open Go
set_option linter.unusedSimpArgs false
namespace Go.Am
attribute [-go_sem] PV.cells splice
variable {h : Heap} {K : Post}
end Go.Am
end
section
/- Faults compared; texts of faults drawn. -/
open Go
set_option linter.all false
namespace Go.Am
variable {L : List Int} {a : Int} {h : Heap} {K : Post}
theorem own_arg1 {f : Nat} {F : AFun} {id fz : Nat} {sh : Sh} {xs : List PV} (hf : X.fn f = some F) (hr : F.byref = false) (hl : F.nparams = 1) (hh : h[id]? = some (.row sh xs fz)) : ACall X f [.own id xs.length 0 xs.length] h K = ACall X f [.p (.sl sh xs)] (frz h id xs.length) K:=
  arg_pur (X:=X) (a:=[.own id xs.length 0 xs.length]) (vs:=[.sl sh xs]) hf hr (by
    have : win xs 0 xs.length = xs:=win_full rfl
    simp [puras,pur,rd,hh,this]) rfl (by simp [hl]) frz_len
theorem own_arg2 {f : Nat} {F : AFun} {id fz : Nat} {sh : Sh} {xs : List PV} {v : PV} (hf : X.fn f = some F) (hr : F.byref = false) (hl : F.nparams = 2) (hh : h[id]? = some (.row sh xs fz)) : ACall X f [.p v,.own id xs.length 0 xs.length] h K = ACall X f [.p v,.p (.sl sh xs)] (frz h id xs.length) K:=
  arg_pur (X:=X) (a:=[.p v,.own id xs.length 0 xs.length]) (vs:=[v,.sl sh xs]) hf hr (by
    have : win xs 0 xs.length = xs:=win_full rfl
    simp [puras,pur,rd,hh,this]) rfl (by simp [hl]) frz_len
theorem s_SameFault (x y : Flt) (hx : x.nets.length ≤ 1000000) : ACall X f_q04s [.p x.pv,.p y.pv] h K = K (AB (decide (x = y))) h []:=by
  refine rule ?_
  rw [c_q04s rfl]
  have q:=fun h K=>s_EqualI (h:=h) (K:=K) x.nets y.nets (by omega)
  have fx : Flt.pv x = .agg [eI x.kind,.sl none (x.nets.map eI)]:=rfl
  have fy : Flt.pv y = .agg [eI y.kind,.sl none (y.nets.map eI)]:=rfl
  have e : decide (x = y) = (decide (x.kind = y.kind) && decide (x.nets = y.nets)):=by
    obtain ⟨k,n⟩:=x; obtain ⟨k2,n2⟩:=y
    simp [Flt.mk.injEq]
  rw [fx,fy,e]
  by_cases hk : x.kind = y.kind
  · simp only [d_q04s,go_sem,hk,↓q,q]
  · simp only [d_q04s,go_sem,hk]
theorem s_EqualFuncF (x y : List Flt) (ha : x.length ≤ 1000000) (hr : ∀ f ∈ x,f.nets.length ≤ 1000000) : ACall X f_q05w [AFlt x,AFlt y,.fn f_q04s []] h K = K (AB (decide (x = y))) h []:=by
  refine rule ?_
  rw [c_q05w rfl]
  by_cases hl : x.length = y.length
  · have hl' : (x.length : Int) = (y.length : Int) := by omega
    simp only [d_q05w,go_sem,eq_true hl']
    refine N_loop (fun k : Nat=>⟨[(1,AFlt y),(2,.fn f_q04s []),(15,AFlt x),(16,AI x.length),(17,AI k)],h,[]⟩) (fun k=>k ≤ x.length ∧ x.take k = y.take k) (fun k=>x.length - k) 0 rfl ⟨by omega,rfl⟩ ?_
    rintro k ⟨hk,hp⟩
    rcases Nat.lt_or_ge k x.length with hlt | hge
    · have hkb : k < y.length := by omega
      have g1:=map_get Flt.pv hlt
      have g2:=map_get Flt.pv hkb
      have c1:=flt_cut (f:=x[k])
      have c2:=flt_cut (f:=y[k])
      have q:=fun h K=>s_SameFault (h:=h) (K:=K) x[k] y[k] (hr _ (List.getElem_mem hlt))
      simp only [Flt.pv] at q g1 g2 c1 c2
      have w2 : IntKind.i64.wrap ((k : Int) + 1) = ((k + 1 : Nat) : Int):=i64_wrap _ (by omega) (by omega)
      by_cases hs : x[k] = y[k]
      · rw [decide_eq_true hs] at q
        simp only [go_sem,hlt,hkb,g1,g2,c1,c2,↓q,q,w2]
        refine ⟨k + 1,rfl,⟨by omega,?_⟩,by omega⟩
        rw [List.take_succ_eq_append_getElem hlt,List.take_succ_eq_append_getElem hkb,hp,hs]
      · rw [decide_eq_false hs] at q
        have : ¬ x = y:=fun e=>by subst e; exact hs rfl
        simp only [go_sem,hlt,hkb,g1,g2,c1,c2,↓q,q,this]
    · have ek : k = x.length := by omega
      subst ek
      have : x = y:=by rw [List.take_length,hl,List.take_length] at hp; exact hp
      simp only [go_sem,Nat.lt_irrefl,eq_true this]
  · have hl' : ¬ (x.length : Int) = (y.length : Int) := by omega
    have : ¬ x = y:=fun e=>hl (by rw [e])
    simp only [d_q05w,go_sem,hl',this]
theorem wordK_len (k : Int) : (wordK k).length ≤ 6:=by
  unfold wordK
  cases h : wordsK[k.toNat]? with
  | none=>simp
  | some w=>
    have : w ∈ wordsK:=List.mem_of_getElem? h
    have : ∀ w ∈ wordsK,w.length ≤ 6:=by decide
    exact this _ (List.mem_of_getElem? h)
theorem numsL_len : ∀ (l : List Int),(∀ n ∈ l,-9000000000000000000 ≤ n ∧ n ≤ 9000000000000000000) → (numsL l).length ≤ 21 * l.length
  | [],_=>by simp [numsL]
  | [x],h=>by
    have:=itoa_len (h x (by simp)).1 (h x (by simp)).2
    simp [numsL,List.intercalate]
    omega
  | x :: y :: r,h=>by
    have ih:=numsL_len (y :: r) (fun n hn=>h n (by simp [hn]))
    have e : numsL (x :: y :: r) = itoa x ++ 32 :: numsL (y :: r):=by
      unfold numsL
      simp [List.intercalate,List.intersperse]
    have:=itoa_len (h x (by simp)).1 (h x (by simp)).2
    rw [e]
    simp only [List.length_append,List.length_cons] at ih ⊢
    omega
theorem faultLine_len {f : Flt} (h : ∀ n ∈ f.nets,-9000000000000000000 ≤ n ∧ n ≤ 9000000000000000000) : (faultLine f).length ≤ 8 + 21 * f.nets.length:=by
  have h1:=wordK_len f.kind
  have h2:=numsL_len f.nets h
  unfold faultLine
  simp only [List.length_append,List.length_cons,List.length_nil]
  omega
theorem faultLines_len (m : Nat) : ∀ (fs : List Flt),(∀ f ∈ fs,f.nets.length ≤ m ∧ ∀ n ∈ f.nets,-9000000000000000000 ≤ n ∧ n ≤ 9000000000000000000) → (faultLines fs).length ≤ (8 + 21 * m) * fs.length
  | [],_=>by simp [faultLines]
  | f :: r,h=>by
    have ih:=faultLines_len m r (fun g hg=>h g (by simp [hg]))
    have h1:=faultLine_len (h f (by simp)).2
    have h2:=(h f (by simp)).1
    have e : faultLines (f :: r) = faultLine f ++ faultLines r:=by simp [faultLines]
    rw [e,List.length_append,List.length_cons,Nat.mul_succ]
    have : 21 * f.nets.length ≤ 21 * m:=Nat.mul_le_mul_left _ h2
    omega
theorem small_bd {n : Nat} {fs : List Flt} (hn : n ≤ 100) (h : ∀ f ∈ fs,SmallF f ∧ fltF n f = 0) : (∀ f ∈ fs,0 ≤ f.kind ∧ f.kind ≤ 6) ∧ (∀ f ∈ fs,∀ x ∈ f.nets,-1000000000000000000 ≤ x ∧ x ≤ 1000000000000000000) ∧ (∀ f ∈ fs,f.nets.length ≤ 6):=by
  refine ⟨fun f hf=>?_,fun f hf x hx=>?_,fun f hf=>?_⟩
  · obtain ⟨_,_,_,h1,h2,_⟩:=fltF_ok (h f hf).2; omega
  · obtain ⟨_, _, h1, _⟩ := fltF_ok (h f hf).2
    have:=h1 x hx; omega
  · exact (fltF_ok (h f hf).2).2.1
theorem g_FaultTextS (n : Nat) (hn : n ≤ 100) (hp : posN 5000 a) : GenE f_q03t [AI n] L a (fun v a2=>a ≤ a2 ∧ a2 ≤ a + 800 ∧ ∃ t : List UInt8,t.length ≤ 2000 ∧ v = AS t):=by
  refine GenE.of fun h id hid=>?_
  rw [c_q03t rfl]
  obtain ⟨_,a2,⟨d1,d2,fs,f1,f2,rfl⟩,V⟩:=(g_RightFaults (L:=L) (a:=a) n hn (posN_le hp (by omega) (by omega))).set (h:=h) hid
  obtain ⟨b1,b2,b3⟩:=small_bd hn f2
  have hl:=faultLines_len 6 fs (fun f hf=>⟨b3 f hf,fun x hx=>by have:=b2 f hf x hx; omega⟩)
  have hll : (faultLines fs).length ≤ 900:=by omega
  have F:=fun h K=>s_FaultLines (h:=h) (K:=K) fs b1 b2 (by omega) (fun f hf=>by have:=b3 f hf; omega) (by omega)
  have p0 : posN 0 a2:=posN_le hp (by omega) (by omega)
  have hm:=pickV_mem (L:=L) (a:=a2) (l:=[0,0,1,2]) (by simp) (by simp)
  have hbd : 0 ≤ pickV [0,0,1,2] L a2 ∧ pickV [0,0,1,2] L a2 ≤ 2:=by
    simp only [List.mem_cons,List.not_mem_nil,or_false] at hm
    omega
  obtain ⟨m,hm⟩:=Int.eq_ofNat_of_zero_le hbd.1
  rw [hm] at hbd
  have hx : ([.int .i64 0,.int .i64 0,.int .i64 1,.int .i64 2] : List PV).all isI = true:=rfl
  have hu : ([.int .i64 0,.int .i64 0,.int .i64 1,.int .i64 2] : List PV).map unI = [0,0,1,2]:=rfl
  simp only [d_q03t,go_sem,hid,↓V,V,↓F,F,p0,hx,hu,hm]
  refine N_loop (fun y : Nat × List UInt8 × Int=>⟨[(0,.ref id 0),(5,AS y.2.1),(12,AI m),(13,AI y.1)],h.set id (strm L y.2.2),[]⟩) (fun y=>y.1 ≤ m ∧ y.2.1.length ≤ 900 + 13 * y.1 ∧ a2 + 1 ≤ y.2.2 ∧ y.2.2 ≤ a2 + 1 + 3 * y.1) (fun y=>m - y.1) (0,faultLines fs,a2 + 1) rfl ⟨by simp,by dsimp only; omega,by simp,by simp⟩ ?_
  rintro ⟨k,t,b⟩ ⟨k1,k2,k3,k4⟩
  dsimp only at k1 k2 k3 k4 ⊢
  rcases Nat.lt_or_ge k m with hlt | hge
  · have hlt' : (k : Int) < (m : Int) := by omega
    obtain ⟨_,b2,⟨c1,c2,t',c3,rfl⟩,V2⟩:=(g_Changed (L:=L) (a:=b) t [32,10,48,49,45,115,116,117,99,107,97,110,100] (by omega) (by decide) (by decide) (by decide) (posN_le hp (by omega) (by omega))).set (h:=h) hid
    have wk : IntKind.i64.wrap ((k : Int) + 1) = ((k + 1 : Nat) : Int):=i64_wrap _ (by omega) (by omega)
    have hl13 : ([32,10,48,49,45,115,116,117,99,107,97,110,100] : List UInt8).length = 13:=rfl
    rw [hl13] at c3
    simp only [go_sem,hlt',↓V2,V2,wk]
    exact ⟨(k + 1,t',b2),rfl,⟨by dsimp only; omega,by dsimp only; omega,by dsimp only; omega,by dsimp only; omega⟩,by dsimp only; omega⟩
  · have hk : k = m := by omega
    subst hk
    have hlt' : ¬ (k : Int) < (k : Int):=by omega
    simp only [go_sem,hlt']
    exact ⟨b,⟨by omega,by omega,t,by omega,rfl⟩,rfl⟩
end Go.Am
end
section
/- The fault chapter's closed call. -/
open Go
set_option linter.all false
namespace Go.Am
variable {h : Heap} {K : Post}
theorem comb_faulted : combV [[48,49]] [⟨2,[0]⟩] = .tup [AStr [[49,49]],AI 0]:=by kernel_rfl
theorem s_faulted : ACall X f_q03m [] h K = K (AB true) h []:=by
  refine rule ?_
  rw [c_q03m rfl]
  have R:=fun h K=>s_Response (h:=h) (K:=K) [[48,49]] ⟨2,[0]⟩ (by simp) (by simp) (by simp)
  rw [comb_faulted] at R
  simp only [AStr,Flt.pv,List.map_cons,List.map_nil] at R
  simp only [d_q03m,go_sem,R]
end Go.Am
end
section
/- FaultTexts returns true. -/
open Go
set_option linter.all false
set_option maxRecDepth 100000
namespace Go.Am
variable {h : Heap} {K : Post}
attribute [-go_sem] e_q03j_k1
theorem law_FT (L : List Int) {K : Post} : ACall X f_q03j [AL L] [] K = K (AB true) [] []:=by
  refine rule ?_
  rw [c_q03j rfl]
  have p0 : posN 100000 0:=by unfold posN; omega
  have p00 : posN 0 0:=by unfold posN; omega
  have hx : ([.int .i64 3,.int .i64 5,.int .i64 2,.int .i64 0,.int .i64 101] : List PV).all isI = true:=rfl
  have hu : ([.int .i64 3,.int .i64 5,.int .i64 2,.int .i64 0,.int .i64 101] : List PV).map unI = [3,5,2,0,101]:=rfl
  have hm:=pickV_mem (L:=L) (a:=0) (l:=[3,5,2,0,101]) (by simp) (by simp)
  have hbd : 0 ≤ pickV [3,5,2,0,101] L 0 ∧ pickV [3,5,2,0,101] L 0 ≤ 101:=by
    simp only [List.mem_cons,List.not_mem_nil,or_false] at hm
    omega
  generalize hn : pickV [3,5,2,0,101] L 0 = n at *
  obtain ⟨xs,a2,⟨d1,d2,fs,f1,f2,rfl⟩,V⟩:=g_FaultList (L:=L) (a:=1) 4 (by omega) (posN_le p0 (by omega) (by omega)) [strm L 1] 0 rfl
  rw [List.length_map] at V
  have e4 : ((4 : Nat) : Int) = 4:=rfl
  have e3 : ((3 : Nat) : Int) = 3:=rfl
  rw [e4] at V
  obtain ⟨_,a3,⟨c1,c2,t,ht,rfl⟩,V2⟩:=(g_FaultTextS (L:=L) (a:=a2) 3 (by omega) (posN_le p0 (by omega) (by omega))).hd (l:=[.row (some 2) (fs.map Flt.pv) 0])
  rw [e3] at V2
  have hsm : ∀ f ∈ fs,f.nets.length ≤ 8:=fun f hf=>(f2 f hf).1
  have hfl : (faultLines fs).length ≤ 1000000000:=by
    have:=faultLines_len 8 fs (fun f hf=>⟨hsm f hf,fun x hx=>by have:=(f2 f hf).2.1 x hx; omega⟩)
    omega
  have h20 : ¬ 20000 < fs.length:=by omega
  have fz : ∀ (o : Obj) (xs : List PV) (z : Nat),frz [o,.row (some 2) xs z] 1 fs.length = [o,.row (some 2) xs (max z fs.length)]:=fun _ _ _=>rfl
  have T1 : ∀ (o : Obj) (z : Nat) (K : Post),ACall X f_q01g [.own 1 fs.length 0 fs.length] [o,.row (some 2) (fs.map Flt.pv) z] K = K (.tup [AS (if textF fs = 0 then faultLines fs else []),AI (textF fs)]) [o,.row (some 2) (fs.map Flt.pv) (max z fs.length)] []:=fun o z K=>by
    have:=own_arg1 (K:=K) (f:=f_q01g) (F:=a_q01g) (id:=1) (fz:=z) (sh:=some 2) (xs:=fs.map Flt.pv) (h:=[o,.row (some 2) (fs.map Flt.pv) z]) x_q01g rfl rfl rfl
    rw [List.length_map,fz] at this
    rw [this]
    exact s_FaultText fs (by omega) (fun f hf=>by have:=hsm f hf; omega) hfl
  have T2 : ∀ (o : Obj) (z : Nat) (K : Post),ACall X f_q04d [AI 100,.own 1 fs.length 0 fs.length] [o,.row (some 2) (fs.map Flt.pv) z] K = K (AI (fltsF 100 fs)) [o,.row (some 2) (fs.map Flt.pv) (max z fs.length)] []:=fun o z K=>by
    have:=own_arg2 (K:=K) (f:=f_q04d) (F:=a_q04d) (id:=1) (fz:=z) (sh:=some 2) (xs:=fs.map Flt.pv) (v:=.int .i64 100) (h:=[o,.row (some 2) (fs.map Flt.pv) z]) x_q04d rfl rfl rfl
    rw [List.length_map,fz] at this
    rw [this]
    exact s_FaultsFault 100 fs (by omega) (fun f hf=>by have:=hsm f hf; omega) (by omega)
  have T4:=fun h K=>s_FaultRead (h:=h) (K:=K) n t (by omega) (by omega)
  have T5:=fun h K=>s_FaultsReadQ (h:=h) (K:=K) n t (by omega) (by omega)
  have gl:=frV_bd readQ n t readQ_nets (by omega)
  have T6 : ∀ (h : Heap) (K : Post),ACall X f_q05w [AFlt (frV readQ n t).1,AFlt (frV readQ n t).1,.fn f_q04s []] h K = K (AB true) h []:=fun h K=>by
    have:=s_EqualFuncF (h:=h) (K:=K) (frV readQ n t).1 (frV readQ n t).1 gl.1 gl.2
    rw [this,decide_eq_true rfl]
  rw [frV_eq] at T4
  by_cases h0 : fltsF 100 fs = 0
  · have T3 : ∀ (o : Obj) (z : Nat) (K : Post),ACall X f_q04c [.own 1 fs.length 0 fs.length] [o,.row (some 2) (fs.map Flt.pv) z] K = K (AS (faultLines fs)) [o,.row (some 2) (fs.map Flt.pv) (max z fs.length)] []:=fun o z K=>by
      have:=own_arg1 (K:=K) (f:=f_q04c) (F:=a_q04c) (id:=1) (fz:=z) (sh:=some 2) (xs:=fs.map Flt.pv) (h:=[o,.row (some 2) (fs.map Flt.pv) z]) x_q04c rfl rfl rfl
      rw [List.length_map,fz] at this
      rw [this]
      have ho : ∀ f ∈ fs,fltF 100 f = 0:=flts_all h0
      exact s_FaultLines fs (fun f hf=>by obtain ⟨_,_,_,q1,q2,_⟩:=fltF_ok (ho f hf); omega) (fun f hf x hx=>by obtain ⟨_,_,q,_⟩:=fltF_ok (ho f hf); have:=q x hx; omega) (by omega) (fun f hf=>by have:=hsm f hf; omega) hfl
    have h1 : textF fs = 0:=by
      unfold textF
      rw [if_neg h20,if_neg (by simp [h0]),if_neg]
      have:=faultLines_len 8 fs (fun f hf=>⟨hsm f hf,fun x hx=>by have:=(f2 f hf).2.1 x hx; omega⟩)
      omega
    rw [h1] at T1
    rw [h0] at T2
    simp only [d_q03j,go_sem,p00,hx,hu,hn,↓V,V,↓V2,V2,↓T1,T1,↓T2,T2,↓T3,T3]
    rw [e_q03j_k1]
    simp only [d_q03j_k1,go_sem,↓T4,T4,↓T5,T5,↓T6,T6,s_faulted]
  · have h1 : textF fs = fltsF 100 fs:=by
      unfold textF
      rw [if_neg h20,if_pos h0]
    rw [h1,if_neg h0] at T1
    simp only [d_q03j,go_sem,p00,hx,hu,hn,↓V,V,↓V2,V2,↓T1,T1,↓T2,T2,h0]
    rw [e_q03j_k1]
    simp only [d_q03j_k1,go_sem,↓T4,T4,↓T5,T5,↓T6,T6,s_faulted]
end Go.Am
end
section
/- From a law that is true here to the model's calls at what came in. -/
open Go
namespace Go.Am
variable {P : Program}
theorem law_nil {X : Ctx} (HX : Fits P X) {f : Nat} {F : AFun} (hF : X.fn f = some F) (H : ∀ L : List Int,ACall X f [pints L] [] fun v _ _=>v = .p (.bool true)) (W : World) (hG : GInv X.gl (imm [] [] W)) :
    Calls P f #[.slice none 0 0] W fun e W'=>e = .returned (.bool true) ∧ RowKit.Below W.heap.size W W':=by
  refine (calls_of HX hF (H []) (W:=W) (vs:=[.slice none 0 0]) hG rfl (fun j y v hy hv=>?_)).mono fun e W' he=>?_
  · cases j with
    | zero=>cases hy; cases hv; exact came_nil W
    | succ j=>cases hy
  · cases e with
    | returned r=>
      obtain ⟨⟨v,h,x,μ,hk,hr⟩,hb⟩:=he
      subst hk
      exact ⟨by rw [hr.p_bool],hb⟩
    | panicked _=>exact he.elim
    | outgrown=>exact he.elim
theorem law_ints {X : Ctx} (HX : Fits P X) {f : Nat} {F : AFun} (hF : X.fn f = some F) (H : ∀ L : List Int,ACall X f [pints L] [] fun v _ _=>v = .p (.bool true)) {W : World} (hG : GInv X.gl (imm [] [] W)) {a : Addr} {len cap : Nat} {zs : List Int}
    (hl : len ≤ cap) (hz : len ≤ zs.length) (hc : ∀ i,i < zs.length → W.cell? (a.add i) = some (.int .i64 (zs.getD i 0))) :
    Calls P f #[.slice (some a) len cap] W fun e W'=>e = .returned (.bool true) ∧ RowKit.Below W.heap.size W W':=by
  refine (calls_of HX hF (H (zs.take len)) (W:=W) (vs:=[.slice (some a) len cap]) hG rfl (fun j y v hy hv=>?_)).mono fun e W' he=>?_
  · cases j with
    | zero=>
      cases hy; cases hv
      rcases Nat.eq_zero_or_pos len with h0 | h0
      · subst h0
        exact .p _ _ (.nils _ _ _)
      · exact came_ints (by simpa [Addr.add] using World.cell?_spot (hc 0 (by omega))) hl hz hc
    | succ j=>cases hy
  · cases e with
    | returned r=>
      obtain ⟨⟨v,h,x,μ,hk,hr⟩,hb⟩:=he
      subst hk
      exact ⟨by rw [hr.p_bool],hb⟩
    | panicked _=>exact he.elim
    | outgrown=>exact he.elim
end Go.Am
namespace Go.ChangeShapes
open Go.RowKit Go.WideShapes
section
variable {H : Type} {enc : TypeId × Value → H} {P : Program}
end
end Go.ChangeShapes
end
section
/- The abstract machine,part L2: the kit's contracts asv rows. -/
set_option linter.unusedSimpArgs false
set_option linter.unusedVariables false
namespace Go.Am
variable {P : Program} {gl : Nat → Option PV}
open Go.Shelf
theorem lib_dec : ∀ n : Nat,Go.Lib.decDigits n = decN n:=by
  intro n
  induction n using Nat.strongRecOn with
  | _ n ih=>
    rw [Go.Lib.decDigits,decN]
    split
    · rfl
    · rw [ih _ (by omega)]; rfl
theorem lib_itoa (n : Int) : Go.Lib.itoa n = itoa n:=by
  unfold Go.Lib.itoa itoa
  split
  · rw [lib_dec]
  · rw [lib_dec]; congr 1; omega
theorem tab_of {M : Mem} {w : World} {g : Nat} {name : String} {k : IntKind} {zs : List Int} (hn : P.globalNamed name = some g) (hg : gl g = some (.agg (zs.map (PV.int k)))) (hc : ∀ b o v,M.c b o = some v → w.cell? ⟨b,o,none⟩ = some v) (hb : ∀ b o,M.b b = some o → w.heap[b]? = some o) (hG : GInv gl M) :
    Go.Lib.TabIs P w name k zs:=by
  obtain ⟨hv,cs,t,x,h2,h3⟩:=hG g _ hg
  have h4:=hb _ _ h2
  unfold Go.Lib.TabIs World.var?
  rw [hn]
  simp only [Option.bind_some,h4,Option.some.injEq]
  simp only [PV.cells,List.length_map] at h3
  apply Array.ext
  · simpa using h3
  · intro i hi1 hi2
    have hi : i < zs.length:=by omega
    cases hv with
    | vp _ _ _ f hm hr=>
      have hy : (PV.agg (zs.map (PV.int k))).cells[i]? = some (.int k zs[i]):=by simp [PV.cells,hi]
      have q1:=hc _ _ _ (hm i _ hy)
      have q2:=hr i _ hy
      have q3 : f i = .int k zs[i]:=by
        generalize f i = u at q2
        cases q2; rfl
      rw [q3] at q1
      have q4 : cs[i]? = some (.int k zs[i]):=by simpa [World.cell?,h4] using q1
      rw [Array.getElem?_eq_getElem hi1] at q4
      simpa using q4
theorem ginv_tab {W : World} {g : Nat} {name : String} {k : IntKind} {zs : List Int} {v : PV} (hn : P.globalNamed name = some g) (ht : Go.Lib.TabIs P W name k zs) (hv : v = .agg (zs.map (PV.int k))) : GInv (glOf [(g,v)]) (imm [] [] W):=by
  intro n v' hv'
  unfold glOf at hv'
  cases hq : Nat.beq n g with
  | false=>rw [hq] at hv'; cases hv'
  | true=>
    rw [hq] at hv'
    have e:=Nat.eq_of_beq_eq_true hq
    subst e
    simp only [cond_true,Option.some.injEq] at hv'
    subst hv'
    subst hv
    unfold Go.Lib.TabIs World.var? at ht
    rw [hn] at ht
    simp only [Option.bind_some] at ht
    cases hb : W.heap[n]? with
    | none=>rw [hb] at ht; cases ht
    | some o=>
      rw [hb] at ht
      cases o with
      | cells cs t x=>
        simp only [Option.some.injEq] at ht
        refine ⟨.vp _ n 0 (fun j=>(zs.map fun z=>Value.int k z).getD j undef) (fun j y hy=>?_) (fun j y hy=>?_),cs,t,x,imm0_blk hb,by rw [ht]; simp [PV.cells]⟩
        · have hj : j < zs.length := by have := lt_of_get hy; simpa [PV.cells] using this
          refine imm0_cell ?_
          simp [World.cell?,hb,ht,hj,List.getD_eq_getElem?_getD]
        · have hj : j < zs.length := by have := lt_of_get hy; simpa [PV.cells] using this
          have e1 : y = .int k zs[j]:=by simpa [PV.cells,hj] using hy.symm
          have e2 : (zs.map fun z=>Value.int k z).getD j undef = .int k zs[j]:=by simp [List.getD_eq_getElem?_getD,hj]
          rw [e1,e2]
          exact .int k _
      | _=>cases ht
theorem grow_ext (w : World) (k : Nat) (os : Array Go.Obj) : WExt w (Go.Sort.grow (w.drewN k) os):=by
  refine ⟨?_,fun b hb=>?_,rfl⟩
  · show w.heap.size ≤ (w.heap ++ os).size
    simp
  · show (w.heap ++ os)[b]? = _
    rw [Array.getElem?_append_left hb]
theorem itoaRow {ρ : Ren} (L : Go.Proofs.LaysM.n171 P ρ) (g : Nat) (hn : P.globalNamed "internal/strconv.uint64pow10" = some g) (hg : gl g = some pow10PV) (he : ∀ us w,(callFunc (ρ.f 171) us).run P w = .ok (.enter (ρ.f 171) us) w) : PureRow P gl (ρ.f 171) itoaS where
  enter:=he
  run M w vs r us hc hb hG hl hr hs:=by
    unfold itoaS at hs
    split at hs
    · rename_i n
      match us,hl with
      | [u],_=>
        have q:=hr 0 _ u rfl rfl
        cases q
        cases hbd : (decide (-9223372036854775808 ≤ n) && decide (n ≤ 9223372036854775807)) with
        | false=>rw [hbd] at hs; cases hs
        | true=>
          rw [hbd] at hs
          simp only [cond_true,Option.some.injEq] at hs
          subst hs
          simp only [Bool.and_eq_true,decide_eq_true_eq] at hbd
          have hpw : pow10PV = .agg (Go.Lib.pow10Tab.map (PV.int .u64)):=by unfold pow10PV Go.Lib.pow10Tab; rw [List.map_map]; rfl
          rw [hpw] at hg
          refine (Go.Proofs.Any.strconv_Itoa L n hbd.1 hbd.2 w (tab_of hn hg hc hb hG)).mono fun e w' h=>?_
          obtain ⟨rfl,k,os,rfl⟩:=h
          exact ⟨_,rfl,grow_ext w k os,by rw [lib_itoa]; exact .p _ _ (.str _)⟩
    · cases hs
end Go.Am
end
section
/- The abstract machine,part L3: strconv.Atoi asv a row. -/
set_option linter.all false
namespace Go.Am
variable {P : Program} {gl : Nat → Option PV}
open Go.Shelf
theorem lib_digs : ∀ (l : List UInt8) (acc n k : Nat),digN acc l = some n → acc < 10 ^ k → l.length + k ≤ 18 → Go.Lib.parseUint10 acc l = .ok n ∧ n < 10 ^ (k + l.length)
  | [],acc,n,k,h,ha,hl=>by
    simp only [digN,Option.some.injEq] at h
    subst h
    exact ⟨rfl,by simpa using ha⟩
  | c :: r,acc,n,k,h,ha,hl=>by
    simp only [digN] at h
    split at h
    · rename_i hc
      simp only [List.length_cons] at hl ⊢
      have h18 : 10 ^ (k + 1) ≤ 10 ^ 18:=Nat.pow_le_pow_right (by omega) (by omega)
      have e18 : (10 : Nat) ^ 18 = 1000000000000000000:=rfl
      have hp : acc * 10 + (c.toNat - 48) < 10 ^ (k + 1):=by rw [Nat.pow_succ]; omega
      obtain ⟨q1,q2⟩:=lib_digs r _ n (k + 1) h hp (by omega)
      refine ⟨?_,by rw [show k + (r.length + 1) = k + 1 + r.length by omega]; exact q2⟩
      unfold Go.Lib.parseUint10
      rw [if_pos hc,if_neg (by omega),if_neg (by omega)]
      exact q1
    · cases h
theorem lib_atoi {s : List UInt8} {n : Nat} (h1 : 1 ≤ s.length) (h2 : s.length ≤ 18) (h : digN 0 s = some n) : Go.Lib.atoiAll s = .ok (n : Int):=by
  obtain ⟨q1,q2⟩:=lib_digs s 0 n 0 h (by simp) (by omega)
  have h18 : 10 ^ (0 + s.length) ≤ 10 ^ 18:=Nat.pow_le_pow_right (by omega) (by omega)
  have e18 : (10 : Nat) ^ 18 = 1000000000000000000:=rfl
  cases s with
  | nil=>simp at h1
  | cons c r=>
    have hc : 48 ≤ c.toNat ∧ c.toNat ≤ 57:=by
      simp only [digN] at h
      split at h
      · assumption
      · cases h
    unfold Go.Lib.atoiAll
    dsimp only
    rw [if_neg (by omega)]
    have hm : Go.Lib.parseMag (c :: r) = .ok n:=by unfold Go.Lib.parseMag; rw [if_neg (by simp)]; exact q1
    rw [hm]
    dsimp only
    rw [if_neg (by omega),if_neg (by omega),if_neg (by omega)]
theorem lib_atoiN {s : List UInt8} {n : Nat} (h1 : 2 ≤ s.length) (h2 : s.length ≤ 18) (h0 : s.head? = some 45) (h : digN 0 s.tail = some n) : Go.Lib.atoiAll s = .ok (-(n : Int)):=by
  cases s with
  | nil=>simp at h1
  | cons c r=>
    simp only [List.head?_cons,Option.some.injEq] at h0
    subst h0
    simp only [List.tail_cons,List.length_cons] at h h1 h2
    obtain ⟨q1,q2⟩:=lib_digs r 0 n 0 h (by simp) (by omega)
    have h18 : 10 ^ (0 + r.length) ≤ 10 ^ 18:=Nat.pow_le_pow_right (by omega) (by omega)
    have e18 : (10 : Nat) ^ 18 = 1000000000000000000:=rfl
    have hm : Go.Lib.parseMag r = .ok n:=by
      unfold Go.Lib.parseMag
      rw [if_neg (by intro e; subst e; simp at h1)]
      exact q1
    have e45 : (45 : UInt8).toNat = 45:=rfl
    unfold Go.Lib.atoiAll
    dsimp only
    rw [if_pos (Or.inr e45),hm]
    dsimp only
    rw [if_neg (by simp [e45]),if_neg (by omega),if_pos e45]
theorem bytes_ext (w : World) (e : TypeId) (t : ByteArray) : WExt w (Go.Lib.bytesWorld w e t):=
  ⟨by rw [Go.Lib.bytesWorld_size]; omega,fun b hb=>Go.Lib.bytesWorld_at_old w e t b hb,by unfold zed Go.Lib.bytesWorld World.freeze; split <;> rfl⟩
theorem atoiRow {ρ : Ren} (L : Go.Proofs.LaysC.n172 P ρ) (he : ∀ us w,(callFunc (ρ.f 172) us).run P w = .ok (.enter (ρ.f 172) us) w) : PureRow P gl (ρ.f 172) atoiS where
  enter:=he
  run M w vs r us hc hb hG hl hr hs:=by
    unfold atoiS at hs
    split at hs
    · rename_i s
      match us,hl with
      | [u],_=>
        have q:=hr 0 _ u rfl rfl
        cases q
        split at hs
        · rename_i hbd
          have hv : ∃ v : Int,Go.Lib.atoiAll s = .ok v ∧ r = .tup [.p (.int .i64 v),.nili]:=by
            split at hs
            · rename_i n hn
              simp only [Option.some.injEq] at hs
              exact ⟨_,lib_atoi hbd.1 hbd.2 hn,hs.symm⟩
            · split at hs
              · rename_i h45
                obtain ⟨n,hn,rfl⟩:=Option.map_eq_some_iff.1 hs
                exact ⟨_,lib_atoiN h45.2 hbd.2 h45.1 hn,rfl⟩
              · cases hs
          obtain ⟨n,hn,rfl⟩:=hv
          have hsz : (⟨s.toArray⟩ : ByteArray).size = s.length:=by simp [ByteArray.size]
          refine (Go.Proofs.Any.strconv_Atoi_ok L ⟨s.toArray⟩ (by rw [hsz]; omega) n hn w).mono fun e w' h=>?_
          obtain ⟨rfl,h⟩:=h
          refine ⟨_,rfl,?_,?_⟩
          · rcases h with h | ⟨t, h⟩
            · rw [h]; exact WExt.refl _
            · rw [h]; exact bytes_ext _ _ t
          · refine .tup _ [.int .i64 n, .nilIface] rfl (fun j y v h1 h2 => ?_)
            match j with
            | 0=>simp at h1 h2; subst h1; subst h2; exact .p _ _ (.int _ _)
            | 1=>simp at h1 h2; subst h1; subst h2; exact .nili
            | j + 2=>simp at h1
        · cases hs
    · cases hs
end Go.Am
end
