/- Texts of the proof, laid together: SpFlt3, SpFlt4, SpFlt5, SpArg, SpFlt6, SpSortO, SpGenF, SpPath, SpReady, SpKeep, SpLawSA, Bridge, AmL2, AmL4. -/
import Derived.KernelRfl
import Derived.ProofKit
import Derived.Shelf.Strconv.Itoa3
import Derived.Lib.LaidTab
import Derived.Shelf.Strings.Repeat
import Derived.Shelf.Strings.SlTrimAscii
import Derived.Shelf.Spec.TrailingZeros
import Derived.Test.YtigceehkfnbmjaaGreatDoorlawSA6
set_option linter.all false
section
/- Lists of faults: what is wrong with them,both ways. -/
open Go
set_option linter.all false
namespace Go.Am
variable {h : Heap} {K : Post}
theorem flt_cut {f : Flt} : cutP (some 2) 0 f.pv = some f.pv:=rfl
def allF (t : List (List UInt8)) (l : List Flt) : Int:=if testF t ≠ 0 then testF t else fltsF t.length l
theorem s_faultsFault (t : List (List UInt8)) (l : List Flt) (hb : ∀ s ∈ t,s.length ≤ 1000000) (ht : t.length ≤ 1000000) (hf : ∀ f ∈ l,f.nets.length ≤ 1000000) (hn : l.length ≤ 1000000) : ACall X f_q012 [AStr t,AFlt l] h K = K (AI (allF t l)) h []:=by
  refine rule ?_
  rw [c_q012 rfl]
  have c:=fun h K=>s_CheckTest (h:=h) (K:=K) t hb ht
  unfold allF
  by_cases h1 : testF t = 0
  case neg=>simp only [d_q012,go_sem,c,h1]
  simp only [d_q012,go_sem,c,h1]
  refine N_loop (fun k : Nat=>⟨[(0,AStr t),(14,AFlt l),(15,AI l.length),(16,AI k)],h,[]⟩) (fun k=>k ≤ l.length ∧ fltsF (t.length : Int) (l.drop k) = fltsF (t.length : Int) l) (fun k=>l.length - k) 0 rfl ⟨by omega,by simp⟩ ?_
  rintro k ⟨hk,hp⟩
  rcases Nat.lt_or_ge k l.length with hlt | hge
  · have hg := map_get Flt.pv hlt
    have w2 : IntKind.i64.wrap ((k : Int) + 1) = ((k + 1 : Nat) : Int):=i64_wrap _ (by omega) (by omega)
    have e:=fun h K=>s_CheckFault (h:=h) (K:=K) (t.length : Int) l[k] (by omega) (hf _ (List.getElem_mem hlt))
    have cx:=flt_cut (f:=l[k])
    rw [List.drop_eq_getElem_cons hlt,fltsF] at hp
    simp only [Flt.pv] at hg cx e
    by_cases h2 : fltF (t.length : Int) l[k] = 0
    · rw [if_neg (by simp [h2])] at hp
      simp only [go_sem,hlt,hg,cx,e,h2,w2]
      exact ⟨k + 1,rfl,⟨by omega,hp⟩,by omega⟩
    · rw [if_pos h2] at hp
      simp only [go_sem,hlt,hg,cx,e,h2]
      rw [← hp]
  · have ek : k = l.length := by omega
    subst ek
    rw [List.drop_length] at hp
    simp only [go_sem,Nat.lt_irrefl]
    rw [← hp]; rfl
end Go.Am
end
section
/- Rows of a test asv numbers. -/
open Go
set_option linter.all false
namespace Go.Am
variable {h : Heap} {K : Post}
abbrev eU (n : Nat) : PV:=.int .u64 (n : Int)
theorem testL_ok {lg : Nat} : ∀ {t : List (List UInt8)},testL lg t = 0 → ∀ s ∈ t,bitsB s = true ∧ s.length = lg ∧ s.length ≤ 64
  | [],_,s,hs=>by cases hs
  | a :: r,h,s,hs=>by
    unfold testL at h
    split at h
    · cases h
    split at h
    · cases h
    split at h
    · cases h
    rename_i h1 h2 h3
    rcases List.mem_cons.1 hs with rfl | hs
    · exact ⟨by simpa using h1,by simpa using h3,by omega⟩
    · exact testL_ok h s hs
structure TestOk (t : List (List UInt8)) (lg : Nat) : Prop where
  n0 : 0 < t.length
  n1 : t.length ≤ 100
  l : lg ≤ 64
  b : ∀ s ∈ t,bitsB s = true
  e : ∀ s ∈ t,s.length = lg
theorem testF_ok {t : List (List UInt8)} (h : testF t = 0) : TestOk t (t.headD []).length:=by
  unfold testF at h
  split at h
  · cases h
  split at h
  · cases h
  have k:=testL_ok h
  have hm : t.headD [] ∈ t:=by
    cases t with
    | nil=>rename_i h0 _; exact absurd rfl h0
    | cons a r=>exact List.mem_cons_self ..
  exact ⟨by omega,by omega,(k _ hm).2.2,fun s hs=>(k s hs).1,fun s hs=>(k s hs).2.1⟩
theorem s_rows (t : List (List UInt8)) (hb : ∀ s ∈ t,bitsB s = true) (hl : ∀ s ∈ t,s.length ≤ 64) (hn : t.length ≤ 1000000) : ACall X f_q015 [AStr t] h K = K (.own h.length t.length 0 t.length) (h ++ [.row none ((t.map rowN).map eU) 0]) []:=by
  refine rule ?_
  rw [c_q015 rfl]
  simp only [d_q015,go_sem]
  refine N_loop (fun k : Nat=>⟨[(3,.own h.length k 0 k),(8,AStr t),(9,AI t.length),(10,AI k)],h ++ [.row none (((t.take k).map rowN).map eU) 0],[]⟩) (fun k=>k ≤ t.length) (fun k=>t.length - k) 0 rfl (by omega) ?_
  intro k hk
  rcases Nat.lt_or_ge k t.length with hlt | hge
  · have hg := map_get PV.str hlt
    have w2 : IntKind.i64.wrap ((k : Int) + 1) = ((k + 1 : Nat) : Int):=i64_wrap _ (by omega) (by omega)
    have b1:=hb _ (List.getElem_mem hlt)
    have l1:=hl _ (List.getElem_mem hlt)
    have cx : cutP none 0 (PV.str t[k]) = some (PV.str t[k]):=rfl
    simp only [go_sem,hlt,hg,cx]
    generalize hs : t[k] = s at *
    refine N_loop (fun i : Nat=>⟨[(3,.own h.length k 0 k),(5,AS s),(6,.p (eU (rowN (s.take i)))),(8,AStr t),(9,AI t.length),(10,AI k),(15,AI s.length),(16,AI i)],h ++ [.row none (((t.take k).map rowN).map eU) 0],[]⟩) (fun i=>i ≤ s.length) (fun i=>s.length - i) 0 rfl (by omega) ?_
    intro i hi
    rcases Nat.lt_or_ge i s.length with hlt2 | hge2
    · have g2 : s[i]? = some s[i] := List.getElem?_eq_getElem hlt2
      have w3 : IntKind.i64.wrap ((i : Int) + 1) = ((i + 1 : Nat) : Int):=i64_wrap _ (by omega) (by omega)
      have bt:=bit_at hlt2 b1
      have e1 : IntKind.u8.wrap ((s[i].toNat : Int) - 48) = ((s[i].toNat - 48 : Nat) : Int):=by
        rcases bt with e | e <;> rw [e] <;> rfl
      have hsm : s[i].toNat - 48 ≤ 1:=by rcases bt with e | e <;> rw [e] <;> decide
      have e2 : IntKind.u64.wrap ((s[i].toNat - 48 : Nat) : Int) = ((s[i].toNat - 48 : Nat) : Int):=u64w _ (by omega)
      have hp : (2 : Nat) ^ i ≤ 2 ^ 63:=Nat.pow_le_pow_right (by omega) (by omega)
      have hp2 : (2 : Nat) ^ 63 = 9223372036854775808:=rfl
      have hm : (s[i].toNat - 48) * 2 ^ i ≤ 1 * 2 ^ i:=Nat.mul_le_mul_right _ hsm
      have e3:=ishl_nat (a:=s[i].toNat - 48) (i:=i) (by omega) (by omega)
      have hr:=rowN_lt (s.take i) (bitsB_take i b1)
      rw [List.length_take,Nat.min_eq_left (by omega)] at hr
      have e4:=ior_nat (a:=rowN (s.take i)) (b:=(s[i].toNat - 48) * 2 ^ i) (by omega) (by omega)
      rw [rowN_take_succ hlt2 b1] at e4
      have hneg : ¬ ((i : Int) < 0):=by omega
      simp only [go_sem,hlt2,g2,e1,e2,e3,e4,w3,hneg]
      exact ⟨i + 1,rfl,by omega,by omega⟩
    · have ei : i = s.length := by omega
      subst ei
      have hmx : k + 1 ≤ maxSl:=by unfold maxSl; omega
      have hlen : (((t.take k).map rowN).map eU).length = k:=by simp; omega
      simp only [go_sem,Nat.lt_irrefl,List.take_length,w2,hmx,hlen]
      refine ⟨k + 1,?_,by omega,by omega⟩
      rw [List.take_succ_eq_append_getElem hlt,hs]
      simp
  · have ek : k = t.length := by omega
    subst ek
    simp only [go_sem,Nat.lt_irrefl,List.take_length]
    exact List.take_of_length_le (by simp)
theorem s_whole (n : Nat) (hn : n ≤ 64) : ACall X f_q017 [AI n] h K = K (.p (eU (2 ^ n - 1))) h []:=by
  refine rule ?_
  rw [c_q017 rfl]
  have hneg : ¬ ((n : Int) < 0):=by omega
  have hpos:=Nat.two_pow_pos n
  have e : IntKind.u64.wrap (ishl .u64 1 (n : Int) - 1) = ((2 ^ n - 1 : Nat) : Int):=by
    by_cases h64 : n = 64
    · subst h64; rfl
    · have hp : (2 : Nat) ^ n ≤ 2 ^ 63 := Nat.pow_le_pow_right (by omega) (by omega)
      have hp2 : (2 : Nat) ^ 63 = 9223372036854775808:=rfl
      have:=ishl_nat (a:=1) (i:=n) hn (by omega)
      rw [Nat.one_mul] at this
      rw [show ((1 : Nat) : Int) = 1 from rfl] at this
      rw [this,show ((2 ^ n : Nat) : Int) - 1 = ((2 ^ n - 1 : Nat) : Int) by omega]
      exact u64w _ (by omega)
  simp only [d_q017,go_sem,hneg,e]
end Go.Am
end
section
/- Faults on rows: what the program makes of them. -/
open Go
set_option linter.all false
namespace Go.Am
variable {h : Heap} {K : Post}
theorem set_app_get {h t : Heap} {id : Nat} (hid : id < h.length) (o : Obj) : (h.set id o ++ t)[id]? = some o:=by
  rw [List.getElem?_append_left (by simpa using hid)]; exact set_get' hid
theorem set_app_set {h t : Heap} {id : Nat} (hid : id < h.length) (o o' : Obj) : (h.set id o ++ t).set id o' = h.set id o' ++ t:=by
  rw [List.set_append_left _ _ (by simpa using hid),List.set_set]
theorem set_app_take {h t : Heap} {id : Nat} (o : Obj) : (h.set id o ++ t).take h.length = h.set id o:=by
  have : h.length = (h.set id o).length:=by simp
  rw [this,List.take_left]
theorem set_app_box {h : Heap} {id : Nat} (o b : Obj) : (h.set id o ++ [b])[h.length]? = some b:=by
  have : h.length = (h.set id o).length:=by simp
  rw [this,app_get0]; rfl
theorem fold_take {f : Nat → Int → Nat} {v : Nat} {l : List Int} {k : Nat} (hk : k < l.length) : (l.take (k + 1)).foldl f v = f ((l.take k).foldl f v) l[k]:=by
  rw [List.take_succ_eq_append_getElem hk,List.foldl_append]; rfl
theorem rowAt_get {r : List Nat} {n : Int} (h0 : 0 ≤ n) (h1 : n < r.length) : (r.map eU)[n.toNat]? = some (eU (rowAt r n)):=by
  rw [map_get eU (show n.toNat < r.length by omega)]
  unfold rowAt
  simp [List.getD_eq_getElem?_getD,List.getElem?_eq_getElem (show n.toNat < r.length by omega)]
def NetsIn (ns : List Int) (n : Nat) : Prop:=ns ≠ [] ∧ ns.length ≤ 1000 ∧ ∀ x ∈ ns,0 ≤ x ∧ x < n
theorem with_k5 (f : Flt) (r : List Nat) (v : Nat) (hf : NetsIn f.nets r.length) {id : Nat} (hid : id < h.length) (hr : r.length ≤ 1000000) {K : Ex → St → Prop}
    (hK : ∀ e,K .normal ⟨e,h.set id (.row none ((setNs v f.nets r).map eU) 0) ++ [.box [AI f.kind,AL f.nets]],[]⟩) :
    d_q018_k5 (ACall X) X.gl p_q018_k4 (.own id r.length 0 r.length) (.ref h.length 0) (.p (eU v)) (h.set id (.row none (r.map eU) 0) ++ [.box [AI f.kind,AL f.nets]]) [] K:=by
  have sg:=fun o=>set_app_get (t:=[.box [AI f.kind,AL f.nets]]) hid o
  have ss:=fun o o'=>set_app_set (t:=[.box [AI f.kind,AL f.nets]]) hid o o'
  have sb:=fun o=>set_app_box (h:=h) (id:=id) o (.box [AI f.kind,AL f.nets])
  simp only [d_q018_k5,go_sem,sb]
  refine N_loop (fun k : Nat=>⟨[(0,.own id r.length 0 r.length),(6,.p (eU v)),(61,AL f.nets),(62,AI f.nets.length),(63,AI k)],h.set id (.row none ((setNs v (f.nets.take k) r).map eU) 0) ++ [.box [AI f.kind,AL f.nets]],[]⟩) (fun k=>k ≤ f.nets.length) (fun k=>f.nets.length - k) 0 rfl (by omega) ?_
  intro k hk
  rcases Nat.lt_or_ge k f.nets.length with hlt | hge
  · have hg := map_get eI hlt
    have hn:=hf.2.2 _ (List.getElem_mem hlt)
    have w2 : IntKind.i64.wrap ((k : Int) + 1) = ((k + 1 : Nat) : Int):=i64_wrap _ (by have:=hf.2.1; omega) (by have:=hf.2.1; omega)
    have e4:=natOf_int (k:=.i64) hn.1
    have hl:=setNs_len v (f.nets.take k) r
    have hs : setNs v (f.nets.take (k + 1)) r = (setNs v (f.nets.take k) r).set f.nets[k].toNat v:=by rw [List.take_succ_eq_append_getElem hlt,setNs_snoc]
    have hlt3 : f.nets[k].toNat < r.length:=by omega
    have gq : ((setNs v (f.nets.take k) r).map eU)[f.nets[k].toNat]? = some (eU ((setNs v (f.nets.take k) r).getD f.nets[k].toNat 0)):=by
      rw [map_get eU (by rw [hl]; exact hlt3)]
      simp [List.getD_eq_getElem?_getD,List.getElem?_eq_getElem (show f.nets[k].toNat < (setNs v (f.nets.take k) r).length by rw [hl]; exact hlt3)]
    generalize setNs v (f.nets.take k) r = R at *
    generalize f.nets[k] = m at *
    simp only [go_sem,hlt,hg,e4,sg,ss,hl,hlt3,w2,gq]
    refine ⟨k + 1,?_,by omega,by omega⟩
    rw [hs,List.map_set]
  · have ek : k = f.nets.length := by omega
    subst ek
    simp only [go_sem,Nat.lt_irrefl,List.take_length]
    exact hK _
attribute [-go_sem] d_q018_k5
theorem with_val (f : Flt) (r : List Nat) (hf : NetsIn f.nets r.length) {id : Nat} (hid : id < h.length) (hr : r.length ≤ 1000000) (hb : ∀ x ∈ r,x < 18446744073709551616) (ones : Nat) :
    ACall X f_q018 [.own id r.length 0 r.length,.p f.pv,.p (eU ones)] (h.set id (.row none (r.map eU) 0)) K = K (.tup []) (h.set id (.row none ((fwithN r f ones).map eU) 0)) []:=by
  refine rule ?_
  rw [c_q018]
  have sg:=fun (t : Heap) o=>set_app_get (t:=t) hid o
  have sb:=fun o c=>set_app_box (h:=h) (id:=id) o c
  have st:=fun (t : Heap) o=>set_app_take (h:=h) (id:=id) (t:=t) o
  have h0 : 0 < f.nets.length:=by have:=hf.1; exact List.length_pos_iff.2 this
  have hhd : f.nets.headD 0 ∈ f.nets:=by
    cases hq : f.nets with
    | nil=>rw [hq] at h0; cases h0
    | cons a l=>simp
  have hn:=hf.2.2 _ hhd
  have g0:=head_get h0
  have e4:=natOf_int (k:=.i64) hn.1
  have hlt3 : (f.nets.headD 0).toNat < r.length:=by omega
  have gq:=rowAt_get (r:=r) hn.1 hn.2
  have W:=fun v K hK=>with_k5 (h:=h) f r v hf hid hr (K:=K) hK
  have fin : ∀ v,(d_q018_k5 (ACall X) X.gl p_q018_k4 (.own id r.length 0 r.length) (.ref h.length 0) (.p (eU v)) (h.set id (.row none (r.map eU) 0) ++ [.box [AI f.kind,AL f.nets]]) [] (finR [] false h.length fun v1 h1 x1=>v1 = AV.tup [] ∧ h1 = h.set id (.row none ((fwithN r f ones).map eU) 0) ∧ x1 = [])) ∨ v ≠ fvalN r f ones:=by
    intro v
    by_cases hv : v = fvalN r f ones
    · left
      refine W v _ (fun e=>?_)
      subst hv
      simp only [go_sem,st]
      rfl
    · right; exact hv
  have fin2 : ∀ v,v = fvalN r f ones → d_q018_k5 (ACall X) X.gl p_q018_k4 (.own id r.length 0 r.length) (.ref h.length 0) (.p (eU v)) (h.set id (.row none (r.map eU) 0) ++ [.box [AI f.kind,AL f.nets]]) [] (finR [] false h.length fun v1 h1 x1=>v1 = AV.tup [] ∧ h1 = h.set id (.row none ((fwithN r f ones).map eU) 0) ∧ x1 = []):=fun v hv=>(fin v).resolve_right (fun h=>h hv)
  clear fin W
  have hbq : ∀ n,rowAt r n < 18446744073709551616:=rowAt_lt hb (by omega)
  by_cases k1 : f.kind = 1
  · simp only [d_q018, Flt.pv, go_sem, sg, sb, g0, e4, hlt3, gq, k1, List.length_set]
    simp only [k1] at fin2
    exact fin2 0 (by simp [fvalN,k1])
  by_cases k2 : f.kind = 2
  · simp only [d_q018, Flt.pv, go_sem, sg, sb, g0, e4, hlt3, gq, k2, List.length_set]
    simp only [k2] at fin2
    exact fin2 ones (by simp [fvalN,k2])
  by_cases k6 : f.kind = 6
  · simp only [d_q018, Flt.pv, go_sem, sg, sb, g0, e4, hlt3, gq, k6, List.length_set]
    simp only [k6] at fin2
    exact fin2 ones (by simp [fvalN,k6])
  by_cases k3 : f.kind = 3
  · simp only [d_q018, Flt.pv, go_sem, sg, sb, g0, e4, hlt3, gq, k3, List.length_set]
    refine N_loop (fun k : Nat=>⟨[(0,.own id r.length 0 r.length),(4,.ref h.length 0),(6,.p (eU ((f.nets.take k).foldl (fun v n=>v &&& rowAt r n) (rowAt r (f.nets.headD 0))))),(31,AL f.nets),(32,AI f.nets.length),(33,AI k)],h.set id (.row none (r.map eU) 0) ++ [.box [AI 3,AL f.nets]],[]⟩) (fun k=>k ≤ f.nets.length) (fun k=>f.nets.length - k) 0 rfl (by omega) ?_
    intro k hk
    rcases Nat.lt_or_ge k f.nets.length with hlt | hge
    · have hg := map_get eI hlt
      have hnk:=hf.2.2 _ (List.getElem_mem hlt)
      have w2 : IntKind.i64.wrap ((k : Int) + 1) = ((k + 1 : Nat) : Int):=i64_wrap _ (by have:=hf.2.1; omega) (by have:=hf.2.1; omega)
      have e5:=natOf_int (k:=.i64) hnk.1
      have gk:=rowAt_get (r:=r) hnk.1 hnk.2
      have hlt4 : (f.nets[k]).toNat < r.length:=by omega
      have hfo:=fold_take (f:=fun v n=>v &&& rowAt r n) (v:=rowAt r (f.nets.headD 0)) hlt
      have hbd : (f.nets.take k).foldl (fun v n=>v &&& rowAt r n) (rowAt r (f.nets.headD 0)) < 18446744073709551616:=foldl_bdN (f:=(· &&& ·)) (fun a b ha hb=>by rw [← pow64] at *; exact Nat.lt_of_le_of_lt Nat.and_le_left ha) (rowAt r) hbq _ _ (hbq _)
      generalize (f.nets.take k).foldl (fun v n=>v &&& rowAt r n) (rowAt r (f.nets.headD 0)) = v at *
      have e6:=iand_nat hbd (hbq f.nets[k])
      generalize f.nets[k] = m at *
      simp only [go_sem,hlt,hg,sg,e5,gk,hlt4,e6,w2]
      exact ⟨k + 1,by rw [hfo],by omega,by omega⟩
    · have ek : k = f.nets.length := by omega
      subst ek
      simp only [go_sem,Nat.lt_irrefl,List.take_length]
      simp only [k3] at fin2
      exact fin2 _ (by simp [fvalN,k3])
  by_cases k4 : f.kind = 4
  · simp only [d_q018, Flt.pv, go_sem, sg, sb, g0, e4, hlt3, gq, k4, List.length_set]
    refine N_loop (fun k : Nat=>⟨[(0,.own id r.length 0 r.length),(4,.ref h.length 0),(6,.p (eU ((f.nets.take k).foldl (fun v n=>v ||| rowAt r n) (rowAt r (f.nets.headD 0))))),(47,AL f.nets),(48,AI f.nets.length),(49,AI k)],h.set id (.row none (r.map eU) 0) ++ [.box [AI 4,AL f.nets]],[]⟩) (fun k=>k ≤ f.nets.length) (fun k=>f.nets.length - k) 0 rfl (by omega) ?_
    intro k hk
    rcases Nat.lt_or_ge k f.nets.length with hlt | hge
    · have hg := map_get eI hlt
      have hnk:=hf.2.2 _ (List.getElem_mem hlt)
      have w2 : IntKind.i64.wrap ((k : Int) + 1) = ((k + 1 : Nat) : Int):=i64_wrap _ (by have:=hf.2.1; omega) (by have:=hf.2.1; omega)
      have e5:=natOf_int (k:=.i64) hnk.1
      have gk:=rowAt_get (r:=r) hnk.1 hnk.2
      have hlt4 : (f.nets[k]).toNat < r.length:=by omega
      have hfo:=fold_take (f:=fun v n=>v ||| rowAt r n) (v:=rowAt r (f.nets.headD 0)) hlt
      have hbd : (f.nets.take k).foldl (fun v n=>v ||| rowAt r n) (rowAt r (f.nets.headD 0)) < 18446744073709551616:=foldl_bdN (f:=(· ||| ·)) (fun a b ha hb=>by rw [← pow64] at *; exact Nat.or_lt_two_pow ha hb) (rowAt r) hbq _ _ (hbq _)
      generalize (f.nets.take k).foldl (fun v n=>v ||| rowAt r n) (rowAt r (f.nets.headD 0)) = v at *
      have e6:=ior_nat hbd (hbq f.nets[k])
      generalize f.nets[k] = m at *
      simp only [go_sem,hlt,hg,sg,e5,gk,hlt4,e6,w2]
      exact ⟨k + 1,by rw [hfo],by omega,by omega⟩
    · have ek : k = f.nets.length := by omega
      subst ek
      simp only [go_sem,Nat.lt_irrefl,List.take_length]
      simp only [k4] at fin2
      exact fin2 _ (by simp [fvalN,k4])
  · simp only [d_q018, Flt.pv, go_sem, sg, sb, g0, e4, hlt3, gq, k1, k2, k3, k4, k6, List.length_set]
    exact fin2 _ (by simp [fvalN,k1,k2,k3,k4,k6])
end Go.Am
end
section
/- Rows that are handed to a function: it sees their values. -/
open Go
namespace Go.Am
theorem arg_pur {X : Ctx} {f : Nat} {F : AFun} {a : List AV} {vs : List PV} {h h1 : Heap} {P : Post} (hf : X.fn f = some F) (hr : F.byref = false) (hp : puras h a = some (vs.map .p,h1)) (hq : puras h1 (vs.map .p) = some (vs.map .p,h1)) (hl : vs.length = F.nparams) (hlen : h1.length = h.length) : ACall X f a h P = ACall X f (vs.map .p) h1 P:=by
  cases hd : F.isDet with
  | false=>rw [call_val hf hr hp (by simpa using hl) hd,call_val hf hr hq (by simpa using hl) hd,hlen]
  | true=>rw [call_val_det hf hr hp (by simpa using hl) hd,call_val_det hf hr hq (by simpa using hl) hd,hlen]
theorem frz_len {h : Heap} {id k : Nat} : (frz h id k).length = h.length:=by
  unfold frz
  split <;> simp
end Go.Am
end
section
/- Responses,asv the program computes them. -/
open Go
set_option linter.all false
namespace Go.Am
variable {h : Heap} {K : Post}
theorem s_with (f : Flt) (r : List Nat) (hf : NetsIn f.nets r.length) {id : Nat} (hh : h[id]? = some (.row none (r.map eU) 0)) (hr : r.length ≤ 1000000) (hb : ∀ x ∈ r,x < 18446744073709551616) (ones : Nat) :
    ACall X f_q018 [.own id r.length 0 r.length,.p f.pv,.p (eU ones)] h K = K (.tup []) (h.set id (.row none ((fwithN r f ones).map eU) 0)) []:=by
  have:=with_val (h:=h) (K:=K) f r hf (get_lt hh) hr hb ones
  rw [set_self hh] at this
  exact this
theorem toB_map : ∀ s : List UInt8,toBytes (bytesP s) = some s
  | []=>rfl
  | c :: r=>by
    show toBytes (.int .u8 c.toNat :: bytesP r) = _
    unfold toBytes
    have : ((c.toNat : Int)) < 256:=by have:=c.toNat_lt; omega
    rw [if_pos ⟨by omega,this⟩,toB_map r]
    simp
theorem bit48 (b : Bool) : ((bitC b).toNat : Int) = 48 + ((if b = true then 1 else 0 : Nat) : Int):=by cases b <;> rfl
theorem textN_take_succ (k long n : Nat) : textN (k + 1) n = textN k n ++ [bitC (n.testBit k)]:=by
  unfold textN; rw [List.range_succ,List.map_append]; rfl
theorem s_texts (r : List Nat) (long : Nat) (hl : long ≤ 64) (hn : r.length ≤ 1000000) (hb : ∀ x ∈ r,x < 18446744073709551616) :
    ACall X f_q016 [.p (.sl none (r.map eU)),AI long] h K = K (AStr (r.map (textN long))) h []:=by
  refine rule ?_
  rw [c_q016 rfl]
  simp only [d_q016,go_sem]
  refine N_loop (fun k : Nat=>⟨[(1,AI long),(5,.own h.length k 0 k),(10,.p (.sl none (r.map eU))),(11,AI r.length),(12,AI k)],h ++ [.row none (((r.take k).map (textN long)).map PV.str) 0],[]⟩) (fun k=>k ≤ r.length) (fun k=>r.length - k) 0 rfl (by omega) ?_
  intro k hk
  rcases Nat.lt_or_ge k r.length with hlt | hge
  · have hg := map_get eU hlt
    have hx:=hb _ (List.getElem_mem hlt)
    have w2 : IntKind.i64.wrap ((k : Int) + 1) = ((k + 1 : Nat) : Int):=i64_wrap _ (by omega) (by omega)
    have hsn : (r.take (k + 1)).map (textN long) = (r.take k).map (textN long) ++ [textN long r[k]]:=by rw [List.take_succ_eq_append_getElem hlt,List.map_append]; rfl
    have hlen : (((r.take k).map (textN long)).map PV.str).length = k:=by simp; omega
    generalize ((r.take k).map (textN long)) = T at *
    generalize r[k] = n at *
    have hmx : long ≤ maxSl:=by unfold maxSl; omega
    have hmk : k + 1 ≤ maxSl:=by unfold maxSl; omega
    have hsz : PV.shp none (.int .u8 0) = true:=rfl
    simp only [go_sem,hlt,hg,hmx,hsz]
    refine N_loop (fun i : Nat=>⟨[(1,AI long),(5,.own h.length k 0 k),(7,.p (eU n)),(8,.own (h.length + 1) long 0 long),(10,.p (.sl none (r.map eU))),(11,AI r.length),(12,AI k),(19,AI long),(20,AI i)],h ++ [.row none (T.map PV.str) 0,.row none (bytesP (textN i n) ++ List.replicate (long - i) (.int .u8 0)) 0],[]⟩) (fun i=>i ≤ long) (fun i=>long - i) 0 rfl (by omega) ?_
    intro i hi
    rcases Nat.lt_or_ge i long with hlt2 | hge2
    · have w3 : IntKind.i64.wrap ((i : Int) + 1) = ((i + 1 : Nat) : Int) := i64_wrap _ (by omega) (by omega)
      have e1:=ishr_nat (a:=n) (i:=i) (by omega)
      have hd : n / 2 ^ i < 18446744073709551616:=Nat.lt_of_le_of_lt (Nat.div_le_self _ _) hx
      have e2:=iand_nat (a:=n / 2 ^ i) (b:=1) hd (by omega)
      rw [and_one] at e2
      have e3 : IntKind.u64.wrap (48 + ((if n.testBit i = true then 1 else 0 : Nat) : Int)) = ((bitC (n.testBit i)).toNat : Int):=by
        rw [← bit48]; cases n.testBit i <;> rfl
      have e4 : IntKind.u8.wrap ((bitC (n.testBit i)).toNat : Int) = ((bitC (n.testBit i)).toNat : Int):=by cases n.testBit i <;> rfl
      have hneg : ¬ ((i : Int) < 0):=by omega
      have hbl : (bytesP (textN i n)).length = i:=by simp [bytesP,textN]
      have hlr : (bytesP (textN i n) ++ List.replicate (long - i) (PV.int .u8 0)).length = long:=by rw [List.length_append,hbl,List.length_replicate]; omega
      have hgr : (bytesP (textN i n) ++ List.replicate (long - i) (PV.int .u8 0))[i]? = some (.int .u8 0):=by
        rw [List.getElem?_append_right (by omega),hbl,Nat.sub_self,List.getElem?_replicate]
        simp; omega
      have hst : (bytesP (textN i n) ++ List.replicate (long - i) (PV.int .u8 0)).set i (.int .u8 (bitC (n.testBit i)).toNat) = bytesP (textN (i + 1) n) ++ List.replicate (long - (i + 1)) (PV.int .u8 0):=by
        rw [List.set_append_right _ _ (by omega),hbl,Nat.sub_self]
        obtain ⟨m,hm⟩ : ∃ m,long - i = m + 1:=⟨long - i - 1,by omega⟩
        rw [hm,List.replicate_succ,List.set_cons_zero,show long - (i + 1) = m by omega,textN_take_succ i long n]
        simp [bytesP]
      rw [show ((1 : Nat) : Int) = 1 from rfl] at e2
      simp only [go_sem,hlt2,e1,hneg,e2,e3,e4,hlr,hgr,w3,hst]
      exact ⟨i + 1,rfl,by omega,by omega⟩
    · have ei : i = long := by omega
      subst ei
      have hbl : (bytesP (textN i n)).length = i:=by simp [bytesP,textN]
      have hwf : win (bytesP (textN i n)) 0 i = bytesP (textN i n):=win_full (by omega)
      have tb:=toB_map (textN i n)
      simp only [go_sem,Nat.lt_irrefl,Nat.sub_self,List.replicate_zero,List.append_nil,rd,hbl,hwf,tb,aconv,rds,hmk,hlen,w2]
      refine ⟨k + 1,?_,by omega,by omega⟩
      rw [hsn]
      simp
  · have ek : k = r.length := by omega
    subst ek
    simp only [go_sem,Nat.lt_irrefl,List.take_length]
    rw [win_full (by simp)]
theorem s_textsOwn (r : List Nat) (long : Nat) (hl : long ≤ 64) (hn : r.length ≤ 1000000) (hb : ∀ x ∈ r,x < 18446744073709551616) {id : Nat} (hh : h[id]? = some (.row none (r.map eU) 0)) :
    ACall X f_q016 [.own id r.length 0 r.length,AI long] h K = K (AStr (r.map (textN long))) (frz h id r.length) []:=by
  have e:=arg_pur (X:=X) (f:=f_q016) (F:=a_q016) (a:=[.own id r.length 0 r.length,AI long]) (vs:=[.sl none (r.map eU),.int .i64 long]) (h:=h) (h1:=frz h id r.length) (P:=K) x_q016 rfl
    (by
      have : win (r.map eU) 0 r.length = r.map eU:=win_full (by simp)
      simp [puras,pur,rd,hh,this]) rfl rfl frz_len
  rw [e]
  exact s_texts r long hl hn hb
theorem fltF_ok {n : Int} {f : Flt} (h : fltF n f = 0) : f.nets ≠ [] ∧ f.nets.length ≤ 6 ∧ (∀ x ∈ f.nets,0 ≤ x ∧ x < n) ∧ 1 ≤ f.kind ∧ f.kind ≤ 6 ∧ shortK f.kind = decide (1 < f.nets.length):=by
  unfold fltF at h
  split at h
  · cases h
  split at h
  · cases h
  split at h
  · cases h
  split at h
  · cases h
  split at h
  · cases h
  split at h
  · cases h
  rename_i h1 h2 h3 h4 h5 h6
  refine ⟨fun e=>h3 (by rw [e]; rfl),by omega,fun x hx=>?_,by omega,by omega,Decidable.not_not.1 h6⟩
  have : outN n x = false:=by
    cases hq : outN n x with
    | false=>rfl
    | true=>exact absurd (List.any_eq_true.2 ⟨x,hx,hq⟩) h5
  unfold outN at this
  rw [Bool.or_eq_false_iff,decide_eq_false_iff_not,decide_eq_false_iff_not] at this
  omega
theorem fltF_in {n : Nat} {f : Flt} (h : fltF n f = 0) : NetsIn f.nets n:=by
  obtain ⟨h1,h2,h3,_⟩:=fltF_ok h
  exact ⟨h1,by omega,h3⟩
theorem fltsF_ok {n : Int} : ∀ {l : List Flt},fltsF n l = 0 → ∀ f ∈ l,fltF n f = 0
  | [],_,f,hf=>by cases hf
  | g :: r,h,f,hf=>by
    unfold fltsF at h
    split at h
    · rename_i h1; exact absurd h h1
    · rename_i h1
      rcases List.mem_cons.1 hf with rfl | hf
      · exact Decidable.not_not.1 h1
      · exact fltsF_ok h f hf
def foldN (lg : Nat) (r : List Nat) (l : List Flt) : List Nat:=l.foldl (fun r f=>fwithN r f (2 ^ lg - 1)) r
theorem foldN_len (lg : Nat) : ∀ (l : List Flt) (r : List Nat),(foldN lg r l).length = r.length
  | [],r=>rfl
  | f :: l,r=>by
    unfold foldN
    rw [List.foldl_cons]
    exact (foldN_len lg l _).trans (fwithN_len _ _ _)
theorem ones_lt (lg : Nat) : 2 ^ lg - 1 < 2 ^ lg:=by have:=Nat.two_pow_pos lg; omega
theorem foldN_lt {lg : Nat} : ∀ (l : List Flt) (r : List Nat),(∀ x ∈ r,x < 2 ^ lg) → ∀ x ∈ foldN lg r l,x < 2 ^ lg
  | [],r,h=>h
  | f :: l,r,h=>by
    unfold foldN
    rw [List.foldl_cons]
    exact foldN_lt l _ (fwithN_lt h (ones_lt lg))
theorem foldN_take {lg : Nat} {r : List Nat} {l : List Flt} {k : Nat} (hk : k < l.length) : foldN lg r (l.take (k + 1)) = fwithN (foldN lg r (l.take k)) l[k] (2 ^ lg - 1):=by
  unfold foldN
  rw [List.take_succ_eq_append_getElem hk,List.foldl_append]; rfl
def combT (t : List (List UInt8)) (l : List Flt) : List (List UInt8):=(foldN (t.headD []).length (t.map rowN) l).map (textN (t.headD []).length)
def combV (t : List (List UInt8)) (l : List Flt) : AV:=if allF t l ≠ 0 then .tup [.p (.sl none []),AI (allF t l)] else .tup [AStr (combT t l),AI 0]
theorem le64 {lg : Nat} (h : lg ≤ 64) : 2 ^ lg ≤ 18446744073709551616:=by rw [← pow64]; exact Nat.pow_le_pow_right (by omega) h
theorem rows_lt {t : List (List UInt8)} {lg : Nat} (T : TestOk t lg) : ∀ x ∈ t.map rowN,x < 2 ^ lg:=by
  intro x hx
  obtain ⟨s,hs,rfl⟩:=List.mem_map.1 hx
  have:=rowN_lt s (T.b s hs)
  rwa [T.e s hs] at this
theorem s_Combined (t : List (List UInt8)) (l : List Flt) (hb : ∀ s ∈ t,s.length ≤ 1000000) (ht : t.length ≤ 1000000) (hf : ∀ f ∈ l,f.nets.length ≤ 1000000) (hn : l.length ≤ 1000000) :
    ACall X f_q00x [AStr t,AFlt l] h K = K (combV t l) h []:=by
  refine rule ?_
  rw [c_q00x rfl]
  have c:=fun h K=>s_faultsFault (h:=h) (K:=K) t l hb ht hf hn
  unfold combV
  by_cases h1 : allF t l = 0
  case neg=>simp only [d_q00x,go_sem,c,h1]
  have hT : testF t = 0:=by unfold allF at h1; split at h1 <;> simp_all
  have hF : fltsF t.length l = 0:=by unfold allF at h1; rw [if_neg (by simp [hT])] at h1; exact h1
  have T:=testF_ok hT
  have F:=fltsF_ok hF
  unfold combT
  generalize hlg : (t.headD []).length = lg at *
  have R:=fun h K=>s_rows (h:=h) (K:=K) t T.b (fun s hs=>by rw [T.e s hs]; exact T.l) (by have:=T.n1; omega)
  have r0:=rows_lt T
  have hz : (t.map PV.str)[0]? = some (.str (t.headD [])):=by
    cases t with
    | nil=>exact absurd T.n0 (by simp)
    | cons a r=>rfl
  have wh:=fun h K=>s_whole (h:=h) (K:=K) lg T.l
  have l64:=le64 T.l
  simp only [d_q00x,go_sem,c,h1,R]
  have hfl : ∀ k,((foldN lg (t.map rowN) (l.take k)).length = t.length):=fun k=>by rw [foldN_len,List.length_map]
  refine N_loop (fun k : Nat=>⟨[(0,AStr t),(7,.own h.length t.length 0 t.length),(18,AFlt l),(19,AI l.length),(20,AI k)],h ++ [.row none ((foldN lg (t.map rowN) (l.take k)).map eU) 0],[]⟩) (fun k=>k ≤ l.length) (fun k=>l.length - k) 0 rfl (by omega) ?_
  intro k hk
  rcases Nat.lt_or_ge k l.length with hlt | hge
  · have hg := map_get Flt.pv hlt
    have w2 : IntKind.i64.wrap ((k : Int) + 1) = ((k + 1 : Nat) : Int):=i64_wrap _ (by omega) (by omega)
    have cx:=flt_cut (f:=l[k])
    have rl:=hfl k
    have rb:=foldN_lt (l.take k) _ r0
    have hs:=foldN_take (lg:=lg) (r:=t.map rowN) hlt
    have hni:=fltF_in (F _ (List.getElem_mem hlt))
    generalize foldN lg (t.map rowN) (l.take k) = r at *
    have W:=fun (g : Heap) (K : Post)=>s_with (h:=h ++ .row none (r.map eU) 0 :: g) (K:=K) l[k] r (by rw [rl]; exact hni) (id:=h.length) (by rw [app_get0]; rfl) (by have:=T.n1; omega) (fun x hx=>Nat.lt_of_lt_of_le (rb x hx) l64) (2 ^ lg - 1)
    rw [rl] at W
    generalize l[k] = f at *
    simp only [Flt.pv] at hg cx W
    simp only [go_sem,hlt,hg,cx,hz,hlg,wh,w2,W]
    exact ⟨k + 1,by rw [hs],by omega,by omega⟩
  · have ek : k = l.length := by omega
    subst ek
    simp only [go_sem,Nat.lt_irrefl,List.take_length]
    have rl:=hfl l.length
    have rb:=foldN_lt l _ r0
    rw [List.take_length] at rl
    generalize foldN lg (t.map rowN) l = r at *
    have q:=fun K=>s_textsOwn (h:=h ++ [.row none (r.map eU) 0]) (K:=K) r lg T.l (by have:=T.n1; omega) (fun x hx=>Nat.lt_of_lt_of_le (rb x hx) l64) (id:=h.length) (by rw [app_get0]; rfl)
    rw [rl] at q
    simp only [go_sem,hz,hlg,q]
theorem s_Response (t : List (List UInt8)) (f : Flt) (hb : ∀ s ∈ t,s.length ≤ 1000000) (ht : t.length ≤ 1000000) (hf : f.nets.length ≤ 1000000) :
    ACall X f_q010 [AStr t,.p f.pv] h K = K (combV t [f]) h []:=by
  refine rule ?_
  rw [c_q010 rfl]
  have e:=fun h K=>s_Combined (h:=h) (K:=K) t [f] hb ht (fun g hg=>by rw [List.mem_singleton.1 hg]; exact hf) (by simp)
  simp only [AFlt,List.map_cons,List.map_nil,Flt.pv] at e
  have ev : ∃ a b,combV t [f] = .tup [.p a,.p b]:=by unfold combV; split <;> exact ⟨_,_,rfl⟩
  obtain ⟨a,b,ev⟩:=ev
  rw [ev] at e ⊢
  simp only [d_q010,Flt.pv,go_sem,e]
end Go.Am
end
section
/- Sorting the middle of a row: printed by program. -/
open Go
set_option linter.unusedSimpArgs false
namespace Go.Am
attribute [-go_sem] PV.cells splice
variable {h : Heap} {K : Post}
end Go.Am
end
section
/- What is drawn: orders,tests. -/
open Go
set_option linter.all false
namespace Go.Am
variable {L : List Int} {a : Int} {h l : Heap} {id : Nat} {K : Post}
def GenK (f : Nat) (args : List AV) (L : List Int) (a : Int) (sh : Sh) (Q : List PV → Int → Prop) : Prop:=∀ (h : Heap) (id : Nat),h[id]? = some (strm L a) → ∃ xs a2,Q xs a2 ∧ ∀ K : Post,ACall X f (.ref id 0 :: args) h K = K (.own h.length xs.length 0 xs.length) (h.set id (strm L a2) ++ [.row sh xs 0]) []
theorem GenK.of {f : Nat} {args : List AV} {L : List Int} {a : Int} {sh : Sh} {Q : List PV → Int → Prop} (H : ∀ (h : Heap) (id : Nat),id < h.length → ACall X f (.ref id 0 :: args) (h.set id (strm L a)) fun v1 h1 x1=>∃ xs a2,Q xs a2 ∧ v1 = .own h.length xs.length 0 xs.length ∧ h1 = h.set id (strm L a2) ++ [.row sh xs 0] ∧ x1 = []) : GenK f args L a sh Q:=by
  intro h id hh
  have hid:=get_lt hh
  have k:=H h id hid
  rw [set_self hh] at k
  obtain ⟨v,h',x,⟨xs,a2,q,e0,e1,e2⟩,r⟩:=ACall.one X_noNext k
  subst e0; subst e1; subst e2
  exact ⟨xs,a2,q,r⟩
theorem swap_perm (l : List Int) (i k : Nat) (hi : i < l.length) (hk : k < l.length) : ((l.set i l[k]).set k l[i]).Perm l:=by
  have h:=Array.swap_perm (xs:=l.toArray) (i:=i) (j:=k) (by simpa using hi) (by simpa using hk)
  rw [Array.perm_iff_toList_perm] at h
  simpa [Array.swap_def] using h
def upI (n : Nat) : List Int:=(List.range n).map fun (k : Nat)=>(k : Int)
theorem upI_succ (n : Nat) : upI (n + 1) = upI n ++ [(n : Int)]:=by unfold upI; rw [List.range_succ,List.map_append]; rfl
theorem upI_len (n : Nat) : (upI n).length = n:=by simp [upI]
theorem upI_mem {n : Nat} {x : Int} : x ∈ upI n ↔ 0 ≤ x ∧ x < n:=by
  unfold upI
  simp only [List.mem_map,List.mem_range]
  constructor
  · rintro ⟨k,hk,rfl⟩; omega
  · intro ⟨h1,h2⟩; exact ⟨x.toNat,by omega,by omega⟩
theorem upI_nodup (n : Nat) : (upI n).Nodup:=by
  unfold upI
  rw [List.nodup_iff_pairwise_ne,List.pairwise_map]
  have:=List.nodup_iff_pairwise_ne.1 (List.nodup_range (n:=n))
  exact this.imp fun hab e=>hab (by omega)
theorem g_Order (n : Nat) (hn : n ≤ 1000) (hp : posN 2000 a) : GenK f_q027 [AI n] L a none (fun xs a2=>a ≤ a2 ∧ a2 ≤ a + n ∧ ∃ l : List Int,l.Perm (upI n) ∧ xs = l.map eI):=by
  refine GenK.of fun h id hid=>?_
  rw [c_q027 rfl]
  have hid' : id ≤ h.length:=by omega
  simp only [d_q027,go_sem,hid]
  refine N_loop (fun k : Nat=>⟨[(0,.ref id 0),(1,AI n),(5,.own h.length k 0 k),(9,AI n),(10,AI k)],h.set id (strm L a) ++ [.row none ((upI k).map eI) 0],[]⟩) (fun k=>k ≤ n) (fun k=>n - k) 0 rfl (by omega) ?_
  intro k hk
  have hkl : ((upI k).map eI).length = k:=by rw [List.length_map,upI_len]
  rcases Nat.lt_or_ge k n with hlt | hge
  · have w2 : IntKind.i64.wrap ((k : Int) + 1) = ((k + 1 : Nat) : Int) := i64_wrap _ (by omega) (by omega)
    have hmx : k + 1 ≤ maxSl:=by unfold maxSl; omega
    simp only [go_sem,hid,hid',hlt,hkl,hmx,w2]
    refine ⟨k + 1,?_,by omega,by omega⟩
    rw [upI_succ,List.map_append]; rfl
  · have ek : k = n := by omega
    subst ek
    have w3 : IntKind.i64.wrap ((k : Int) - 1) = (k : Int) - 1:=i64_wrap _ (by omega) (by omega)
    simp only [go_sem,hid,hid',Nat.lt_irrefl,w3]
    refine N_loop (fun t : List Int × Int × Int=>⟨[(0,.ref id 0),(5,.own h.length k 0 k),(7,AI t.2.1)],h.set id (strm L t.2.2) ++ [.row none (t.1.map eI) 0],[]⟩)
      (fun t=>t.1.Perm (upI k) ∧ -1 ≤ t.2.1 ∧ t.2.1 < k ∧ a ≤ t.2.2 ∧ t.2.2 + t.2.1 + 1 ≤ a + k) (fun t=>t.2.1.toNat) (upI k,(k : Int) - 1,a) rfl ⟨List.Perm.refl _,by simp; omega,by simp; omega,by simp,by simp; omega⟩ ?_
    rintro ⟨l,i,b⟩ ⟨q1,q2,q3,q4,q5⟩
    dsimp only at q1 q2 q3 q4 q5 ⊢
    have hll : l.length = k:=by rw [q1.length_eq,upI_len]
    have hlm : (l.map eI).length = k:=by rw [List.length_map,hll]
    by_cases hi : 0 < i
    · have pb := posN_le (n := 0) hp q4 (by omega)
      obtain ⟨n1,n2⟩:=nextV_bd L b (i + 1) (by omega) (by omega)
      have w4 : IntKind.i64.wrap (i + 1) = i + 1:=i64_wrap _ (by omega) (by omega)
      have w5 : IntKind.i64.wrap (i - 1) = i - 1:=i64_wrap _ (by omega) (by omega)
      have e1:=natOf_int (k:=.i64) n1
      have e2:=natOf_int (k:=.i64) (show 0 ≤ i by omega)
      obtain ⟨c,hc⟩ : ∃ c,nextV L b (i + 1) = c:=⟨_,rfl⟩
      rw [hc] at n1 n2 e1
      have b1 : c.toNat < k:=by omega
      have b2 : i.toNat < k:=by omega
      have g1:=map_get eI (l:=l) (k:=c.toNat) (by omega)
      have g2:=map_get eI (l:=l) (k:=i.toNat) (by omega)
      have hsw:=swap_perm l i.toNat c.toNat (by omega) (by omega)
      have g3 : ((l.set i.toNat l[c.toNat]).map eI)[c.toNat]? = some (eI ((l.set i.toNat l[c.toNat])[c.toNat]'(by simp; omega))):=map_get eI (by simp; omega)
      have m1 : (l.map eI).set i.toNat (eI l[c.toNat]) = (l.set i.toNat l[c.toNat]).map eI:=by rw [List.map_set]
      have m2 : ((l.set i.toNat l[c.toNat]).map eI).set c.toNat (eI l[i.toNat]) = ((l.set i.toNat l[c.toNat]).set c.toNat l[i.toNat]).map eI:=List.map_set.symm
      have hl2 : ((l.set i.toNat l[c.toNat]).map eI).length = k:=by simp [hll]
      simp only [go_sem,hid,hid',hi,w4,pb,hc,e1,e2,hlm,b1,b2,g1,g2,m1,g3,m2,hl2,w5]
      exact ⟨((l.set i.toNat l[c.toNat]).set c.toNat l[i.toNat],i - 1,b + 1),rfl,⟨hsw.trans q1,by dsimp only; omega,by dsimp only; omega,by dsimp only; omega,by dsimp only; omega⟩,by dsimp only; omega⟩
    · simp only [go_sem, hi]
      refine ⟨l.map eI,b,⟨q4,by omega,l,q1,rfl⟩,by rw [hlm],?_⟩
      exact List.take_of_length_le (by simp)
def SmallT (t : List (List UInt8)) : Prop:=t.length ≤ 5 ∧ ∀ s ∈ t,s.length ≤ 1000
theorem s_Repeat (s : List UInt8) (c : Int) (h0 : 0 ≤ c) (hc : s.length * c.toNat ≤ 1000000) (h1 : c ≤ 1000000) : ACall X f_q04f [AS s,AI c] h K = K (AS (repL s c.toNat)) h []:=by
  refine lib_call (X:=X) (by kernel_rfl) ?_
  rw [X_ex2]
  exact libF_pure (vs:=[.str s,.int .i64 c]) (by kernel_rfl) (s:=repeatS) (by kernel_rfl) rfl (by simp only [repeatS]; rw [if_pos ⟨h0,hc,h1⟩])
theorem repL_len (s : List UInt8) : ∀ c,(repL s c).length = c * s.length
  | 0=>by simp [repL]
  | c + 1=>by rw [repL,List.length_append,repL_len s c,Nat.add_mul,Nat.one_mul,Nat.add_comm]
theorem g_ATest (hp : posN 200 a) : GenE f_q022 [] L a (fun v a2=>a ≤ a2 ∧ a2 ≤ a + 60 ∧ ∃ t : List (List UInt8),SmallT t ∧ v = AStr t):=by
  refine GenE.of fun h id hid=>?_
  rw [c_q022 rfl]
  have hid' : id ≤ h.length:=by omega
  have p0:=posN_le (n:=0) hp (Int.le_refl a) (by omega)
  have p1:=posN_le (n:=0) hp (show a ≤ a + 1 by omega) (by omega)
  have pl:=pickV_mem (l:=[0,1,2,3,4,5]) (L:=L) (a:=a) (by simp) (by simp)
  obtain ⟨lg,hlg⟩ : ∃ n,pickV [0,1,2,3,4,5] L a = n:=⟨_,rfl⟩
  rw [hlg] at pl
  have hlg0 : 0 ≤ lg ∧ lg ≤ 5:=by simp only [List.mem_cons,List.not_mem_nil,or_false] at pl; omega
  obtain ⟨long,rfl⟩:=Int.eq_ofNat_of_zero_le hlg0.1
  obtain ⟨n1,n2⟩:=rangeV_bd (u:=1) (v:=5) L (a + 1) (by omega) (by omega)
  obtain ⟨n,hn⟩:=Int.eq_ofNat_of_zero_le (show 0 ≤ rangeV 1 5 L (a + 1) by omega)
  rw [hn] at n1 n2
  simp only [d_q022,go_sem,hid,p0,p1,hlg,hn]
  refine N_loop (fun t : List (List UInt8) × Int=>⟨[(0,.ref id 0),(3,.own h.length t.1.length 0 t.1.length),(4,AI long),(11,AI n),(12,AI t.1.length)],h.set id (strm L t.2) ++ [.row none (t.1.map PV.str) 0],[]⟩)
    (fun t=>t.1.length ≤ n ∧ (∀ s ∈ t.1,s.length ≤ 5) ∧ a ≤ t.2 ∧ t.2 ≤ a + 2 + 5 * t.1.length) (fun t=>n - t.1.length) ([],a + 1 + 1) rfl ⟨by simp,by simp,by simp; omega,by simp; omega⟩ ?_
  rintro ⟨t,b⟩ ⟨q1,q2,q3,q4⟩
  dsimp only at q1 q2 q3 q4 ⊢
  rcases Nat.lt_or_ge t.length n with hlt | hge
  · have w2 : IntKind.i64.wrap ((t.length : Int) + 1) = ((t.length + 1 : Nat) : Int) := i64_wrap _ (by omega) (by omega)
    simp only [go_sem,hid,hlt]
    refine N_loop (fun u : List UInt8 × Int=>⟨[(0,.ref id 0),(3,.own h.length t.length 0 t.length),(4,AI long),(5,AS u.1),(11,AI n),(12,AI t.length),(14,AI long),(15,AI u.1.length)],h.set id (strm L u.2) ++ [.row none (t.map PV.str) 0],[]⟩)
      (fun u=>u.1.length ≤ long ∧ b ≤ u.2 ∧ u.2 ≤ b + u.1.length) (fun u=>long - u.1.length) ([],b) rfl ⟨by simp,by simp,by simp⟩ ?_
    rintro ⟨s,c⟩ ⟨r1,r2,r3⟩
    dsimp only at r1 r2 r3 ⊢
    rcases Nat.lt_or_ge s.length long with hlt2 | hge2
    · have pc := posN_le (n := 0) hp (show a ≤ c by omega) (by omega)
      have w3 : IntKind.i64.wrap ((s.length : Int) + 1) = ((s.length + 1 : Nat) : Int):=i64_wrap _ (by omega) (by omega)
      have ps:=pickS_mem (l:=[[48],[49]]) (L:=L) (a:=c) (by simp) (by simp)
      have hs1 : (pickS [[48],[49]] L c).length = 1:=by
        simp only [List.mem_cons,List.not_mem_nil,or_false] at ps
        rcases ps with e | e <;> rw [e] <;> rfl
      obtain ⟨z,hz⟩ : ∃ z,pickS [[48],[49]] L c = z:=⟨_,rfl⟩
      rw [hz] at hs1
      have hmx : s.length + 1 ≤ maxStr:=by unfold maxStr; omega
      simp only [go_sem,hid,hlt2,pc,hz,hs1,hmx,w3]
      exact ⟨(s ++ z,c + 1),by simp [hs1],⟨by simp [hs1]; omega,by dsimp only; omega,by simp [hs1]; omega⟩,by simp [hs1]; omega⟩
    · have hge2' : ¬ s.length < long := by omega
      have hmx : t.length + 1 ≤ maxSl:=by unfold maxSl; omega
      simp only [go_sem,hid,hid',hge2',hmx,w2]
      refine ⟨(t ++ [s],c),by simp,⟨by simp; omega,fun z hz=>?_,by dsimp only; omega,by simp; omega⟩,by simp; omega⟩
      rcases List.mem_append.1 hz with hz | hz
      · exact q2 z hz
      · rw [List.mem_singleton.1 hz]; omega
  · have hge' : ¬ t.length < n := by omega
    have pb:=posAll (posN_le hp q3 (show b + 14 ≤ a + 200 by omega))
    have hq2 : ∀ s ∈ t,s.length ≤ 1000:=fun s hs=>by have:=q2 s hs; omega
    by_cases f1 : nextV L b 20 = 0
    · obtain ⟨m1, m2⟩ := nextV_bd L (b + 1) t.length (by omega) (by omega)
      obtain ⟨m,hm⟩:=Int.eq_ofNat_of_zero_le m1
      rw [hm] at m2
      have hml : m < t.length:=by omega
      have gm:=map_get PV.str hml
      have ps:=pickS_mem (l:=[[48],[120]]) (L:=L) (a:=b + 1 + 1) (by simp) (by simp)
      have hs1 : (pickS [[48],[120]] L (b + 1 + 1)).length = 1:=by
        simp only [List.mem_cons,List.not_mem_nil,or_false] at ps
        rcases ps with e | e <;> rw [e] <;> rfl
      obtain ⟨z,hz⟩ : ∃ z,pickS [[48],[120]] L (b + 1 + 1) = z:=⟨_,rfl⟩
      rw [hz] at hs1
      have htm:=q2 _ (List.getElem_mem hml)
      have hmx : t[m].length + 1 ≤ maxStr:=by unfold maxStr; omega
      simp only [go_sem,hid,hid',hge',pb,f1,hm,hml,gm,hz,hs1,hmx]
      refine ⟨b + 1 + 1 + 1,⟨by omega,by omega,t.set m (t[m] ++ z),⟨by simp; omega,fun x hx=>?_⟩,?_⟩,rfl⟩
      · rcases List.mem_or_eq_of_mem_set hx with hx | rfl
        · exact hq2 x hx
        · simp [hs1]; omega
      · have em : (t.map PV.str).set m (PV.str (t[m] ++ z)) = (t.set m (t[m] ++ z)).map PV.str := List.map_set.symm
        rw [em,win_full (by simp)]
    · by_cases f2 : nextV L (b + 1) 40 = 0
      · simp only [go_sem, hid, hid', hge', pb, f1, f2]
        exact ⟨b + 1 + 1,⟨by omega,by omega,[],⟨by simp,by simp⟩,rfl⟩,rfl⟩
      · by_cases f3 : nextV L (b + 1 + 1) 40 = 0
        · simp only [go_sem, hid, hid', hge', pb, f1, f2, f3]
          refine N_loop (fun u : List (List UInt8) × Nat × Int=>⟨[(0,.ref id 0),(3,.own h.length t.length 0 t.length),(50,AI t.length),(51,AI u.2.1)],h.set id (strm L u.2.2) ++ [.row none (u.1.map PV.str) 0],[]⟩)
            (fun u=>u.1.length = t.length ∧ (∀ s ∈ u.1,s.length ≤ 1000) ∧ u.2.1 ≤ t.length ∧ b + 3 ≤ u.2.2 ∧ u.2.2 ≤ b + 3 + 3 * u.2.1) (fun u=>t.length - u.2.1) (t,0,b + 1 + 1 + 1) rfl ⟨rfl,hq2,by simp,by simp; omega,by simp; omega⟩ ?_
          rintro ⟨u,j,c⟩ ⟨u1,u2,u3,u4,u5⟩
          dsimp only at u1 u2 u3 u4 u5 ⊢
          rcases Nat.lt_or_ge j t.length with hlt | hge
          · have pc := posAll (posN_le hp (show a ≤ c by omega) (show c + 14 ≤ a + 200 by omega))
            have w2 : IntKind.i64.wrap ((j : Int) + 1) = ((j + 1 : Nat) : Int):=i64_wrap _ (by omega) (by omega)
            have ps:=pickS_mem (l:=[[48],[49],[48,49]]) (L:=L) (a:=c) (by simp) (by simp)
            have hs1 : (pickS [[48],[49],[48,49]] L c).length ≤ 2:=by
              simp only [List.mem_cons,List.not_mem_nil,or_false] at ps
              rcases ps with e | e | e <;> rw [e] <;> decide
            obtain ⟨z,hz⟩ : ∃ z,pickS [[48],[49],[48,49]] L c = z:=⟨_,rfl⟩
            rw [hz] at hs1
            obtain ⟨v1,v2⟩:=rangeV_bd (u:=0) (v:=1) L (c + 1) (by omega) (by omega)
            obtain ⟨x1,x2⟩:=rangeV_bd (u:=0) (v:=32) L (c + 1 + 1) (by omega) (by omega)
            obtain ⟨d,hd⟩ : ∃ z,rangeV 0 1 L (c + 1) = z:=⟨_,rfl⟩
            obtain ⟨e,he⟩ : ∃ z,rangeV 0 32 L (c + 1 + 1) = z:=⟨_,rfl⟩
            rw [hd] at v1 v2
            rw [he] at x1 x2
            have w5 : IntKind.i64.wrap (32 + d) = 32 + d:=i64_wrap _ (by omega) (by omega)
            have hm1 : z.length * (32 + d).toNat ≤ 2 * 33:=Nat.mul_le_mul hs1 (by omega)
            have R1:=fun h K=>s_Repeat (h:=h) (K:=K) z (32 + d) (by omega) (by omega) (by omega)
            have R2:=fun h K=>s_Repeat (h:=h) (K:=K) [49] e (by omega) (by simp; omega) (by omega)
            have l1 : (repL z (32 + d).toNat).length ≤ 66:=by rw [repL_len,Nat.mul_comm]; exact hm1
            have l2 : (repL [49] e.toNat).length ≤ 32:=by rw [repL_len]; simp; omega
            generalize repL z (32 + d).toNat = A at *
            generalize repL [49] e.toNat = B at *
            have hmx : A.length + B.length ≤ maxStr:=by unfold maxStr; omega
            have gu:=map_get PV.str (l:=u) (k:=j) (by omega)
            have hul : (u.map PV.str).length = t.length:=by rw [List.length_map,u1]
            simp only [go_sem,hid,hid',hlt,pc,hz,hd,he,w5,R1,R2,hmx,hul,gu,w2]
            refine ⟨(u.set j (A ++ B),j + 1,c + 1 + 1 + 1),?_,⟨by simp [u1],fun x hx=>?_,by dsimp only; omega,by dsimp only; omega,by dsimp only; omega⟩,by dsimp only; omega⟩
            · rw [List.map_set]
            · rcases List.mem_or_eq_of_mem_set hx with hx | rfl
              · exact u2 x hx
              · simp; omega
          · have hge2 : ¬ j < t.length := by omega
            simp only [go_sem,hid,hid',hge2,u1]
            refine ⟨c,⟨by omega,by omega,u,⟨by omega,u2⟩,?_⟩,rfl⟩
            rw [win_full (by simp [u1])]
        · simp only [go_sem, hid, hid', hge', pb, f1, f2, f3]
          refine ⟨b + 1 + 1 + 1,⟨by omega,by omega,t,⟨by omega,hq2⟩,?_⟩,rfl⟩
          rw [win_full (by simp)]
theorem head_str {t : List (List UInt8)} (h : 0 < t.length) : (t.map PV.str)[0]? = some (.str (t.headD [])):=by
  cases t with
  | nil=>cases h
  | cons a r=>rfl
theorem g_RightTest (hp : posN 2000 a) : GenE f_q02a [] L a (fun v a2=>a ≤ a2 ∧ a2 ≤ a + 360 ∧ ∃ t : List (List UInt8),SmallT t ∧ testF t = 0 ∧ (t.headD []).length < 20 ∧ v = AStr t):=by
  refine GenE.of fun h id hid=>?_
  rw [c_q02a rfl]
  have hid' : id ≤ h.length:=by omega
  simp only [d_q02a,go_sem,hid]
  refine N_loop (fun t : Nat × Int=>⟨[(0,.ref id 0),(4,AI t.1)],h.set id (strm L t.2),[]⟩) (fun t=>t.1 ≤ 6 ∧ a ≤ t.2 ∧ t.2 ≤ a + 60 * t.1) (fun t=>6 - t.1) (0,a) rfl ⟨by simp,by simp,by simp⟩ ?_
  rintro ⟨k,b⟩ ⟨h1,h2,h3⟩
  dsimp only at h1 h2 h3 ⊢
  rcases Nat.lt_or_ge k 6 with hlt | hge
  · have hk : (k : Int) < 6 := by omega
    have w1 : IntKind.i64.wrap ((k : Int) + 1) = ((k + 1 : Nat) : Int):=i64_wrap _ (by omega) (by omega)
    obtain ⟨_,a2,⟨c1,c2,t,ts,rfl⟩,V⟩:=(g_ATest (L:=L) (a:=b) (posN_le hp h2 (by omega))).set (h:=h) hid
    have F:=fun h K=>s_TestFault (h:=h) (K:=K) t (fun s hs=>by have:=ts.2 s hs; omega) (by have:=ts.1; omega)
    by_cases hf : testF t = 0
    · have T := testF_ok hf
      have g0:=head_str T.n0
      by_cases hl : (t.headD []).length < 20
      · have hl' : ((t.headD []).length : Int) < 20 := by omega
        simp only [go_sem,hid,hk,↓V,V,↓F,F,hf,g0,hl']
        exact ⟨a2,⟨by omega,by omega,t,ts,hf,hl,rfl⟩,rfl⟩
      · have hl' : ¬ ((t.headD []).length : Int) < 20 := by omega
        simp only [go_sem,hid,hk,↓V,V,↓F,F,hf,g0,hl',w1]
        exact ⟨(k + 1,a2),rfl,⟨by dsimp only; omega,by dsimp only; omega,by dsimp only; omega⟩,by dsimp only; omega⟩
    · simp only [go_sem, hid, hk, ↓V, V, ↓F, F, hf, w1]
      exact ⟨(k + 1,a2),rfl,⟨by dsimp only; omega,by dsimp only; omega,by dsimp only; omega⟩,by dsimp only; omega⟩
  · have hk : ¬ (k : Int) < 6 := by omega
    simp only [go_sem,hid,hk]
    exact ⟨b,⟨by omega,by omega,[[48,49],[49,48]],⟨by decide,by decide⟩,by decide,by decide,rfl⟩,rfl⟩
end Go.Am
end
section
/- The shortest way between two states of a test access port: a search over a queue. -/
open Go
set_option linter.all false
namespace Go.Am
variable {h : Heap} {K : Post}
attribute [-go_sem] oLook oMupd oMentry oMrange
def nxtT : List (List Nat):=[[1,0],[1,2],[3,9],[4,5],[4,5],[6,8],[6,7],[4,8],[1,2],[10,0],[11,12],[11,12],[13,15],[13,14],[11,15],[1,2]]
def nxt (s t : Nat) : Nat:=(nxtT.getD s []).getD t 0
theorem nxt_get {s t : Nat} (hs : s < 16) (ht : t < 2) : ([AI 1,AI 0,AI 1,AI 2,AI 3,AI 9,AI 4,AI 5,AI 4,AI 5,AI 6,AI 8,AI 6,AI 7,AI 4,AI 8,AI 1,AI 2,AI 10,AI 0,AI 11,AI 12,AI 11,AI 12,AI 13,AI 15,AI 13,AI 14,AI 11,AI 15,AI 1,AI 2] : List AV)[s * 2 + t * 1]? = some (AI (nxt s t)):=by
  have hs' : s = 0 ∨ s = 1 ∨ s = 2 ∨ s = 3 ∨ s = 4 ∨ s = 5 ∨ s = 6 ∨ s = 7 ∨ s = 8 ∨ s = 9 ∨ s = 10 ∨ s = 11 ∨ s = 12 ∨ s = 13 ∨ s = 14 ∨ s = 15:=by omega
  have ht' : t = 0 ∨ t = 1:=by omega
  rcases hs' with rfl | rfl | rfl | rfl | rfl | rfl | rfl | rfl | rfl | rfl | rfl | rfl | rfl | rfl | rfl | rfl <;> rcases ht' with rfl | rfl <;> rfl
theorem g_tapnext {Y : Ctx} (hY : Y.fn f_q04r = some a_q04r) (s t : Nat) (hs : s < 16) (ht : t < 2) : ACall Y f_q04r [AI s,AI t] h K = K (AI (nxt s t)) h []:=by
  refine rule ?_
  rw [call_val hY rfl (show puras h [AI s,AI t] = some ([AI s,AI t],h) from rfl) rfl,e_q04r]
  show d_q04r _ _ _ _ _ _ (finR [.t 4] false _ _)
  have g:=nxt_get hs ht
  simp only [d_q04r,go_sem,hs,ht,g]
abbrev Ways:=List (Int × List UInt8)
def keyP (n : Int) : PV:=.int .i64 n
def valP (s : List UInt8) : AV:=.p (.str s)
def bit1 (t : Nat) : List UInt8:=[UInt8.ofNat (48 + t)]
def visit (at_ t : Nat) (s : Ways × List Nat) : Ways × List Nat:=
  if (getM (nxt at_ t : Int) s.1).isSome then s else (updM (nxt at_ t : Int) ((getM (at_ : Int) s.1).getD [] ++ bit1 t) s.1,s.2 ++ [nxt at_ t])
def visits (at_ : Nat) : Nat → Ways × List Nat → Ways × List Nat
  | 0,s=>s
  | t + 1,s=>visit at_ t (visits at_ t s)
def popS (s : Ways × List Nat) : Ways × List Nat:=match s.2 with
  | []=>s
  | a :: r=>visits a 2 (s.1,r)
def bfs (a : Nat) : Nat → Ways × List Nat
  | 0=>([((a : Int),[])],[a])
  | k + 1=>popS (bfs a k)
def pathV (a b : Nat) : List UInt8:=(getM (b : Int) (bfs a 16).1).getD []
def fineS (s : Ways × List Nat) : Bool:=decide (s.1.length ≤ 16) && decide (s.2.length ≤ 16) && s.2.all (fun x=>decide (x < 16)) && s.1.all (fun e=>decide (e.2.length ≤ 16))
theorem bfs_all : (List.range 16).all (fun a=>(List.range 16).all (fun k=>fineS (bfs a k) && !(bfs a k).2.isEmpty) && fineS (bfs a 16) && (bfs a 16).2.isEmpty) = true:=by kernel_rfl
theorem bfs_fine {a k : Nat} (ha : a < 16) (hk : k < 16) : fineS (bfs a k) = true ∧ (bfs a k).2 ≠ []:=by
  have h1:=List.all_eq_true.1 bfs_all a (List.mem_range.2 ha)
  simp only [Bool.and_eq_true] at h1
  have h2:=List.all_eq_true.1 h1.1.1 k (List.mem_range.2 hk)
  simp only [Bool.and_eq_true,Bool.not_eq_true',List.isEmpty_eq_false_iff] at h2
  exact h2
theorem bfs_end {a : Nat} (ha : a < 16) : fineS (bfs a 16) = true ∧ (bfs a 16).2 = []:=by
  have h1:=List.all_eq_true.1 bfs_all a (List.mem_range.2 ha)
  simp only [Bool.and_eq_true,List.isEmpty_iff] at h1
  exact ⟨h1.1.2,h1.2⟩
theorem fine_inv {s : Ways × List Nat} (hf : fineS s = true) : s.1.length ≤ 16 ∧ s.2.length ≤ 16 ∧ (∀ x ∈ s.2,x < 16) ∧ ∀ e ∈ s.1,e.2.length ≤ 16:=by
  unfold fineS at hf
  simp only [Bool.and_eq_true,decide_eq_true_eq,List.all_eq_true] at hf
  exact ⟨hf.1.1.1,hf.1.1.2,hf.1.2,hf.2⟩
theorem lookP {hp : Heap} {id : Nat} {m : Ways} {b : Int} (hh : hp[id]? = some (mobj keyP valP m)) : oLook (none,[0]) false (.p (.str [])) (.mp id) (AI b) hp = some (.p (.str ((getM b m).getD []))):=by
  have:=look_mes (key:=keyP) (val:=valP) (fun a b=>keyI_int a b) hh (kk:=(none,[0])) (k:=b) keyOf_int (ok:=false) (z:=.p (.str []))
  rw [cond_false] at this
  refine this.trans ?_
  cases getM b m <;> rfl
theorem lookQ {hp : Heap} {id : Nat} {m : Ways} {b : Int} (hh : hp[id]? = some (mobj keyP valP m)) : oLook (none,[0]) true (.p (.str [])) (.mp id) (AI b) hp = some (.tup [.p (.str ((getM b m).getD [])),AB (getM b m).isSome]):=by
  have:=look_mes (key:=keyP) (val:=valP) (fun a b=>keyI_int a b) hh (kk:=(none,[0])) (k:=b) keyOf_int (ok:=true) (z:=.p (.str []))
  rw [cond_true] at this
  refine this.trans ?_
  cases getM b m <;> rfl
theorem updP {hp : Heap} {id : Nat} {m : Ways} {b : Int} {v : List UInt8} (hh : hp[id]? = some (mobj keyP valP m)) : oMupd (none,[0]) (.mp id) (AI b) (.p (.str v)) hp = some (.und,hp.set id (mobj keyP valP (updM b v m)),[]):=
  mupd_mes (key:=keyP) (val:=valP) (fun a b=>keyI_int a b) hh (kk:=(none,[0])) (k:=b) keyOf_int (v:=v) rfl
structure Que (R : Heap) (i : Nat) (xs : List Nat) (off : Nat) (q : List Nat) : Prop where
  get : R[i]? = some (.row none (xs.map fun n : Nat=>eI n) 0)
  le : off ≤ xs.length
  eq : xs.drop off = q
theorem nq_one {hp : Heap} {id : Nat} {xs : List Nat} {off : Nat} {n : Int} {k : AV → Heap → Esc → Prop} (hh : hp[id]? = some (.row none (xs.map fun n : Nat=>eI n) 0)) (ho : off ≤ xs.length) (hm : xs.length ≤ 1000000)
    (k1 : k (.own id (xs.length + 1) off (xs.length - off + 1)) (hp.set id (.row none (xs.map (fun n : Nat=>eI n) ++ [eI n]) 0)) [])
    (k2 : k (.own hp.length (xs.length - off + 1) 0 (xs.length - off + 1)) (hp ++ [.row none ((xs.drop off).map (fun n : Nat=>eI n) ++ [eI n]) 0]) []) :
    nqK (some none) [.own id xs.length off (xs.length - off),.p (.sl none [eI n])] hp k:=by
  have hx : xs.length - off + 1 ≤ maxSl:=by unfold maxSl; omega
  have hr : rds hp (.p (.sl none [eI n])) = some (none,[eI n]):=rfl
  have hw : win (xs.map fun n : Nat=>eI n) off (xs.length - off) = (xs.drop off).map fun n : Nat=>eI n:=by
    unfold win
    rw [← List.map_drop]
    exact List.take_of_length_le (by simp)
  unfold nqK choices appq
  simp only [hr,if_true,hh,List.length_map,List.length_cons,List.length_nil,Nat.zero_add]
  rw [if_pos ⟨trivial,trivial,by omega,hx⟩,hw]
  refine ⟨by simp,fun y hy=>?_⟩
  simp only [List.mem_cons,List.not_mem_nil,or_false] at hy
  rcases hy with rfl | rfl
  · exact k1
  · exact k2
theorem mem_updM {α β : Type} [DecidableEq α] {k : α} {v : β} : ∀ {l : List (α × β)} {e : α × β},e ∈ updM k v l → e ∈ l ∨ e = (k,v)
  | [],e,h=>by simp [updM] at h; exact .inr h
  | x :: r,e,h=>by
    unfold updM at h
    split at h
    · rcases List.mem_cons.1 h with h | h
      · exact .inr h
      · exact .inl (List.mem_cons_of_mem _ h)
    · rcases List.mem_cons.1 h with h | h
      · exact .inl (h ▸ List.mem_cons_self)
      · rcases mem_updM h with h | h
        · exact .inl (List.mem_cons_of_mem _ h)
        · exact .inr h
theorem getM_mem {α β : Type} [DecidableEq α] {k : α} {v : β} : ∀ {l : List (α × β)},getM k l = some v → (k,v) ∈ l
  | [],h=>by cases h
  | x :: r,h=>by
    unfold getM at h
    split at h
    · rename_i he; cases h; subst he; simp
    · exact List.mem_cons_of_mem _ (getM_mem h)
theorem ways_len {n : Nat} {w : Ways} (hw : ∀ e ∈ w,e.2.length ≤ n) (k : Int) : ((getM k w).getD []).length ≤ n:=by
  cases hg : getM k w with
  | none=>simp
  | some v=>exact hw _ (getM_mem hg)
theorem visit_len {n at_ t : Nat} {s : Ways × List Nat} (hw : ∀ e ∈ s.1,e.2.length ≤ n) : ∀ e ∈ (visit at_ t s).1,e.2.length ≤ n + 1:=by
  unfold visit
  split
  · intro e he; have:=hw e he; omega
  · intro e he
    rcases mem_updM he with h | h
    · have:=hw e h; omega
    · subst h
      have:=ways_len hw (at_ : Int)
      simp [bit1]; omega
theorem visits_len {n at_ : Nat} {s : Ways × List Nat} (hw : ∀ e ∈ s.1,e.2.length ≤ n) : ∀ (t : Nat),∀ e ∈ (visits at_ t s).1,e.2.length ≤ n + t
  | 0=>hw
  | t + 1=>visit_len (visits_len hw t)
set_option maxHeartbeats 1000000 in
theorem g_path {Y : Ctx} (hY1 : Y.fn f_q04s = some a_q04s) (hY2 : Y.fn f_q04r = some a_q04r) (a b : Nat) (ha : a < 16) (hb : b < 16) : ACall Y f_q04s [AI a,AI b] h K = K (.p (.str (pathV a b))) h []:=by
  refine rule ?_
  rw [call_val_det hY1 rfl (show puras h [AI a,AI b] = some ([AI a,AI b],h) from rfl) rfl]
  simp only [e_q04s]
  show ∃ v h' x,_ ∧ d_q04s _ _ _ _ _ _ _ _ (finR [.t 4] false _ _)
  simp only [d_q04s]
  refine ⟨_,_,_,⟨rfl,rfl,rfl⟩,?_⟩
  have em : mobj keyP valP [((a : Int),([] : List UInt8))] = .amap [⟨.int .i64 a,.p (.str []),0⟩] 1:=rfl
  have u0:=fun (hp : Heap) (hh : hp[h.length]? = some (mobj keyP valP []))=>updP (b:=(a : Int)) (v:=[]) hh
  have e0 : updM (a : Int) [] ([] : Ways) = [((a : Int),[])]:=rfl
  have em0 : mobj keyP valP ([] : Ways) = .amap [] 0:=rfl
  rw [e0] at u0
  simp only [em0] at u0
  simp only [go_sem,u0]
  refine N_loop (fun t : Nat × Heap × Nat × List Nat × Nat × Option Nat=>⟨[(1,AI b),(5,.mp h.length),(6,.own (h.length + (t.2.2.1 + 1)) t.2.2.2.1.length t.2.2.2.2.1 (t.2.2.2.1.length - t.2.2.2.2.1))] ++ (match t.2.2.2.2.2 with | none=>[] | some q=>[(7,AI q),(25,AI 2),(26,AB false)]),h ++ mobj keyP valP (bfs a t.1).1 :: t.2.1,[]⟩)
    (fun t=>t.1 ≤ 16 ∧ Que t.2.1 t.2.2.1 t.2.2.2.1 t.2.2.2.2.1 (bfs a t.1).2 ∧ t.2.2.2.1.length ≤ 1 + 2 * t.1) (fun t=>16 - t.1) (0,[.row none [eI a] 0],0,[a],0,none) (by simp [bfs]) ⟨by simp,⟨rfl,by simp,rfl⟩,by simp⟩ ?_
  rintro ⟨k,R,i,xs,off,oq⟩ ⟨h1,hq,h2⟩
  dsimp only at h1 hq h2 ⊢
  have hqg:=hq.get
  have hle:=hq.le
  have heq:=hq.eq
  have hln : xs.length - off = (bfs a k).2.length:=by rw [← heq]; simp
  by_cases hk : k < 16
  · obtain ⟨hf, hne⟩ := bfs_fine ha hk
    obtain ⟨f1,f2,f3,f4⟩:=fine_inv hf
    have hpos : 0 < xs.length - off:=by rw [hln]; exact List.length_pos_iff.2 hne
    have hoff : off < xs.length:=by omega
    obtain ⟨q0,qr,hqe⟩ : ∃ q0 qr,(bfs a k).2 = q0 :: qr:=by
      cases hb2 : (bfs a k).2 with
      | nil=>exact absurd hb2 hne
      | cons x y=>exact ⟨x,y,rfl⟩
    have hx0 : xs[off]? = some q0:=by
      have : (xs.drop off)[0]? = some q0:=by rw [heq,hqe]; rfl
      rwa [List.getElem?_drop,Nat.add_zero] at this
    have hdr : xs.drop (off + 1) = qr:=by
      rw [← List.drop_drop,heq,hqe]; rfl
    have hq0 : q0 < 16:=f3 q0 (by rw [hqe]; simp)
    have hgq : (xs.map fun n : Nat=>eI n)[off]? = some (eI q0):=by rw [List.getElem?_map,hx0]; rfl
    have hpi : (0 : Int) < ((xs.length - off : Nat) : Int):=by omega
    have hl1 : 1 ≤ xs.length - off:=by omega
    have hbn : bfs a (k + 1) = visits q0 2 ((bfs a k).1,qr):=by show popS _ = _; unfold popS; rw [hqe]
    have e3 : xs.length - off - 1 = xs.length - (off + 1):=by omega
    have hcond : off + (xs.length - off) ≤ xs.length:=by omega
    have hNL : ∀ (e : List (Nat × AV)),prune (some [1,5,6,7,25]) e = prune (some [1,5,6,7,25]) e:=fun _=>rfl
    rcases oq with _ | oq
    all_goals
    simp only [List.append_nil,List.cons_append,List.nil_append,go_sem,List.getElem?_cons_succ,hqg,hpi,hpos,hgq,hl1,hcond]
    all_goals
    clear u0 em em0 e0
    generalize hw0 : ((bfs a k).1,qr) = s0 at *
    have es1 : (bfs a k).1 = s0.1:=by rw [← hw0]
    have es2 : qr = s0.2:=by rw [← hw0]
    rw [es1,e3]
    refine N_loop (fun t : Nat × Heap × Nat × List Nat × Nat=>⟨[(1,AI b),(5,.mp h.length),(6,.own (h.length + (t.2.2.1 + 1)) t.2.2.2.1.length t.2.2.2.2 (t.2.2.2.1.length - t.2.2.2.2)),(7,AI q0),(25,AI t.1)],h ++ mobj keyP valP (visits q0 t.1 s0).1 :: t.2.1,[]⟩)
      (fun t=>t.1 ≤ 2 ∧ Que t.2.1 t.2.2.1 t.2.2.2.1 t.2.2.2.2 (visits q0 t.1 s0).2 ∧ t.2.2.2.1.length ≤ 1 + 2 * k + t.1) (fun t=>2 - t.1) (0,R,i,xs,off + 1) rfl ⟨by simp,⟨hqg,hoff,by rw [hdr,es2]; rfl⟩,by simp; omega⟩ ?_
    rintro ⟨j,R',i',ys,of'⟩ ⟨j1,jq,j2⟩
    dsimp only at j1 jq j2 ⊢
    have jg:=jq.get
    have jle:=jq.le
    have jeq:=jq.eq
    by_cases hj : j < 2
    · have hji : (j : Int) < 2 := by omega
      have qn:=fun h K=>g_tapnext (h:=h) (K:=K) hY2 q0 j hq0 hj
      have hvis : visits q0 (j + 1) s0 = visit q0 j (visits q0 j s0):=rfl
      generalize hsj : visits q0 j s0 = s at *
      have lq:=fun (hp : Heap) (hh : hp[h.length]? = some (mobj keyP valP s.1))=>lookQ (b:=(nxt q0 j : Int)) hh
      have lp:=fun (hp : Heap) (hh : hp[h.length]? = some (mobj keyP valP s.1))=>lookP (b:=(q0 : Int)) hh
      have up:=fun (hp : Heap) (v : List UInt8) (hh : hp[h.length]? = some (mobj keyP valP s.1))=>updP (b:=(nxt q0 j : Int)) (v:=v) hh
      have w1 : IntKind.i64.wrap ((j : Int) + 1) = ((j + 1 : Nat) : Int):=i64_wrap _ (by omega) (by omega)
      cases hs : (getM (nxt q0 j : Int) s.1).isSome with
      | true=>
        have hv : visit q0 j s = s:=by unfold visit; rw [if_pos hs]
        rw [hv] at hvis
        simp only [go_sem,hji,↓qn,qn,lq,hs,w1]
        exact ⟨(j + 1,R',i',ys,of'),by dsimp only; rw [hvis],⟨by dsimp only; omega,by dsimp only; rw [hvis]; exact jq,by dsimp only; omega⟩,by dsimp only; omega⟩
      | false=>
        have hv : visit q0 j s = (updM (nxt q0 j : Int) ((getM (q0 : Int) s.1).getD [] ++ bit1 j) s.1,s.2 ++ [nxt q0 j]):=by unfold visit; rw [hs]; rfl
        rw [hv] at hvis
        have w2 : IntKind.i64.wrap (48 + (j : Int)) = ((48 + j : Nat) : Int):=i64_wrap _ (by omega) (by omega)
        have w3 : IntKind.i32.wrap ((48 + j : Nat) : Int) = ((48 + j : Nat) : Int):=by
          have : j = 0 ∨ j = 1:=by omega
          rcases this with rfl | rfl <;> rfl
        have w4 : (0 : Int) ≤ ((48 + j : Nat) : Int) ∧ ((48 + j : Nat) : Int) < 128:=by omega
        have hln2:=ways_len (visits_len (n:=16) (at_:=q0) (s:=s0) (by rw [← es1]; exact f4) j) (q0 : Int)
        rw [hsj] at hln2
        have w5 : ((getM (q0 : Int) s.1).getD []).length + (bit1 j).length ≤ maxStr:=by have : (bit1 j).length = 1:=rfl; unfold maxStr; omega
        have w6 : [UInt8.ofNat ((48 + j : Nat) : Int).toNat] = bit1 j:=rfl
        simp only [go_sem,hji,↓qn,qn,lq,hs,lp,up,w1,w2,w3,w4,w5,w6]
        have hh1 : (h ++ mobj keyP valP (updM (nxt q0 j : Int) ((getM (q0 : Int) s.1).getD [] ++ bit1 j) s.1) :: R')[h.length + (i' + 1)]? = some (.row none (ys.map fun n : Nat=>eI n) 0):=by
          rw [List.getElem?_append_right (by omega)]; simpa using jg
        have hi' : i' < R'.length:=lt_of_get jg
        refine nq_one hh1 jle (by omega) ?_ ?_
        · refine ⟨(j + 1, R'.set i' (.row none (ys.map (fun n : Nat => eI n) ++ [eI (nxt q0 j)]) 0), i', ys ++ [nxt q0 j], of'), ?_, ⟨by dsimp only; omega, ⟨?_, ?_, ?_⟩, ?_⟩, by dsimp only; omega⟩
          · dsimp only
            rw [hvis,List.set_append_right _ _ (by omega)]
            simp only [List.length_append,List.length_cons,List.length_nil,Nat.add_sub_cancel_left,List.set_cons_succ]
            rw [show ys.length + 1 - of' = ys.length - of' + 1 by omega]
          · dsimp only
            rw [List.getElem?_set_self hi']; simp
          · simp; omega
          · dsimp only
            rw [hvis,List.drop_append_of_le_length jle,jeq]
          · simp; omega
        · refine ⟨(j + 1, R' ++ [.row none ((ys.drop of').map (fun n : Nat => eI n) ++ [eI (nxt q0 j)]) 0], R'.length, ys.drop of' ++ [nxt q0 j], 0), ?_, ⟨by dsimp only; omega, ⟨?_, ?_, ?_⟩, ?_⟩, by dsimp only; omega⟩
          · dsimp only
            rw [hvis]
            simp
          · simp
          · simp
          · dsimp only
            rw [hvis,jeq,List.drop_zero]
          · simp; omega
    · have hj2 : j = 2 := by omega
      subst hj2
      simp only [go_sem]
      refine ⟨(k + 1,R',i',ys,of',some q0),?_,⟨by dsimp only; omega,by dsimp only; rw [hbn]; exact jq,by dsimp only; omega⟩,by dsimp only; omega⟩
      dsimp only
      rw [hbn]
  · have hk16 : k = 16 := by omega
    subst hk16
    obtain ⟨_,hne⟩:=bfs_end ha
    have hz : xs.length - off = 0:=by rw [hln,hne]; rfl
    have lk:=fun (hp : Heap) (hh : hp[h.length]? = some (mobj keyP valP (bfs a 16).1))=>lookP (b:=(b : Int)) hh
    have hpv : (getM (b : Int) (bfs a 16).1).getD [] = pathV a b:=rfl
    rcases oq with _ | oq <;> simp only [List.append_nil,List.cons_append,List.nil_append,go_sem,hz,lk,hpv]
end Go.Am
end
section
/- ready: a closed call,computed. -/
open Go
set_option linter.all false
namespace Go.Am
def orcP (f : Nat) (a : List AV) : Option AV:=bif Nat.beq f f_q04s then match a with
  | [.p (.int .i64 x),.p (.int .i64 y)]=>bif decide (0 ≤ x) && decide (x < 16) && decide (0 ≤ y) && decide (y < 16) then some (.p (.str (pathV x.toNat y.toNat))) else none
  | _=>none else none
theorem orcP_ok : ∀ f a v,orcP f a = some v → ∀ h (K : Post),K v h [] → ACall X0 f a h K:=by
  intro f a v hv h K hK
  unfold orcP at hv
  cases hf : Nat.beq f f_q04s with
  | false=>rw [hf] at hv; cases hv
  | true=>
    have hf':=Nat.eq_of_beq_eq_true hf
    rw [hf] at hv
    subst hf'
    simp only [cond_true] at hv
    split at hv
    · rename_i x y
      cases hc : (decide (0 ≤ x) && decide (x < 16) && decide (0 ≤ y) && decide (y < 16)) with
      | false=>rw [hc] at hv; cases hv
      | true=>
        rw [hc] at hv
        simp only [cond_true,Option.some.injEq] at hv
        simp only [Bool.and_eq_true,decide_eq_true_eq] at hc
        obtain ⟨a,rfl⟩:=Int.eq_ofNat_of_zero_le hc.1.1.1
        obtain ⟨b,rfl⟩:=Int.eq_ofNat_of_zero_le hc.1.2
        have:=g_path (h:=h) (K:=K) x0_tap_path x0_tap_next a b (by omega) (by omega)
        rw [this]
        subst hv
        exact hK
    · cases hv
theorem ready_ev : evCallO X0 orcP 1000 60 f_q01v [] [] = some (AB true,[],[]):=by kernel_rfl
theorem ready_true : ACall X0 f_q01v [] [] fun v h x=>v = AB true ∧ h = [] ∧ x = []:=(ACall_evO orcP_ok 1000 60 ready_ev _).2 ⟨rfl,rfl,rfl⟩
theorem s_ready {h : Heap} {K : Post} : ACall X f_q01v [] h K = K (AB true) h []:=lib_call (by kernel_rfl) rfl
end Go.Am
end
section
/- What all laws of the keep package use. -/
open Go
set_option linter.all false
namespace Go.Am
variable {h : Heap} {K : Post}
theorem s_errsK (l : List Int) (hl : l.length ≤ 1000) : ACall X f_q01u [AL l] h K = K (AI (firstErr l)) h []:=by
  refine rule ?_
  rw [c_q01u rfl]
  simp only [d_q01u,go_sem]
  refine N_loop (fun k : Nat=>⟨[(5,AL l),(6,AI l.length),(7,AI k)],h,[]⟩) (fun k=>k ≤ l.length ∧ firstErr (l.drop k) = firstErr l) (fun k=>l.length - k) 0 rfl (by simp) ?_
  rintro k ⟨hk,hp⟩
  rcases Nat.lt_or_ge k l.length with hlt | hge
  · have hg := map_get eI hlt
    have w2 : IntKind.i64.wrap ((k : Int) + 1) = ((k + 1 : Nat) : Int):=i64_wrap _ (by omega) (by omega)
    rw [List.drop_eq_getElem_cons hlt,firstErr] at hp
    by_cases he : l[k] = 0
    · rw [if_pos he] at hp
      simp only [go_sem,hlt,hg,w2,he]
      exact ⟨k + 1,rfl,⟨by omega,hp⟩,by omega⟩
    · rw [if_neg he] at hp
      simp only [go_sem,hlt,hg,w2,he]
      rw [hp]
  · have e1 : k = l.length := by omega
    subst e1
    simp only [go_sem,Nat.lt_irrefl]
    rw [List.drop_length] at hp
    rw [← hp]; rfl
end Go.Am
end
section
/- ShortsAreAlike returns true. -/
open Go
set_option linter.all false
namespace Go.Am
variable {h : Heap} {K : Post}
theorem combT_eq {t : List (List UInt8)} {lg : Nat} {f : Flt} (e : (t.headD []).length = lg) (hf : NetsIn f.nets t.length) : combT t [f] = (List.range t.length).map fun i=>textN lg (resp (t.map rowN) (2 ^ lg - 1) f i):=by
  unfold combT
  rw [e]
  apply List.ext_getElem?
  intro i
  rw [List.getElem?_map,List.getElem?_map]
  show Option.map (textN lg) (fwithN (t.map rowN) f (2 ^ lg - 1))[i]? = _
  unfold fwithN
  rw [setNs_get _ _ _ _ (fun n hn=>(hf.2.2 n hn).1),List.length_map]
  by_cases hi : i < t.length
  · rw [List.getElem?_range hi, Option.map_some]
    unfold resp
    by_cases hm : (i : Int) ∈ f.nets
    · rw [if_pos ⟨hm,hi⟩,if_pos hm]; rfl
    · rw [if_neg (fun q=>hm q.1),if_neg hm,List.getElem?_eq_getElem (by simpa using hi),List.getD_eq_getElem?_getD,List.getElem?_eq_getElem (by simpa using hi)]; rfl
  · rw [if_neg (fun q=>hi q.2),List.getElem?_eq_none (by simpa using hi),List.getElem?_eq_none (by simpa using hi)]; rfl
theorem s_RespOwn (t : List (List UInt8)) (k x y : Int) (l : List Int) (hb : ∀ s ∈ t,s.length ≤ 1000000) (ht : t.length ≤ 1000000) {id : Nat} (hh : h[id]? = some (.row none ((x :: y :: l).map eI) 0)) :
    ACall X f_q010 [AStr t,.agg [AI k,.own id (l.length + 2) 0 2]] h K = K (combV t [⟨k,[x,y]⟩]) (frz h id 2) []:=by
  have e:=arg_pur (X:=X) (f:=f_q010) (F:=a_q010) (a:=[AStr t,.agg [AI k,.own id (l.length + 2) 0 2]]) (vs:=[.sl none (t.map PV.str),.agg [eI k,.sl none [eI x,eI y]]]) (h:=h) (h1:=frz h id 2) (P:=K) x_q010 rfl
    (by simp [puras,pur,purs,rd,hh,win]) rfl rfl frz_len
  rw [e]
  exact s_Response t ⟨k,[x,y]⟩ hb ht (by simp)
theorem law_SA (L : List Int) {K : Post} : ACall X f_q01t [AL L] [] K = K (AB true) [] []:=by
  refine rule ?_
  rw [c_q01t rfl]
  have p0 : posN 2000 0:=by unfold posN; omega
  obtain ⟨_,a2,⟨c1,c2,t,ts,tz,tl,rfl⟩,V⟩:=(g_RightTest (L:=L) (a:=0) p0).hd (l:=[])
  have T:=testF_ok tz
  obtain ⟨lg,hlg⟩ : ∃ n,(t.headD []).length = n:=⟨_,rfl⟩
  rw [hlg] at T
  by_cases h2 : t.length < 2
  · have h2' : (t.length : Int) < 2 := by omega
    simp only [d_q01t,go_sem,V,h2',s_ready]
  have h2' : ¬ (t.length : Int) < 2:=by omega
  have hp2 : posN 2000 a2:=by unfold posN; omega
  obtain ⟨xs,a3,⟨d1,d2,l,hl,rfl⟩,V2⟩:=g_Order (L:=L) (a:=a2) t.length (by have:=T.n1; omega) hp2 [strm L a2] 0 rfl
  have hll : l.length = t.length:=by rw [hl.length_eq,upI_len]
  rw [List.length_map,hll] at V2
  simp only [List.length_cons,List.length_nil,List.set_cons_zero,List.cons_append,List.nil_append,Nat.zero_add] at V2
  match l,hll,hl with
  | [],h,_=>exact absurd h (by simp; omega)
  | [_],h,_=>exact absurd h (by simp; omega)
  | x :: y :: l,hll,hl=>
  have hx:=upI_mem.1 (hl.mem_iff.1 (List.mem_cons_self (a:=x)))
  have hy:=upI_mem.1 (hl.mem_iff.1 (List.mem_cons_of_mem x (List.mem_cons_self (a:=y))))
  have hxy : x ≠ y:=by
    have:=hl.nodup_iff.2 (upI_nodup t.length)
    rw [List.nodup_cons] at this
    exact fun e=>this.1 (by rw [e]; exact List.mem_cons_self)
  have hb : ∀ s ∈ t,s.length ≤ 1000000:=fun s hs=>by have:=ts.2 s hs; omega
  have ht : t.length ≤ 1000000:=by have:=ts.1; omega
  obtain ⟨fA,fO,fP⟩:=fltF_short T.n1 hx hy hxy
  have hv : ∀ f : Flt,fltF t.length f = 0 → combV t [f] = .tup [AStr ((List.range t.length).map fun i=>textN lg (resp (t.map rowN) (2 ^ lg - 1) f i)),AI 0]:=by
    intro f hf
    have ha : allF t [f] = 0:=by unfold allF; rw [if_neg (by simp [tz])]; simp [fltsF,hf]
    unfold combV
    rw [if_neg (by simp [ha]),combT_eq hlg (fltF_in hf)]
  have RA:=fun h K=>s_Response (h:=h) (K:=K) t (shA x y) hb ht (by simp [shA])
  have RO:=fun h K=>s_Response (h:=h) (K:=K) t (shO x y) hb ht (by simp [shO])
  have RP:=fun (g : Obj) (K : Post)=>s_RespOwn (h:=[g,.row none ((x :: y :: l).map eI) 0]) (K:=K) t 5 x y l hb ht (id:=1) rfl
  rw [hv _ fA] at RA
  rw [hv _ fO] at RO
  have hv5:=hv _ fP
  unfold shP at hv5
  rw [hv5] at RP
  simp only [List.length_cons] at hll
  simp only [Flt.pv,shA,shO,List.map_cons,List.map_nil] at RA RO RP
  rw [hll] at RP
  simp only [List.map_cons] at V2
  have hle : 2 ≤ t.length:=by omega
  have hlen2 : l.length + 1 + 1 = t.length:=hll
  have fr : ∀ g : Obj,frz [g,.row none (eI x :: eI y :: l.map eI) 0] 1 2 = [g,.row none (eI x :: eI y :: l.map eI) 2]:=fun g=>rfl
  have ke:=fun h K=>s_errsK (h:=h) (K:=K) [0,0,0] (by simp)
  simp only [AL,List.map_cons,List.map_nil] at ke
  have k0 : firstErr [0,0,0] = 0:=rfl
  rw [k0] at ke
  simp only [d_q01t,go_sem,V,h2',V2,hle,hlen2,RA,RO,RP,fr,ke,List.length_range]
  have hAP : ∀ i v,(resp (t.map rowN) (2 ^ lg - 1) ⟨3,[min x y,max x y]⟩ i).testBit v = true → (resp (t.map rowN) (2 ^ lg - 1) ⟨5,[x,y]⟩ i).testBit v = true:=fun i v=>resp_AP i v
  have hPO : ∀ i v,(resp (t.map rowN) (2 ^ lg - 1) ⟨5,[x,y]⟩ i).testBit v = true → (resp (t.map rowN) (2 ^ lg - 1) ⟨4,[min x y,max x y]⟩ i).testBit v = true:=fun i v=>resp_PO i v
  have mx : x ∈ [min x y,max x y]:=mem_mm.2 (by simp)
  have my : y ∈ [min x y,max x y]:=mem_mm.2 (by simp)
  have sA:=resp_same (r:=t.map rowN) (ones:=2 ^ lg - 1) ⟨3,[min x y,max x y]⟩ hx.1 hy.1 mx my
  have sO:=resp_same (r:=t.map rowN) (ones:=2 ^ lg - 1) ⟨4,[min x y,max x y]⟩ hx.1 hy.1 mx my
  have sP:=resp_same (r:=t.map rowN) (ones:=2 ^ lg - 1) ⟨5,[x,y]⟩ hx.1 hy.1 (by simp) (by simp)
  clear V V2 RA RO RP hv hv5 fA fO fP
  generalize resp (t.map rowN) (2 ^ lg - 1) ⟨3,[min x y,max x y]⟩ = rA at *
  generalize resp (t.map rowN) (2 ^ lg - 1) ⟨4,[min x y,max x y]⟩ = rO at *
  generalize resp (t.map rowN) (2 ^ lg - 1) ⟨5,[x,y]⟩ = rP at *
  have rg : ∀ (g : Nat → List UInt8) i,i < t.length → (((List.range t.length).map g).map PV.str)[i]? = some (.str (g i)):=fun g i hi=>by
    rw [List.getElem?_map,List.getElem?_map,List.getElem?_range hi]; rfl
  have hl64:=T.l
  refine N_loop (fun i : Nat=>⟨[(4,AStr t),(5,.own 1 t.length 0 2),(6,AStr ((List.range t.length).map fun i=>textN lg (rA i))),(8,AStr ((List.range t.length).map fun i=>textN lg (rO i))),(10,AStr ((List.range t.length).map fun i=>textN lg (rP i))),(107,AI t.length),(108,AI i)],[strm L a3,.row none (eI x :: eI y :: l.map eI) 2],[]⟩)
    (fun i=>i ≤ t.length) (fun i=>t.length - i) 0 rfl (by omega) ?_
  intro i hi
  rcases Nat.lt_or_ge i t.length with hlt | hge
  · have w2 : IntKind.i64.wrap ((i : Int) + 1) = ((i + 1 : Nat) : Int) := i64_wrap _ (by omega) (by omega)
    have gt:=map_get PV.str hlt
    have gA:=rg (fun i=>textN lg (rA i)) i hlt
    have gO:=rg (fun i=>textN lg (rO i)) i hlt
    have gP:=rg (fun i=>textN lg (rP i)) i hlt
    have te:=T.e _ (List.getElem_mem hlt)
    simp only [go_sem,hlt,gt,gA,gO,gP,te,textN_len]
    refine N_loop (fun v : Nat=>⟨[(4,AStr t),(5,.own 1 t.length 0 2),(6,AStr ((List.range t.length).map fun i=>textN lg (rA i))),(8,AStr ((List.range t.length).map fun i=>textN lg (rO i))),(10,AStr ((List.range t.length).map fun i=>textN lg (rP i))),(12,AI i),(107,AI t.length),(108,AI i),(152,AI lg),(153,AI v)],[strm L a3,.row none (eI x :: eI y :: l.map eI) 2],[]⟩)
      (fun v=>v ≤ lg) (fun v=>lg - v) 0 rfl (by omega) ?_
    intro v hv
    rcases Nat.lt_or_ge v lg with hlt2 | hge2
    · have w3 : IntKind.i64.wrap ((v : Int) + 1) = ((v + 1 : Nat) : Int) := i64_wrap _ (by omega) (by omega)
      have tA:=textN_get (n:=rA i) hlt2
      have tO:=textN_get (n:=rO i) hlt2
      have tP:=textN_get (n:=rP i) hlt2
      have cA:=bitC_le (hAP i v)
      have cO:=bitC_le (hPO i v)
      simp only [go_sem,hlt2,gA,gO,gP,tA,tO,tP,cA,cO,w3]
      exact ⟨v + 1,rfl,by omega,by omega⟩
    · have hge2' : ¬ v < lg := by omega
      simp only [go_sem,hge2',w2]
      exact ⟨i + 1,rfl,by omega,by omega⟩
  · have hge' : ¬ i < t.length := by omega
    simp only [go_sem,hge']
    have ex:=natOf_int (k:=.i64) hx.1
    have ey:=natOf_int (k:=.i64) hy.1
    have hxn : x.toNat < t.length:=by omega
    have hyn : y.toNat < t.length:=by omega
    have gxA:=rg (fun i=>textN lg (rA i)) _ hxn
    have gxO:=rg (fun i=>textN lg (rO i)) _ hxn
    have gxP:=rg (fun i=>textN lg (rP i)) _ hxn
    have gyA:=rg (fun i=>textN lg (rA i)) _ hyn
    have gyO:=rg (fun i=>textN lg (rO i)) _ hyn
    have gyP:=rg (fun i=>textN lg (rP i)) _ hyn
    refine N_loop (fun j : Nat=>⟨[(5,.own 1 t.length 0 2),(189,.p (.sl none [.sl none (((List.range t.length).map fun i=>textN lg (rA i)).map PV.str),.sl none (((List.range t.length).map fun i=>textN lg (rO i)).map PV.str),.sl none (((List.range t.length).map fun i=>textN lg (rP i)).map PV.str)])),(190,AI 3),(191,AI j)],[strm L a3,.row none (eI x :: eI y :: l.map eI) 2],[]⟩)
      (fun j=>j ≤ 3) (fun j=>3 - j) 0 rfl (by omega) ?_
    intro j hj
    have w2 : IntKind.i64.wrap ((j : Int) + 1) = ((j + 1 : Nat) : Int):=i64_wrap _ (by omega) (by omega)
    have hl2 : 2 ≤ t.length:=hle
    match j,hj with
    | 0,_=>
      simp only [go_sem,hlen2,hle,ex,ey,hxn,hyn,gxA,gyA,sA,show ((0 : Nat) : Int) = 0 from rfl,show IntKind.i64.wrap 1 = 1 from rfl]
      exact ⟨1,rfl,by omega,by omega⟩
    | 1,_=>
      simp only [go_sem,hlen2,hle,ex,ey,hxn,hyn,gxO,gyO,sO,show ((1 : Nat) : Int) = 1 from rfl,show IntKind.i64.wrap 2 = 2 from rfl]
      exact ⟨2,rfl,by omega,by omega⟩
    | 2,_=>
      simp only [go_sem,hlen2,hle,ex,ey,hxn,hyn,gxP,gyP,sP,show ((2 : Nat) : Int) = 2 from rfl,show IntKind.i64.wrap 3 = 3 from rfl]
      exact ⟨3,rfl,by omega,by omega⟩
    | 3,_=>
      simp only [go_sem,show ((3 : Nat) : Int) = 3 from rfl,s_ready]
    | j + 4,h=>exact absurd h (by omega)
end Go.Am
end
section
/- From a law that is true here to the model's calls at what came in. -/
open Go
namespace Go.Am
variable {P : Program}
theorem law_nil {X : Ctx} (HX : Fits P X) {f : Nat} {F : AFun} (hF : X.fn f = some F) (H : ∀ L : List Int,ACall X f [pints L] [] fun v _ _=>v = .p (.bool true)) (W : World) (hG : GInv X.gl (imm [] [] W)) :
    Calls P f #[.slice none 0 0] W fun e W'=>e = .returned (.bool true) ∧ RowKit.Below W.heap.size W W':=by
  refine (calls_of HX hF (H []) (W:=W) (vs:=[.slice none 0 0]) hG rfl (fun j y v hy hv=>?_)).mono fun e W' he=>?_
  · cases j with
    | zero=>cases hy; cases hv; exact came_nil W
    | succ j=>cases hy
  · cases e with
    | returned r=>
      obtain ⟨⟨v,h,x,μ,hk,hr⟩,hb⟩:=he
      subst hk
      exact ⟨by rw [hr.p_bool],hb⟩
    | panicked _=>exact he.elim
    | outgrown=>exact he.elim
theorem law_ints {X : Ctx} (HX : Fits P X) {f : Nat} {F : AFun} (hF : X.fn f = some F) (H : ∀ L : List Int,ACall X f [pints L] [] fun v _ _=>v = .p (.bool true)) {W : World} (hG : GInv X.gl (imm [] [] W)) {a : Addr} {len cap : Nat} {zs : List Int}
    (hl : len ≤ cap) (hz : len ≤ zs.length) (hc : ∀ i,i < zs.length → W.cell? (a.add i) = some (.int .i64 (zs.getD i 0))) :
    Calls P f #[.slice (some a) len cap] W fun e W'=>e = .returned (.bool true) ∧ RowKit.Below W.heap.size W W':=by
  refine (calls_of HX hF (H (zs.take len)) (W:=W) (vs:=[.slice (some a) len cap]) hG rfl (fun j y v hy hv=>?_)).mono fun e W' he=>?_
  · cases j with
    | zero=>
      cases hy; cases hv
      rcases Nat.eq_zero_or_pos len with h0 | h0
      · subst h0
        exact .p _ _ (.nils _ _ _)
      · exact came_ints (by simpa [Addr.add] using World.cell?_spot (hc 0 (by omega))) hl hz hc
    | succ j=>cases hy
  · cases e with
    | returned r=>
      obtain ⟨⟨v,h,x,μ,hk,hr⟩,hb⟩:=he
      subst hk
      exact ⟨by rw [hr.p_bool],hb⟩
    | panicked _=>exact he.elim
    | outgrown=>exact he.elim
end Go.Am
namespace Go.ChangeShapes
open Go.RowKit Go.WideShapes
section
variable {H : Type} {enc : TypeId × Value → H} {P : Program}
end
end Go.ChangeShapes
end
section
/- The abstract machine,part L2: the kit's contracts asv rows. -/
set_option linter.unusedSimpArgs false
set_option linter.unusedVariables false
namespace Go.Am
variable {P : Program} {gl : Nat → Option PV}
open Go.Shelf
end Go.Am
end
section
/- The abstract machine,part L4: strings.Repeat,strings.Trim,math/bits.TrailingZeros64 asv rows. -/
set_option linter.all false
namespace Go.Am
variable {P : Program} {gl : Nat → Option PV}
open Go.Shelf
theorem below_ext {w w' : World} (h : Go.RowKit.Below w.heap.size w w') : WExt w w':=⟨h.size,fun b hb=>h.block b hb,by unfold zed; rw [h.os,h.tape,h.output]⟩
theorem lib_rep (s : List UInt8) : ∀ c,Go.Lib.repeatL s c = repL s c
  | 0=>rfl
  | c + 1=>by rw [Go.Lib.repeatL,repL,lib_rep s c]
theorem repeatRow {ρ : Ren} (L : Go.Proofs.Lays.n105 P ρ) (E : Go.Proofs.Builder.Extra P ρ) (he : ∀ us w,(callFunc (ρ.f 105) us).run P w = .ok (.enter (ρ.f 105) us) w) : PureRow P gl (ρ.f 105) repeatS where
  enter:=he
  run M w vs r us hc hb hG hl hr hs:=by
    unfold repeatS at hs
    split at hs
    · rename_i s c
      split at hs
      · rename_i hbd
        match us,hl with
        | [u,v],_=>
          have q:=hr 0 _ u rfl rfl
          cases q
          have q2:=hr 1 _ v rfl rfl
          cases q2
          simp only [Option.some.injEq] at hs
          subst hs
          obtain ⟨n,rfl⟩:=Int.eq_ofNat_of_zero_le hbd.1
          have hsz : (⟨s.toArray⟩ : ByteArray).size = s.length:=by simp [ByteArray.size]
          simp only [Int.toNat_natCast] at hbd ⊢
          refine (Go.Proofs.Any.strings_Repeat L E ⟨s.toArray⟩ n w (by omega) (by rw [hsz]; omega)).mono fun e w' h=>?_
          obtain ⟨rfl,h⟩:=h
          exact ⟨_,rfl,below_ext h,by rw [lib_rep]; exact .p _ _ (.str _)⟩
      · cases hs
    · cases hs
theorem lib_trim (s cs : List UInt8) : Go.Lib.trimS s cs = trimL s cs:=rfl
theorem trimRow {ρ : Ren} (L : Go.Proofs.Lays.n160 P ρ) (h116 : (P.info? (ρ.t 116)).map (fun i=>(i.zero,i.size)) = some (some (.agg (Array.replicate 256 (.bool false))),256)) (he : ∀ us w,(callFunc (ρ.f 160) us).run P w = .ok (.enter (ρ.f 160) us) w) : PureRow P gl (ρ.f 160) trimS where
  enter:=he
  run M w vs r us hc hb hG hl hr hs:=by
    unfold trimS at hs
    split at hs
    · rename_i s cs
      split at hs
      · rename_i hbd
        match us,hl with
        | [u,v],_=>
          have q:=hr 0 _ u rfl rfl
          cases q
          have q2:=hr 1 _ v rfl rfl
          cases q2
          simp only [Option.some.injEq] at hs
          subst hs
          have hsz : ∀ l : List UInt8,(⟨l.toArray⟩ : ByteArray).size = l.length:=fun l=>by simp [ByteArray.size]
          refine (Go.Proofs.Any.strings_Trim_laid L h116 ⟨s.toArray⟩ ⟨cs.toArray⟩ w (by rw [hsz]; omega) (by rw [hsz]; omega) (Go.Proofs.ascii_of_all hbd.2.2)).mono fun e w' h=>?_
          obtain ⟨rfl,h⟩:=h
          exact ⟨_,rfl,below_ext h,by rw [← lib_trim]; exact .p _ _ (.str _)⟩
      · cases hs
    · cases hs
end Go.Am
end
