/- Texts of the proof, laid together: SpCnt, SpCnt2, SpInts, SpPar, SpPar2, SpDelT, SpRcv, SpSit, SpBin, SpLawUC, Bridge, AmL2. -/
import Derived.ProofKit
import Derived.Shelf.Strconv.Itoa3
import Derived.Lib.LaidTab
import Derived.Test.YtdebeaaghenmpaaGreatDoorlawUC9
set_option linter.all false
section
/- Final bins,both ways. -/
open Go
set_option linter.all false
namespace Go.Am
variable {h : Heap} {K : Post}
theorem limsFaultFrom_all : ∀ {l pre : List Lim},limsFaultFrom pre l = 0 → ∀ x ∈ l,limBad x = false
  | [],_,_,x,hx=>by cases hx
  | y :: l,pre,hf,x,hx=>by
    unfold limsFaultFrom at hf
    split at hf
    · cases hf
    · split at hf
      · cases hf
      · split at hf
        · cases hf
        · rename_i hb
          rcases List.mem_cons.1 hx with e | e
          · subst e; simpa using hb
          · exact limsFaultFrom_all hf x e
theorem lims_bin {l : List Lim} (hf : limsFault l = 0) : ∀ x ∈ l,2 ≤ x.bin ∧ x.bin ≤ 100:=by
  unfold limsFault at hf
  split at hf
  · cases hf
  · split at hf
    · cases hf
    · intro x hx
      have:=limsFaultFrom_all hf x hx
      unfold limBad inB at this
      simp at this
      omega
theorem binR_bd {l : List Lim} (hf : limsFault l = 0) (x : Rec) : 1 ≤ binR l x ∧ binR l x ≤ 100 ∧ (binR l x = 1 ↔ badR l x = false):=by
  have hb:=lims_bin hf
  unfold binR binV badR
  rcases failIdx_cases l x.res with ⟨e,_⟩ | ⟨k,e,hk,_⟩
  · rw [e]; simp
  · rw [e]
    have hkl : k < l.length:=by unfold goods at hk; simp at hk; omega
    have:=hb l[k] (List.getElem_mem hkl)
    rw [if_pos (by omega),Int.toNat_natCast,List.getD_eq_getElem?_getD,List.getElem?_eq_getElem hkl,Option.getD_some]
    refine ⟨by omega,by omega,?_⟩
    constructor
    · intro h; omega
    · intro h; simp at h
theorem recsFault_lims {l : List Lim} {r : List Rec} (h : recsFault l r = 0) : limsFault l = 0:=by
  unfold recsFault at h
  split at h
  · rename_i h1; exact absurd h h1
  · rename_i h1
    by_cases h2 : limsFault l = 0
    · exact h2
    · exact absurd h2 h1
theorem s_FinalOf (l : List Lim) (r : List Rec) (ru : Int) (hl : LimOk l) (hr : ∀ x ∈ r,RecOk x) (hn : r.length ≤ 12) (hf : limsFault l = 0) :
    ACall X f_q04t [ALim l,ARec r,AI ru] h K = K (ASS (finalQ l ru r)) h []:=by
  refine rule ?_
  rw [c_q04t rfl]
  have q1:=fun h K=>s_units (h:=h) (K:=K) r hn
  have hul : (unitsL r).length ≤ 12:=by rw [← finL_units l ru r]; have:=finL_len l ru r; simp; omega
  have hne : ∀ u ∈ unitsL r,ofU r u ≠ []:=fun u hu=>ofU_ne hu
  have hcm : ∀ u ∈ unitsL r,cntL l ru (ofU r u) ∈ r:=fun u hu=>cnt_mem hu
  unfold finalQ
  have ug:=fun k (hk : k < (unitsL r).length)=>uRow_get r hk
  have ul:=uRow_len r
  have hle:=units_le r
  simp only [d_q04t,go_sem,↓q1,q1]
  generalize uRow r = ur at *
  generalize unitsL r = us at *
  refine N_loop (fun k : Nat=>⟨[(0,ALim l),(1,ARec r),(2,AI ru),(7,.own h.length k 0 k),(13,.own (h.length + 1) r.length 0 us.length),(14,AI us.length),(15,AI k)],h ++ [.row (some 2) (((us.take k).map fun u=>(u,itoa (binR l (cntL l ru (ofU r u))))).map ssPv) 0,.row none ur 0],[]⟩)
    (fun k=>k ≤ us.length) (fun k=>us.length - k) 0 rfl (by omega) ?_
  intro k hk
  rcases Nat.lt_or_ge k us.length with hlt | hge
  · have hg := ug k hlt
    have w2 : IntKind.i64.wrap ((k : Int) + 1) = ((k + 1 : Nat) : Int):=i64_wrap _ (by omega) (by omega)
    have hmx : k + 1 ≤ maxSl:=by unfold maxSl; omega
    have hln : min k us.length = k:=by omega
    have hum:=List.getElem_mem hlt
    have et : ((us.take (k + 1)).map fun u=>(u,itoa (binR l (cntL l ru (ofU r u))))).map ssPv = ((us.take k).map fun u=>(u,itoa (binR l (cntL l ru (ofU r u))))).map ssPv ++ [ssPv (us[k],itoa (binR l (cntL l ru (ofU r us[k]))))]:=by rw [List.take_succ_eq_append_getElem hlt,List.map_append,List.map_append]; rfl
    have q2:=fun h K=>s_counts (h:=h) (K:=K) l r us[k] ru hl.n (fun x hx=>(hr x hx).n) (by omega) (hne _ hum)
    have hcr:=hr _ (hcm _ hum)
    generalize cntL l ru (ofU r us[k]) = c at *
    have q3:=fun h K=>s_BinOf (h:=h) (K:=K) l c hl hcr
    have hbd:=binR_bd hf c
    have q4:=fun h K=>s_Itoa (h:=h) (K:=K) (binR l c) (by omega) (by omega)
    have ebr : binV l (failIdx l c.res) = binR l c:=rfl
    rw [ebr] at q3
    simp only [Rec.pv] at q2 q3
    simp only [ssPv] at et
    simp only [go_sem,hlt,hg,ul,hle,w2,hmx,hln,List.length_take,↓q2,q2,↓q3,q3,↓q4,q4]
    refine ⟨k + 1,?_,by omega,by omega⟩
    simp only [et]
  · have ek : k = us.length := by omega
    subst ek
    simp only [go_sem,Nat.lt_irrefl,List.take_length]
    rw [win_full (by simp)]
attribute [-go_sem] oLook oMupd
def kI (n : Int) : PV:=.int .i64 n
def vI (n : Int) : AV:=.p (.int .i64 n)
def kS (s : List UInt8) : PV:=.str s
def cmap (l : List Lim) (xs : List Rec) : List (Int × Int):=xs.foldl (fun m x=>updM (binR l x) ((getM (binR l x) m).getD 0 + 1) m) []
theorem cmap_get (l : List Lim) (b : Int) : ∀ (xs : List Rec) (m : List (Int × Int)),(getM b (xs.foldl (fun m x=>updM (binR l x) ((getM (binR l x) m).getD 0 + 1) m) m)).getD 0 = (getM b m).getD 0 + (xs.countP fun x=>decide (binR l x = b) : Nat)
  | [],m=>by simp
  | x :: xs,m=>by
    simp only [List.foldl_cons]
    rw [cmap_get l b xs,get_upd,List.countP_cons]
    by_cases hb : b = binR l x
    · subst hb; simp; omega
    · have : ¬ binR l x = b := fun e => hb e.symm
      simp [hb,this]
theorem cmap_cnt (l : List Lim) (b : Int) (xs : List Rec) : (getM b (cmap l xs)).getD 0 = (xs.countP fun x=>decide (binR l x = b) : Nat):=by
  have:=cmap_get l b xs []
  simpa [cmap,getM] using this
theorem lookI {hp : Heap} {id : Nat} {m : List (Int × Int)} {b : Int} (hh : hp[id]? = some (mobj kI vI m)) : oLook (none,[0]) false (AI 0) (.mp id) (AI b) hp = some (AI ((getM b m).getD 0)):=by
  have:=look_mes (key:=kI) (val:=vI) (fun a b=>keyI_int a b) hh (kk:=(none,[0])) (k:=b) keyOf_int (ok:=false) (z:=AI 0)
  rw [cond_false] at this
  refine this.trans ?_
  cases getM b m <;> rfl
theorem updI {hp : Heap} {id : Nat} {m : List (Int × Int)} {b v : Int} (hh : hp[id]? = some (mobj kI vI m)) : oMupd (none,[0]) (.mp id) (AI b) (AI v) hp = some (.und,hp.set id (mobj kI vI (updM b v m)),[]):=
  mupd_mes (key:=kI) (val:=vI) (fun a b=>keyI_int a b) hh (kk:=(none,[0])) (k:=b) keyOf_int (v:=v) rfl
theorem binsFrom_len (l : List Lim) (ru : Int) (r : List Rec) : ∀ (k b : Nat),(binsFrom l ru r b k).length ≤ k
  | 0,b=>by simp [binsFrom]
  | k + 1,b=>by
    have:=binsFrom_len l ru r k (b + 1)
    unfold binsFrom
    split <;> simp <;> omega
set_option maxHeartbeats 1000000 in
theorem s_Bins (l : List Lim) (r : List Rec) (ru : Int) (hl : LimOk l) (hr : ∀ x ∈ r,RecOk x) (hn : r.length ≤ 12) :
    ACall X f_q027 [ALim l,ARec r,AI ru] h K = K (if orL [recsFault l r,ruleF ru] = 0 then .tup [ASS (binsP l ru r),AI 0] else .tup [ASS [],AI (orL [recsFault l r,ruleF ru])]) h []:=by
  refine rule ?_
  rw [c_q027 rfl]
  have q1:=fun h K=>s_ruleFault (h:=h) (K:=K) l r ru hl hr (by omega)
  by_cases he : orL [recsFault l r,ruleF ru] = 0
  case neg=>
    simp only [d_q027,go_sem,↓q1,q1,he]
    rfl
  have hz : recsFault l r = 0:=by unfold orL at he; split at he <;> simp_all
  have hfm : ∀ x ∈ r,formB l x.res = true:=fun x hx=>recFault_form (recsFault_all hz x hx)
  have q2:=fun h K=>s_final (h:=h) (K:=K) l ru r hfm hl.n hn
  have hul : (finL l ru r).length ≤ 12:=by have:=finL_len l ru r; omega
  have hmem : ∀ x ∈ finL l ru r,formB l x.res = true:=fun x hx=>hfm x (finL_mem hx)
  have hnb : ∀ b,(getM b (cmap l (finL l ru r))).getD 0 = (nBin l ru r b : Nat):=fun b=>cmap_cnt l b _
  have hnl : ∀ b,nBin l ru r b ≤ 12:=fun b=>by
    have : nBin l ru r b ≤ (finL l ru r).length:=List.countP_le_length
    omega
  unfold binsP
  simp only [d_q027,go_sem,↓q1,q1,he,↓q2,q2]
  generalize finL l ru r = fs at *
  refine N_loop (fun k : Nat=>⟨[(0,ALim l),(9,.mp h.length),(25,ARec fs),(26,AI fs.length),(27,AI k)],h ++ [mobj kI vI (cmap l (fs.take k))],[]⟩)
    (fun k=>k ≤ fs.length) (fun k=>fs.length - k) 0 rfl (by omega) ?_
  intro k hk
  rcases Nat.lt_or_ge k fs.length with hlt | hge
  · have hg := map_get Rec.pv hlt
    have cx : cutP (some 4) 0 (fs[k].pv) = some fs[k].pv:=rfl
    have w2 : IntKind.i64.wrap ((k : Int) + 1) = ((k + 1 : Nat) : Int):=i64_wrap _ (by omega) (by omega)
    have hum:=List.getElem_mem hlt
    have et : cmap l (fs.take (k + 1)) = updM (binR l fs[k]) ((getM (binR l fs[k]) (cmap l (fs.take k))).getD 0 + 1) (cmap l (fs.take k)):=by
      unfold cmap; rw [List.take_succ_eq_append_getElem hlt,List.foldl_append]; rfl
    have hcf:=hmem _ hum
    have hct:=cmap_cnt l (binR l fs[k]) (fs.take k)
    have hcl : (fs.take k).countP (fun x=>decide (binR l x = binR l fs[k])) ≤ (fs.take k).length:=List.countP_le_length
    simp only [List.length_take] at hcl
    generalize cmap l (fs.take k) = m at *
    generalize hcc : (fs.take k).countP (fun x=>decide (binR l x = binR l fs[k])) = cc at *
    generalize fs[k] = c at *
    have q3:=fun h K=>s_binOf (h:=h) (K:=K) l c hcf hl.n
    have ebr : binV l (failIdx l c.res) = binR l c:=rfl
    rw [ebr] at q3
    have w3 : IntKind.i64.wrap ((getM (binR l c) m).getD 0 + 1) = (getM (binR l c) m).getD 0 + 1:=i64_wrap _ (by omega) (by omega)
    have lk:=fun (hp : Heap) (b : Int) (hh : hp[h.length]? = some (mobj kI vI m))=>lookI (b:=b) hh
    have ud:=fun (hp : Heap) (b v : Int) (hh : hp[h.length]? = some (mobj kI vI m))=>updI (b:=b) (v:=v) hh
    simp only [Rec.pv] at q3 hg cx
    simp only [go_sem,hlt,hg,cx,w2,↓q3,q3,lk,ud,w3]
    refine ⟨k + 1,?_,by omega,by omega⟩
    simp only [et]
  · have ek : k = fs.length := by omega
    subst ek
    rw [List.take_length]
    generalize cmap l fs = m at *
    have lk:=fun (hp : Heap) (b : Int) (hh : hp[h.length]? = some (mobj kI vI m))=>lookI (b:=b) hh
    simp only [go_sem,Nat.lt_irrefl]
    refine N_loop (fun b : Nat=>⟨[(9,.mp h.length),(12,.own (h.length + 1) (binsFrom l ru r 1 b).length 0 (binsFrom l ru r 1 b).length),(13,AI ((b + 1 : Nat) : Int))],h ++ [mobj kI vI m,.row (some 2) ((binsFrom l ru r 1 b).map ssPv) 0],[]⟩)
      (fun b=>b ≤ 100) (fun b=>100 - b) 0 rfl (by omega) ?_
    intro b hb
    by_cases hlt : b < 100
    · have hlt' : ((b + 1 : Nat) : Int) ≤ 100 := by omega
      have w2 : IntKind.i64.wrap (((b + 1 : Nat) : Int) + 1) = ((b + 1 + 1 : Nat) : Int):=i64_wrap _ (by omega) (by omega)
      have hbl:=binsFrom_len l ru r b 1
      have hmx : (binsFrom l ru r 1 b).length + 1 ≤ maxSl:=by unfold maxSl; omega
      have hsn:=binsFrom_snoc l ru r b 1
      rw [show 1 + b = b + 1 by omega] at hsn
      have hnn:=hnl ((b + 1 : Nat) : Int)
      have hnb1:=hnb ((b + 1 : Nat) : Int)
      have q3:=fun h K=>s_Itoa (h:=h) (K:=K) ((b + 1 : Nat) : Int) (by omega) (by omega)
      by_cases hpos : 0 < nBin l ru r ((b + 1 : Nat) : Int)
      · rw [if_pos hpos] at hsn
        have hpos' : (0 : Int) < (nBin l ru r ((b + 1 : Nat) : Int) : Nat):=by omega
        have q4:=fun h K=>s_pair (h:=h) (K:=K) (itoa ((b + 1 : Nat) : Int)) (nBin l ru r ((b + 1 : Nat) : Int)) (by omega) (by omega)
        simp only [ssPv] at q4
        generalize nBin l ru r ((b + 1 : Nat) : Int) = c at *
        have em : (binsFrom l ru r 1 b).map ssPv ++ [PV.agg [.str (itoa ((b + 1 : Nat) : Int)),.str (itoa c)]] = (binsFrom l ru r 1 (b + 1)).map ssPv:=by rw [hsn,List.map_append]; rfl
        have el : (binsFrom l ru r 1 b).length + 1 = (binsFrom l ru r 1 (b + 1)).length:=by rw [hsn]; simp
        simp only [go_sem,hlt',lk,hnb1,hpos',↓q3,q3,↓q4,q4,hmx,w2]
        refine ⟨b + 1,?_,by omega,by omega⟩
        rw [em,el]
      · rw [if_neg hpos, List.append_nil] at hsn
        have hpos' : ¬ (0 : Int) < (nBin l ru r ((b + 1 : Nat) : Int) : Nat):=by omega
        generalize nBin l ru r ((b + 1 : Nat) : Int) = c at *
        simp only [go_sem,hlt',lk,hnb1,hpos',w2]
        refine ⟨b + 1,?_,by omega,by omega⟩
        rw [hsn]
    · have eb : b = 100 := by omega
      subst eb
      simp only [go_sem]
      rw [win_full (by simp)]
end Go.Am
end
section
/- Bins,the reference's way. -/
open Go
set_option linter.all false
namespace Go.Am
variable {h : Heap} {K : Post}
theorem countP_take_succ {α : Type} (p : α → Bool) (l : List α) (k : Nat) (hk : k < l.length) : (l.take (k + 1)).countP p = (l.take k).countP p + if p l[k] then 1 else 0:=by
  rw [List.take_succ_eq_append_getElem hk,List.countP_append]; simp [List.countP_cons]
set_option maxHeartbeats 1000000 in
theorem s_BinsOf (l : List Lim) (r : List Rec) (ru : Int) (hru : 1 ≤ ru ∧ ru ≤ 3) (hl : LimOk l) (hr : ∀ x ∈ r,RecOk x) (hn : r.length ≤ 12) (hf : limsFault l = 0) :
    ACall X f_q04r [ALim l,ARec r,AI ru] h K = K (ASS (binsP l ru r)) h []:=by
  refine rule ?_
  rw [c_q04r rfl]
  have q1:=fun h K=>s_FinalOf (h:=h) (K:=K) l r ru hl hr hn hf
  have hnb : ∀ b,(finalQ l ru r).countP (fun p=>decide (p.2 = itoa b)) = nBin l ru r b:=fun b=>nBin_eq l hru r b
  have hul : (finalQ l ru r).length ≤ 12:=by rw [← final_eq l hru r]; unfold finalP; simp; have:=finL_len l ru r; omega
  unfold binsP
  simp only [d_q04r,go_sem]
  refine N_loop (fun b : Nat=>⟨[(0,ALim l),(1,ARec r),(2,AI ru),(7,.own h.length (binsFrom l ru r 1 b).length 0 (binsFrom l ru r 1 b).length),(8,AI ((b + 1 : Nat) : Int))],h ++ [.row (some 2) ((binsFrom l ru r 1 b).map ssPv) 0],[]⟩)
    (fun b=>b ≤ 100) (fun b=>100 - b) 0 rfl (by omega) ?_
  intro b hb
  by_cases hlt : b < 100
  · have hlt' : ((b + 1 : Nat) : Int) ≤ 100 := by omega
    have w2 : IntKind.i64.wrap (((b + 1 : Nat) : Int) + 1) = ((b + 1 + 1 : Nat) : Int):=i64_wrap _ (by omega) (by omega)
    have hbl:=binsFrom_len l ru r b 1
    have hmx : (binsFrom l ru r 1 b).length + 1 ≤ maxSl:=by unfold maxSl; omega
    have hsn:=binsFrom_snoc l ru r b 1
    rw [show 1 + b = b + 1 by omega] at hsn
    have hnn : nBin l ru r ((b + 1 : Nat) : Int) ≤ 12:=by rw [← hnb]; exact Nat.le_trans List.countP_le_length hul
    have hnb1:=hnb ((b + 1 : Nat) : Int)
    have q3:=fun h K=>s_Itoa (h:=h) (K:=K) ((b + 1 : Nat) : Int) (by omega) (by omega)
    simp only [go_sem,hlt',↓q1,q1]
    generalize finalQ l ru r = fq at *
    refine N_loop (fun k : Nat=>⟨[(0,ALim l),(1,ARec r),(2,AI ru),(7,.own h.length (binsFrom l ru r 1 b).length 0 (binsFrom l ru r 1 b).length),(8,AI ((b + 1 : Nat) : Int)),(9,AI ((fq.take k).countP fun p=>decide (p.2 = itoa ((b + 1 : Nat) : Int)) : Nat)),(19,ASS fq),(20,AI fq.length),(21,AI k)],h ++ [.row (some 2) ((binsFrom l ru r 1 b).map ssPv) 0],[]⟩)
      (fun k=>k ≤ fq.length) (fun k=>fq.length - k) 0 rfl (by omega) ?_
    intro k hk
    rcases Nat.lt_or_ge k fq.length with hlt2 | hge2
    · have hg := map_get ssPv hlt2
      have cx : cutP (some 2) 0 (ssPv fq[k]) = some (ssPv fq[k]):=rfl
      have w4 : IntKind.i64.wrap ((k : Int) + 1) = ((k + 1 : Nat) : Int):=i64_wrap _ (by omega) (by omega)
      have hct:=countP_take_succ (fun p : SS=>decide (p.2 = itoa ((b + 1 : Nat) : Int))) fq k hlt2
      have hcl : (fq.take k).countP (fun p=>decide (p.2 = itoa ((b + 1 : Nat) : Int))) ≤ (fq.take k).length:=List.countP_le_length
      simp only [List.length_take] at hcl
      generalize (fq.take k).countP (fun p=>decide (p.2 = itoa ((b + 1 : Nat) : Int))) = cc at *
      have w5 : IntKind.i64.wrap ((cc : Int) + 1) = ((cc + 1 : Nat) : Int):=i64_wrap _ (by omega) (by omega)
      simp only [ssPv] at hg cx
      by_cases hp : fq[k].2 = itoa ((b + 1 : Nat) : Int)
      · simp only [hp, decide_true, if_true] at hct
        simp only [go_sem,hlt2,hg,cx,↓q3,q3,hp,w4,w5]
        refine ⟨k + 1,?_,by omega,by omega⟩
        rw [hct]
      · simp only [hp, decide_false, Bool.false_eq_true, if_false, Nat.add_zero] at hct
        simp only [go_sem,hlt2,hg,cx,↓q3,q3,hp,w4]
        refine ⟨k + 1,?_,by omega,by omega⟩
        rw [hct]
    · have ek : k = fq.length := by omega
      subst ek
      rw [List.take_length,hnb1]
      generalize nBin l ru r ((b + 1 : Nat) : Int) = c at *
      have q4:=fun h K=>s_Itoa (h:=h) (K:=K) (c : Int) (by omega) (by omega)
      by_cases hpos : 0 < c
      · rw [if_pos hpos] at hsn
        have hpos' : (0 : Int) < (c : Int):=by omega
        have em : (binsFrom l ru r 1 b).map ssPv ++ [PV.agg [.str (itoa ((b + 1 : Nat) : Int)),.str (itoa c)]] = (binsFrom l ru r 1 (b + 1)).map ssPv:=by rw [hsn,List.map_append]; rfl
        have el : (binsFrom l ru r 1 b).length + 1 = (binsFrom l ru r 1 (b + 1)).length:=by rw [hsn]; simp
        simp only [go_sem,Nat.lt_irrefl,hpos',↓q3,q3,↓q4,q4,hmx,w2]
        refine ⟨b + 1,?_,by omega,by omega⟩
        rw [em,el]
      · rw [if_neg hpos, List.append_nil] at hsn
        have hpos' : ¬ (0 : Int) < (c : Int):=by omega
        simp only [go_sem,Nat.lt_irrefl,hpos',w2]
        refine ⟨b + 1,?_,by omega,by omega⟩
        rw [hsn]
  · have eb : b = 100 := by omega
    subst eb
    simp only [go_sem]
    rw [win_full (by simp)]
end Go.Am
end
section
/- Stable sorts of numbers: printed by program. -/
open Go
set_option linter.unusedSimpArgs false
namespace Go.Am
attribute [-go_sem] PV.cells splice
variable {h : Heap} {K : Post}
theorem insCmp_int (id n : Nat) (l tl : List PV) (hn : n = l.length + tl.length) (hs : shps none l) (hl : l.length ≤ 1000) (hh : h[id]? = some (.row none (l ++ tl) 0)) {g : Nat} {caps : List AV} {c : PV → PV → Int} (hc : Cmps g caps c l id h) :
    ACall X f_q072 [.own id n 0 l.length,AI 0,AI l.length,.fn g caps] h K = K (.tup []) (h.set id (.row none (isort (ltC c) l ++ tl) 0)) []:=by
  refine rule ?_
  rw [c_q072]
  have hid:=get_lt hh
  have hst : ∀ o,(h.set id o)[id]? = some o:=fun o=>set_get' hid
  simp only [d_q072,go_sem,show IntKind.i64.wrap 1 = 1 from rfl]
  refine N_loop (fun i : Nat=>⟨[(0,.own id n 0 l.length),(1,AI 0),(2,AI l.length),(3,.fn g caps),(8,AI i)],h.set id (.row none ((isortR (ltC c) (l.take i)).reverse ++ (l.drop i ++ tl)) 0),[]⟩) (fun i=>1 ≤ i ∧ (i ≤ l.length ∨ i = 1)) (fun i=>l.length - i) 1 ?_ (by simp) ?_
  · have : (isortR (ltC c) (l.take 1)).reverse ++ (l.drop 1 ++ tl) = l ++ tl := by cases l <;> rfl
    rw [this,set_self hh]; rfl
  rintro i ⟨hi1,hi2⟩
  rcases Nat.lt_or_ge i l.length with hlt | hge
  · simp only [go_sem, hlt]
    have hxl : l[i] ∈ l:=List.getElem_mem hlt
    generalize hx : l[i] = x at *
    generalize hR : isortR (ltC c) (l.take i) = R
    have hRl : R.length = i:=by rw [← hR,isortR_len]; simp; omega
    have hRm : ∀ z ∈ R,z ∈ l:=fun z hz=>List.mem_of_mem_take ((isortR_perm (ltC c) (l.take i)).mem_iff.1 (by rw [hR]; exact hz))
    have hdrop : l.drop i = x :: l.drop (i + 1):=by rw [← hx]; exact List.drop_eq_getElem_cons hlt
    have hnext : isortR (ltC c) (l.take (i + 1)) = insR (ltC c) x R:=by rw [isortR_take_succ _ _ _ hlt,hR,hx]
    refine N_loop (fun t : List PV × List PV=>⟨[(0,.own id n 0 l.length),(1,AI 0),(2,AI l.length),(3,.fn g caps),(8,AI i),(9,AI t.1.length)],h.set id (.row none (t.1.reverse ++ x :: t.2) 0),[]⟩)
      (fun t=>∃ B,R = B ++ t.1 ∧ t.2 = B.reverse ++ (l.drop (i + 1) ++ tl) ∧ ∀ b ∈ B,ltC c x b = true) (fun t=>t.1.length) (R,l.drop (i + 1) ++ tl) (by rw [hdrop,hRl]; rfl) ⟨[],rfl,rfl,by simp⟩ ?_
    rintro ⟨A,C⟩ ⟨B,q1,q2,q3⟩
    dsimp only at q1 q2 q3
    have hlen : (A.reverse ++ x :: C).length = n:=by
      have : R.length = B.length + A.length:=by rw [q1]; simp
      rw [q2]; simp; omega
    have hBA : B.length + A.length < l.length:=by
      have : R.length = B.length + A.length:=by rw [q1]; simp
      omega
    have hln : l.length ≤ n:=by omega
    have w1 : IntKind.i64.wrap ((i : Int) + 1) = ((i + 1 : Nat) : Int):=i64_wrap _ (by omega) (by omega)
    cases A with
    | nil=>
      have hd : insR (ltC c) x R = B ++ [x]:=by rw [q1]; exact ins_done (ltC c) x [] B q3 (fun y r h=>by cases h)
      simp only [go_sem,Int.lt_irrefl,w1]
      refine ⟨i + 1,?_,by omega,by omega⟩
      simp only [hnext,hd,q2,List.reverse_append,List.reverse_nil,List.nil_append,List.reverse_cons,List.append_assoc,List.cons_append]
    | cons y A=>
      have hyl : y ∈ l:=hRm y (by rw [q1]; simp)
      have g1:=ins_get (y :: A) C x
      have g2:=ins_get1 A C x y
      have sw:=ins_swap A C x y
      simp only [List.length_cons] at hBA
      generalize hrow : (y :: A).reverse ++ x :: C = row at *
      simp only [List.length_cons] at g1
      have w2 : IntKind.i64.wrap (((A.length + 1 : Nat) : Int) - 1) = (A.length : Int):=by rw [i64_wrap _ (by omega) (by omega)]; omega
      have p1 : (0 : Int) < ((A.length + 1 : Nat) : Int):=by omega
      have b1 : A.length + 1 < l.length:=by omega
      have b2 : A.length < l.length:=by omega
      have cx:=shp_cut (hs x hxl)
      have cy:=shp_cut (hs y hyl)
      have hcc:=fun o K=>hc o x hxl y hyl K
      by_cases hxy : c x y < 0
      · have g3 : (row.set (A.length + 1) y)[A.length]? = some y := by rw [List.getElem?_set_ne (by omega), g2]
        have lx:=shp_len (hs x hxl)
        have ly:=shp_len (hs y hyl)
        have sx:=shp_all (hs x hxl)
        have sy:=shp_all (hs y hyl)
        simp only [shSize] at lx ly
        have t1:=fun i xs h1=>shp_st (hs x hxl) (hs y hyl) id i 0 xs h1
        have t2:=fun i xs h1=>shp_st (hs y hyl) (hs x hxl) id i 0 xs h1
        simp only [go_sem,hst,p1,hlen,g1,g2,g3,w2,b1,b2,hln,cx,cy,hcc,hxy,lx,ly,sx,sy,t1,t2,sw]
        refine ⟨(A,y :: C),rfl,⟨B ++ [y],by simp [q1],by simp [q2],fun b hb=>?_⟩,by simp⟩
        rw [List.mem_append,List.mem_singleton] at hb
        rcases hb with hb | rfl
        · exact q3 b hb
        · simpa [ltC] using hxy
      · have hd : insR (ltC c) x R = B ++ x :: y :: A := by rw [q1]; exact ins_done (ltC c) x (y :: A) B q3 (fun z r h => by cases h; simpa [ltC] using hxy)
        simp only [go_sem,hst,p1,hlen,g1,g2,w2,b1,b2,hln,cx,cy,hcc,hxy,w1]
        refine ⟨i + 1,?_,by omega,by omega⟩
        simp only [hnext,hd,← hrow,q2,List.reverse_append,List.reverse_cons,List.append_assoc,List.cons_append,List.nil_append]
  · have hge' : ¬ i < l.length := by omega
    have e1 : l.take i = l:=List.take_of_length_le hge
    have e2 : l.drop i = []:=List.drop_of_length_le hge
    simp only [go_sem,hge',e1,e2]
    rfl
theorem stable_int (id : Nat) (l : List PV) (hs : shps none l) (hl : l.length ≤ 19) (hh : h[id]? = some (.row none l 0)) {g : Nat} {caps : List AV} {c : PV → PV → Int} (hc : Cmps g caps c l id h) :
    ACall X f_q06p [.own id l.length 0 l.length,.fn g caps] h K = K (.tup []) (h.set id (.row none (isort (ltC c) l) 0)) []:=by
  refine rule ?_
  rw [c_q06p]
  have key : ∀ K : Post,ACall X f_q080 [.own id l.length 0 l.length,AI l.length,.fn g caps] h K = K (.tup []) (h.set id (.row none (isort (ltC c) l) 0)) []:=by
    intro K
    refine rule ?_
    rw [c_q080]
    have is:=fun K=>insCmp_int (h:=h) (K:=K) id l.length l [] rfl hs (by omega) (by rw [List.append_nil]; exact hh) hc
    simp only [List.append_nil] at is
    have b1 : ¬ ((20 : Int) ≤ (l.length : Int)):=by omega
    have b2 : ¬ ((20 : Int) < (l.length : Int)):=by omega
    simp only [d_q080,go_sem]
    refine N_loop (fun _ : Unit=>⟨[(0,.own id l.length 0 l.length),(1,AI l.length),(2,.fn g caps),(6,AI 20),(7,AI 0),(8,AI 20)],h,[]⟩) (fun _=>True) (fun _=>0) () rfl trivial ?_
    intro _ _
    simp only [go_sem,b1,is]
    refine N_loop (fun _ : Unit=>⟨[(0,.own id l.length 0 l.length),(1,AI l.length),(2,.fn g caps),(6,AI 20)],h.set id (.row none (isort (ltC c) l) 0),[]⟩) (fun _=>True) (fun _=>0) () rfl trivial ?_
    intro _ _
    simp only [go_sem,b2]
  simp only [d_q06p,go_sem,key]
end Go.Am
end
section
/- How often tests are failed,both ways. -/
open Go
set_option linter.all false
namespace Go.Am
variable {h : Heap} {K : Post}
def cntsL (l : List Lim) (xs : List Rec) : List Int:=(List.range l.length).map fun i : Nat=>((xs.countP fun x=>decide (failIdx l x.res = (i : Int)) : Nat) : Int)
theorem cntsL_len (l : List Lim) (xs : List Rec) : (cntsL l xs).length = l.length:=by simp [cntsL]
theorem cntsL_get (l : List Lim) (xs : List Rec) (i : Nat) (hi : i < l.length) : (cntsL l xs)[i]? = some ((xs.countP fun x=>decide (failIdx l x.res = (i : Int)) : Nat) : Int):=by simp [cntsL,hi]
theorem cntsL_hit (l : List Lim) (xs : List Rec) (c : Rec) (i : Nat) (hi : i < l.length) (hc : failIdx l c.res = (i : Int)) : cntsL l (xs ++ [c]) = (cntsL l xs).set i (((xs.countP fun x=>decide (failIdx l x.res = (i : Int)) : Nat) : Int) + 1):=by
  apply List.ext_getElem?
  intro j
  rw [List.getElem?_set]
  by_cases hij : i = j
  · subst hij
    rw [if_pos rfl,if_pos (by rw [cntsL_len]; exact hi),cntsL_get l _ i hi]
    simp [List.countP_append,hc]
  · rw [if_neg hij]
    rcases Nat.lt_or_ge j l.length with hj | hj
    · rw [cntsL_get l _ j hj, cntsL_get l _ j hj]
      have : ¬ failIdx l c.res = (j : Int):=by rw [hc]; omega
      simp [List.countP_append,this]
    · rw [List.getElem?_eq_none (by rw [cntsL_len]; exact hj),List.getElem?_eq_none (by rw [cntsL_len]; exact hj)]
theorem cntsL_miss (l : List Lim) (xs : List Rec) (c : Rec) (hc : failIdx l c.res < 0) : cntsL l (xs ++ [c]) = cntsL l xs:=by
  unfold cntsL
  refine List.map_congr_left fun j _=>?_
  have : ¬ failIdx l c.res = (j : Int):=by omega
  simp [List.countP_append,this]
theorem cntsL_nil (l : List Lim) : cntsL l [] = List.replicate l.length 0:=by
  unfold cntsL
  rw [List.eq_replicate_iff]
  refine ⟨by simp,fun x hx=>?_⟩
  obtain ⟨i,_,e⟩:=List.mem_map.1 hx
  simpa using e.symm
theorem cmp3_lt (x y : Int) : (cmp3 x y < 0) ↔ x < y:=by unfold cmp3; split <;> (try split) <;> omega
def unI64 : PV → Int
  | .int _ n=>n
  | _=>0
theorem s_Pareto1 (cs : List Int) (a b : Nat) (id1 id2 : Nat) (ha : a < cs.length) (hb : b < cs.length) (hh1 : h[id1]? = some (.row none (cs.map eI) 0)) (hh2 : h[id2]? = some (.box [.own id1 cs.length 0 cs.length])) :
    ACall X f_q02g [AI a,AI b,.ref id2 0] h K = K (AI (cmp3 cs[b] cs[a])) h []:=by
  refine rule ?_
  rw [c_q02g rfl]
  have g1:=map_get eI ha
  have g2:=map_get eI hb
  simp only [d_q02g,go_sem,hh1,hh2,ha,hb,g1,g2,s_cmpCompare]
attribute [-go_sem] oLook oMupd
set_option maxHeartbeats 2000000 in
theorem s_Pareto (l : List Lim) (r : List Rec) (ru : Int) (hl : LimOk l) (hl2 : l.length ≤ 19) (hr : ∀ x ∈ r,RecOk x) (hn : r.length ≤ 12) :
    ACall X f_q02f [ALim l,ARec r,AI ru] h K = K (if orL [recsFault l r,ruleF ru] = 0 then .tup [ASS (paretoP l ru r),AI 0] else .tup [ASS [],AI (orL [recsFault l r,ruleF ru])]) h []:=by
  refine rule ?_
  rw [c_q02f rfl]
  have q1:=fun h K=>s_ruleFault (h:=h) (K:=K) l r ru hl hr (by omega)
  by_cases he : orL [recsFault l r,ruleF ru] = 0
  case neg=>
    simp only [d_q02f,go_sem,↓q1,q1,he]
    rfl
  have hz : recsFault l r = 0:=by unfold orL at he; split at he <;> simp_all
  have hfm : ∀ x ∈ r,formB l x.res = true:=fun x hx=>recFault_form (recsFault_all hz x hx)
  have q2:=fun h K=>s_final (h:=h) (K:=K) l ru r hfm hl.n hn
  have hul : (finL l ru r).length ≤ 12:=by have:=finL_len l ru r; omega
  have hmem : ∀ x ∈ finL l ru r,formB l x.res = true:=fun x hx=>hfm x (finL_mem hx)
  have hnf : ∀ i,nFail l ru r i ≤ 12:=fun i=>by have:=nFail_le l ru r i; omega
  have hcf : ∀ i (hi : i < l.length),(cntsL l (finL l ru r))[i]? = some ((nFail l ru r i : Nat) : Int):=fun i hi=>cntsL_get l _ i hi
  have hms : (l.length : Int) = ((l.length : Nat) : Int):=rfl
  have hmx : l.length ≤ maxSl:=by unfold maxSl; omega
  have hb0 : ¬ (h.length + 1 < h.length + 1):=by omega
  unfold paretoP
  simp only [d_q02f,go_sem,↓q1,q1,he,↓q2,q2,hmx,escOf]
  generalize finL l ru r = fs at *
  refine N_loop (fun k : Nat=>⟨[(0,ALim l),(9,.ref (h.length + 1) 0),(32,ARec fs),(33,AI fs.length),(34,AI k)],h ++ [.row none ((cntsL l (fs.take k)).map eI) 0,.box [.own h.length l.length 0 l.length]],[]⟩)
    (fun k=>k ≤ fs.length) (fun k=>fs.length - k) 0 ?_ (by omega) ?_
  · simp only [List.take_zero, cntsL_nil, List.map_replicate, Nat.lt_irrefl, if_false]
    rfl
  intro k hk
  rcases Nat.lt_or_ge k fs.length with hlt | hge
  · have hg := map_get Rec.pv hlt
    have cx : cutP (some 4) 0 (fs[k].pv) = some fs[k].pv:=rfl
    have w2 : IntKind.i64.wrap ((k : Int) + 1) = ((k + 1 : Nat) : Int):=i64_wrap _ (by omega) (by omega)
    have hum:=List.getElem_mem hlt
    have et : fs.take (k + 1) = fs.take k ++ [fs[k]]:=List.take_succ_eq_append_getElem hlt
    have hcf2:=hmem _ hum
    have hcl : ∀ i : Nat,(fs.take k).countP (fun x=>decide (failIdx l x.res = (i : Int))) ≤ 12:=fun i=>by
      have : (fs.take k).countP (fun x=>decide (failIdx l x.res = (i : Int))) ≤ (fs.take k).length:=List.countP_le_length
      simp at this; omega
    have hln:=cntsL_len l (fs.take k)
    generalize fs[k] = c at *
    have q3:=fun h K=>s_failsF (h:=h) (K:=K) l c hcf2 hl.n
    simp only [Rec.pv] at q3 hg cx
    rcases failIdx_cases l c.res with ⟨e,_⟩ | ⟨i,e,hi,_⟩
    · have ec := cntsL_miss l (fs.take k) c (by omega)
      rw [e] at q3
      simp only [go_sem,hlt,hg,cx,w2,↓q3,q3]
      refine ⟨k + 1,?_,by omega,by omega⟩
      rw [et,ec]
    · have hil : i < l.length := by unfold goods at hi; simp at hi; omega
      have ec:=cntsL_hit l (fs.take k) c i hil e
      have gi:=cntsL_get l (fs.take k) i hil
      have hi0 : (0 : Int) ≤ (i : Int):=by omega
      have hcli:=hcl i
      rw [e] at q3
      generalize cntsL l (fs.take k) = cs at *
      generalize (fs.take k).countP (fun x=>decide (failIdx l x.res = (i : Int))) = cc at *
      have gm : (cs.map eI)[i]? = some (eI cc):=by rw [List.getElem?_map,gi]; rfl
      have w3 : IntKind.i64.wrap ((cc : Int) + 1) = (cc : Int) + 1:=i64_wrap _ (by omega) (by omega)
      have es : (cs.map eI).set i (PV.int .i64 ((cc : Int) + 1)) = (cs.set i ((cc : Int) + 1)).map eI:=by rw [List.map_set]
      simp only [go_sem,hlt,hg,cx,w2,↓q3,q3,hi0,hln,hil,gm,w3,es]
      refine ⟨k + 1,?_,by omega,by omega⟩
      rw [et,ec]
  · have ek : k = fs.length := by omega
    subst ek
    rw [List.take_length]
    have hln:=cntsL_len l fs
    generalize cntsL l fs = cs at *
    have hcg : ∀ i (hi : i < cs.length),cs[i] = ((nFail l ru r i : Nat) : Int):=fun i hi=>by
      have:=hcf i (by omega)
      rw [List.getElem?_eq_getElem hi] at this
      exact Option.some.inj this
    simp only [go_sem,Nat.lt_irrefl,hln]
    generalize hnF : nFail l ru r = nf at *
    refine N_loop (fun k : Nat=>⟨[(0,ALim l),(9,.ref (h.length + 1) 0),(13,.own (h.length + 2) ((List.range k).filter fun i=>decide (0 < nf i)).length 0 ((List.range k).filter fun i=>decide (0 < nf i)).length),(50,.own h.length l.length 0 l.length),(51,AI l.length),(52,AI k)],h ++ [.row none (cs.map eI) 0,.box [.own h.length l.length 0 l.length],.row none (((List.range k).filter fun i=>decide (0 < nf i)).map fun i : Nat=>eI i) 0],[]⟩)
      (fun k=>k ≤ l.length) (fun k=>l.length - k) 0 rfl (by omega) ?_
    intro k hk
    rcases Nat.lt_or_ge k l.length with hlt | hge
    · have hkc : k < cs.length := by omega
      have hg:=map_get eI hkc
      have hv:=hcg k hkc
      rw [hv] at hg
      have w2 : IntKind.i64.wrap ((k : Int) + 1) = ((k + 1 : Nat) : Int):=i64_wrap _ (by omega) (by omega)
      have er : (List.range (k + 1)).filter (fun i=>decide (0 < nf i)) = (List.range k).filter (fun i=>decide (0 < nf i)) ++ (if 0 < nf k then [k] else []):=by
        rw [List.range_succ,List.filter_append]; by_cases h0 : 0 < nf k <;> simp [h0]
      have hfl : ((List.range k).filter fun i=>decide (0 < nf i)).length ≤ k:=by have:=List.length_filter_le (fun i=>decide (0 < nf i)) (List.range k); simpa using this
      generalize (List.range k).filter (fun i=>decide (0 < nf i)) = o at *
      have hmx2 : o.length + 1 ≤ maxSl:=by unfold maxSl; omega
      have em : (o.map fun i : Nat=>eI i) ++ [PV.int .i64 (k : Int)] = (o ++ [k]).map fun i : Nat=>eI i:=by simp
      by_cases h0 : 0 < nf k
      · rw [if_pos h0] at er
        have h0' : (0 : Int) < ((nf k : Nat) : Int):=by omega
        simp only [go_sem,hlt,hln,hg,h0',hmx2,w2,List.length_map]
        refine ⟨k + 1,?_,by omega,by omega⟩
        rw [er,em]
        simp
      · rw [if_neg h0, List.append_nil] at er
        have h0' : ¬ (0 : Int) < ((nf k : Nat) : Int):=by omega
        simp only [go_sem,hlt,hln,hg,h0',w2,List.length_map]
        refine ⟨k + 1,?_,by omega,by omega⟩
        rw [er]
    · have ek : k = l.length := by omega
      subst ek
      have hol : ((List.range l.length).filter fun i=>decide (0 < nf i)).length ≤ l.length:=by have:=List.length_filter_le (fun i=>decide (0 < nf i)) (List.range l.length); simpa using this
      have hom : ∀ i ∈ (List.range l.length).filter (fun i=>decide (0 < nf i)),i < l.length:=fun i hi=>by have:=(List.mem_filter.1 hi).1; simpa using this
      unfold orderP
      have so:=fun K=>stable_int (h:=h ++ [.row none (cs.map eI) 0,.box [.own h.length l.length 0 l.length],.row none (((List.range l.length).filter fun i=>decide (0 < nf i)).map fun i : Nat=>eI i) 0]) (K:=K) (h.length + 2) (((List.range l.length).filter fun i=>decide (0 < nf i)).map fun i : Nat=>eI i)
        (fun x hx=>by obtain ⟨n,_,rfl⟩:=List.mem_map.1 hx; rfl) (by simp; omega) (by simp) (g:=f_q02g) (caps:=[.ref (h.length + 1) 0]) (c:=fun x y=>cmp3 (nf (unI64 y).toNat) (nf (unI64 x).toNat))
        (fun o x hx y hy K=>by
          obtain ⟨a,ha,rfl⟩:=List.mem_map.1 hx
          obtain ⟨b,hb,rfl⟩:=List.mem_map.1 hy
          have ha' : a < cs.length:=by have:=hom a ha; omega
          have hb' : b < cs.length:=by have:=hom b hb; omega
          have e1 : (h ++ [.row none (cs.map eI) 0,.box [.own h.length l.length 0 l.length],Obj.row none (((List.range l.length).filter fun i=>decide (0 < nf i)).map fun i : Nat=>eI i) 0]).set (h.length + 2) o = h ++ [.row none (cs.map eI) 0,.box [.own h.length l.length 0 l.length],o]:=by rw [List.set_append_right _ _ (by omega)]; simp
          have:=s_Pareto1 (h:=h ++ [.row none (cs.map eI) 0,.box [.own h.length l.length 0 l.length],o]) (K:=K) cs a b h.length (h.length + 1) ha' hb' (by simp) (by simp [hln])
          rw [e1]
          refine this.trans ?_
          simp only [unI64,Int.toNat_natCast]
          rw [hcg,hcg])
      have em : isort (ltC fun x y=>cmp3 (nf (unI64 y).toNat) (nf (unI64 x).toNat)) (((List.range l.length).filter fun i=>decide (0 < nf i)).map fun i : Nat=>eI i) = (isort (fun a b=>decide (nf b < nf a)) ((List.range l.length).filter fun i=>decide (0 < nf i))).map fun i : Nat=>eI i:=
        isort_map (fun i : Nat=>eI i) (fun a b=>by simp only [ltC,unI64,Int.toNat_natCast,cmp3_lt]; by_cases h : nf b < nf a <;> simp [h]) _
      rw [em] at so
      have il:=isort_len (fun a b=>decide (nf b < nf a)) ((List.range l.length).filter fun i=>decide (0 < nf i))
      have hsm : ∀ i ∈ isort (fun a b=>decide (nf b < nf a)) ((List.range l.length).filter fun i=>decide (0 < nf i)),i < l.length:=fun i hi=>hom i (isort_mem.1 hi)
      generalize isort (fun a b=>decide (nf b < nf a)) ((List.range l.length).filter fun i=>decide (0 < nf i)) = ss at *
      generalize (List.range l.length).filter (fun i=>decide (0 < nf i)) = o at *
      have e1 : ∀ o',(h ++ [.row none (cs.map eI) 0,.box [.own h.length l.length 0 l.length],Obj.row none (o.map fun i : Nat=>eI i) 0]).set (h.length + 2) o' = h ++ [.row none (cs.map eI) 0,.box [.own h.length l.length 0 l.length],o']:=fun o'=>by rw [List.set_append_right _ _ (by omega)]; simp
      simp only [e1,List.length_map] at so
      simp only [go_sem,Nat.lt_irrefl,so]
      rw [← il]
      refine N_loop (fun k : Nat=>⟨[(0,ALim l),(9,.ref (h.length + 1) 0),(16,.own (h.length + 3) k 0 k),(67,.own (h.length + 2) ss.length 0 ss.length),(68,AI ss.length),(69,AI k)],h ++ [.row none (cs.map eI) 0,.box [.own h.length l.length 0 l.length],.row none (ss.map fun i : Nat=>eI i) 0,.row (some 2) (((ss.take k).map fun i=>(keyAt l i,itoa (nf i))).map ssPv) 0],[]⟩)
        (fun k=>k ≤ ss.length) (fun k=>ss.length - k) 0 rfl (by omega) ?_
      intro k hk
      rcases Nat.lt_or_ge k ss.length with hlt | hge
      · have hg := map_get (fun i : Nat => eI i) hlt
        have hsl:=hsm _ (List.getElem_mem hlt)
        have w2 : IntKind.i64.wrap ((k : Int) + 1) = ((k + 1 : Nat) : Int):=i64_wrap _ (by omega) (by omega)
        have hmx2 : k + 1 ≤ maxSl:=by unfold maxSl; omega
        have hlk : min k ss.length = k:=by omega
        have et : ((ss.take (k + 1)).map fun i=>(keyAt l i,itoa (nf i))).map ssPv = ((ss.take k).map fun i=>(keyAt l i,itoa (nf i))).map ssPv ++ [ssPv (keyAt l ss[k],itoa (nf ss[k]))]:=by rw [List.take_succ_eq_append_getElem hlt,List.map_append,List.map_append]; rfl
        generalize ss[k] = i at *
        have hic : i < cs.length:=by omega
        have g1:=map_get Lim.pv hsl
        have g2:=map_get eI hic
        rw [hcg i hic] at g2
        have hni:=hnf i
        have ekey : keyAt l i = l[i].key:=by unfold keyAt; rw [List.getD_eq_getElem?_getD,List.getElem?_eq_getElem hsl]; rfl
        have q4:=fun h K=>s_pair (h:=h) (K:=K) (keyAt l i) (nf i) (by omega) (by omega)
        rw [ekey] at q4 et
        simp only [Lim.pv] at g1
        simp only [ssPv] at q4 et
        simp only [go_sem,hlt,hg,hsl,g1,hic,hln,g2,↓q4,q4,w2,hmx2,hlk,List.length_map,List.length_take]
        refine ⟨k + 1,?_,by omega,by omega⟩
        rw [et]
      · have ek : k = ss.length := by omega
        subst ek
        simp only [go_sem,Nat.lt_irrefl,List.take_length]
        rw [win_full (by simp)]
end Go.Am
end
section
/- How often tests are failed,the reference's way. -/
open Go
set_option linter.all false
namespace Go.Am
variable {h : Heap} {K : Post}
attribute [-go_sem] oLook oMupd
set_option maxHeartbeats 2000000 in
theorem s_ParetoOf (l : List Lim) (r : List Rec) (ru : Int) (hru : 1 ≤ ru ∧ ru ≤ 3) (hl : LimOk l) (hl2 : l.length ≤ 19) (hr : ∀ x ∈ r,RecOk x) (hn : r.length ≤ 12) :
    ACall X f_q052 [ALim l,ARec r,AI ru] h K = K (ASS (paretoP l ru r)) h []:=by
  refine rule ?_
  rw [c_q052 rfl]
  have q1:=fun h K=>s_units (h:=h) (K:=K) r hn
  have hul : (unitsL r).length ≤ 12:=by rw [← finL_units l ru r]; have:=finL_len l ru r; simp; omega
  have hne : ∀ u ∈ unitsL r,ofU r u ≠ []:=fun u hu=>ofU_ne hu
  have hcm : ∀ u ∈ unitsL r,cntL l ru (ofU r u) ∈ r:=fun u hu=>cnt_mem hu
  have hmx : l.length ≤ maxSl:=by unfold maxSl; omega
  have hfs : (unitsL r).map (fun u=>cntL l ru (ofU r u)) = finL l ru r:=(finL_eq l hru r).symm
  have hcf : ∀ i (hi : i < l.length),(cntsL l (finL l ru r))[i]? = some ((nFail l ru r i : Nat) : Int):=fun i hi=>cntsL_get l _ i hi
  have hnf : ∀ i,nFail l ru r i ≤ r.length:=fun i=>nFail_le l ru r i
  have hoq:=order_eq (nFail l ru r) l.length r.length hnf
  unfold paretoP
  rw [hoq]
  rw [← hfs] at hcf
  have ug:=fun k (hk : k < (unitsL r).length)=>uRow_get r hk
  have ul:=uRow_len r
  have hle:=units_le r
  simp only [d_q052,go_sem,↓q1,q1,hmx]
  generalize uRow r = ur at *
  generalize unitsL r = us at *
  refine N_loop (fun k : Nat=>⟨[(0,ALim l),(1,ARec r),(2,AI ru),(7,.own h.length l.length 0 l.length),(20,.own (h.length + 1) r.length 0 us.length),(21,AI us.length),(22,AI k)],h ++ [.row none ((cntsL l ((us.take k).map fun u=>cntL l ru (ofU r u))).map eI) 0,.row none ur 0],[]⟩)
    (fun k=>k ≤ us.length) (fun k=>us.length - k) 0 ?_ (by omega) ?_
  · simp only [List.take_zero, List.map_nil, cntsL_nil, List.map_replicate]
    rfl
  intro k hk
  rcases Nat.lt_or_ge k us.length with hlt | hge
  · have hg := ug k hlt
    have w2 : IntKind.i64.wrap ((k : Int) + 1) = ((k + 1 : Nat) : Int):=i64_wrap _ (by omega) (by omega)
    have hum:=List.getElem_mem hlt
    have et : (us.take (k + 1)).map (fun u=>cntL l ru (ofU r u)) = (us.take k).map (fun u=>cntL l ru (ofU r u)) ++ [cntL l ru (ofU r us[k])]:=by rw [List.take_succ_eq_append_getElem hlt,List.map_append]; rfl
    have q2:=fun h K=>s_counts (h:=h) (K:=K) l r us[k] ru hl.n (fun x hx=>(hr x hx).n) (by omega) (hne _ hum)
    have hcr:=hr _ (hcm _ hum)
    have hlen : ((us.take k).map fun u=>cntL l ru (ofU r u)).length ≤ 12:=by simp; omega
    generalize (us.take k).map (fun u=>cntL l ru (ofU r u)) = xs at *
    generalize cntL l ru (ofU r us[k]) = c at *
    have q3:=fun h K=>s_BinOf (h:=h) (K:=K) l c hl hcr
    have hln:=cntsL_len l xs
    simp only [Rec.pv] at q2 q3
    rcases failIdx_cases l c.res with ⟨e,_⟩ | ⟨i,e,hi,_⟩
    · have ec := cntsL_miss l xs c (by omega)
      rw [e] at q3
      simp only [go_sem,hlt,hg,ul,hle,w2,↓q2,q2,↓q3,q3]
      refine ⟨k + 1,?_,by omega,by omega⟩
      rw [et,ec]
    · have hil : i < l.length := by unfold goods at hi; simp at hi; omega
      have ec:=cntsL_hit l xs c i hil e
      have gi:=cntsL_get l xs i hil
      have hi0 : (0 : Int) ≤ (i : Int):=by omega
      have hcli : xs.countP (fun x=>decide (failIdx l x.res = (i : Int))) ≤ 12:=Nat.le_trans List.countP_le_length hlen
      rw [e] at q3
      generalize cntsL l xs = cs at *
      generalize xs.countP (fun x=>decide (failIdx l x.res = (i : Int))) = cc at *
      have gm : (cs.map eI)[i]? = some (eI cc):=by rw [List.getElem?_map,gi]; rfl
      have w3 : IntKind.i64.wrap ((cc : Int) + 1) = (cc : Int) + 1:=i64_wrap _ (by omega) (by omega)
      have es : (cs.map eI).set i (PV.int .i64 ((cc : Int) + 1)) = (cs.set i ((cc : Int) + 1)).map eI:=by rw [List.map_set]
      simp only [go_sem,hlt,hg,ul,hle,w2,↓q2,q2,↓q3,q3,hi0,hln,hil,gm,w3,es]
      refine ⟨k + 1,?_,by omega,by omega⟩
      rw [et,ec]
  · have ek : k = us.length := by omega
    subst ek
    rw [List.take_length]
    have hln:=cntsL_len l (us.map fun u=>cntL l ru (ofU r u))
    generalize cntsL l (us.map fun u=>cntL l ru (ofU r u)) = cs at *
    have hcg : ∀ i (hi : i < cs.length),cs[i] = ((nFail l ru r i : Nat) : Int):=fun i hi=>by
      have:=hcf i (by omega)
      rw [List.getElem?_eq_getElem hi] at this
      exact Option.some.inj this
    simp only [go_sem,Nat.lt_irrefl,hln]
    generalize hnF : nFail l ru r = nf at *
    have hqs : ∀ m,∀ i ∈ orderQ nf l.length m,i < l.length:=by
      intro m
      induction m with
      | zero=>intro i hi; simp [orderQ] at hi
      | succ m ih=>
        intro i hi
        unfold orderQ at hi
        rcases List.mem_append.1 hi with hi | hi
        · have:=(List.mem_filter.1 hi).1; simpa using this
        · exact ih i hi
    have hql : ∀ m,(orderQ nf l.length m).length ≤ m * l.length:=by
      intro m
      induction m with
      | zero=>simp [orderQ]
      | succ m ih=>
        unfold orderQ
        have:=List.length_filter_le (fun i=>decide (nf i = m + 1)) (List.range l.length)
        simp only [List.length_append,List.length_range] at this ⊢
        rw [Nat.succ_mul]; omega
    have hqR:=hql r.length
    have hqR2 : r.length * l.length ≤ 12 * 19:=Nat.mul_le_mul hn hl2
    refine N_loop (fun t : List Nat × Nat=>⟨[(0,ALim l),(7,.own h.length l.length 0 l.length),(12,.own (h.length + 2) t.1.length 0 t.1.length),(13,AI t.2)],h ++ [.row none (cs.map eI) 0,.row none ur 0,.row (some 2) ((t.1.map fun i=>(keyAt l i,itoa (nf i))).map ssPv) 0],[]⟩)
      (fun t=>t.1 ++ orderQ nf l.length t.2 = orderQ nf l.length r.length ∧ t.2 ≤ r.length) (fun t=>t.2) ([],r.length) rfl ⟨rfl,Nat.le_refl _⟩ ?_
    rintro ⟨P,m⟩ ⟨hP,hm⟩
    dsimp only at hP hm
    rcases Nat.eq_zero_or_pos m with h0 | h0
    · subst h0
      have hb : ¬ ((0 : Int) < ((0 : Nat) : Int)):=by omega
      have : P = orderQ nf l.length r.length:=by rw [← hP]; simp [orderQ]
      rw [← this]
      simp only [go_sem,hb]
      rw [win_full (by simp)]
    · obtain ⟨m', rfl⟩ : ∃ m', m = m' + 1 := ⟨m - 1, by omega⟩
      have hb : ((0 : Int) < ((m' + 1 : Nat) : Int)):=by omega
      have w9 : IntKind.i64.wrap (((m' + 1 : Nat) : Int) - 1) = (m' : Int):=by rw [i64_wrap _ (by omega) (by omega)]; omega
      have hPl:=congrArg List.length hP
      simp only [orderQ,List.length_append] at hPl
      simp only [go_sem,hb]
      refine N_loop (fun k : Nat=>⟨[(0,ALim l),(7,.own h.length l.length 0 l.length),(12,.own (h.length + 2) (P ++ (List.range k).filter fun i=>decide (nf i = m' + 1)).length 0 (P ++ (List.range k).filter fun i=>decide (nf i = m' + 1)).length),(13,AI ((m' + 1 : Nat) : Int)),(51,.own h.length l.length 0 l.length),(52,AI l.length),(53,AI k)],h ++ [.row none (cs.map eI) 0,.row none ur 0,.row (some 2) (((P ++ (List.range k).filter fun i=>decide (nf i = m' + 1)).map fun i=>(keyAt l i,itoa (nf i))).map ssPv) 0],[]⟩)
        (fun k=>k ≤ l.length) (fun k=>l.length - k) 0 (by simp) (by omega) ?_
      intro k hk
      rcases Nat.lt_or_ge k l.length with hlt | hge
      · have hkc : k < cs.length := by omega
        have hg:=map_get eI hkc
        rw [hcg k hkc] at hg
        have g1:=map_get Lim.pv hlt
        have w2 : IntKind.i64.wrap ((k : Int) + 1) = ((k + 1 : Nat) : Int):=i64_wrap _ (by omega) (by omega)
        have er : (List.range (k + 1)).filter (fun i=>decide (nf i = m' + 1)) = (List.range k).filter (fun i=>decide (nf i = m' + 1)) ++ (if nf k = m' + 1 then [k] else []):=by
          rw [List.range_succ,List.filter_append]; by_cases h0 : nf k = m' + 1 <;> simp [h0]
        have hfl : ((List.range k).filter fun i=>decide (nf i = m' + 1)).length ≤ k:=by have:=List.length_filter_le (fun i=>decide (nf i = m' + 1)) (List.range k); simpa using this
        generalize (List.range k).filter (fun i=>decide (nf i = m' + 1)) = o at *
        have hmx2 : (P ++ o).length + 1 ≤ maxSl:=by unfold maxSl; simp only [List.length_append]; omega
        have em : ((P ++ o).map fun i=>(keyAt l i,itoa (nf i))).map ssPv ++ [ssPv (keyAt l k,itoa (nf k))] = ((P ++ (o ++ [k])).map fun i=>(keyAt l i,itoa (nf i))).map ssPv:=by simp
        have ekey : keyAt l k = l[k].key:=by unfold keyAt; rw [List.getD_eq_getElem?_getD,List.getElem?_eq_getElem hlt]; rfl
        have elen : (P ++ o).length + 1 = (P ++ (o ++ [k])).length:=by simp; omega
        have hnk:=hnf k
        simp only [Lim.pv] at g1
        by_cases h1 : nf k = m' + 1
        · rw [if_pos h1] at er
          have q4:=fun h K=>s_Itoa (h:=h) (K:=K) ((m' + 1 : Nat) : Int) (by omega) (by omega)
          rw [ekey] at em
          simp only [ssPv,h1] at em
          have hmx3 : P.length + o.length + 1 ≤ maxSl:=by simpa using hmx2
          simp only [go_sem,hlt,hln,hg,h1,g1,↓q4,q4,hmx3,w2,List.length_map]
          refine ⟨k + 1,?_,by omega,by omega⟩
          rw [er,em]
          simp only [List.length_append,List.length_cons,List.length_nil,Nat.zero_add,Nat.add_assoc]
        · rw [if_neg h1, List.append_nil] at er
          have h1' : ¬ ((nf k : Nat) : Int) = ((m' + 1 : Nat) : Int):=by omega
          simp only [go_sem,hlt,hln,hg,h1',w2,List.length_map]
          refine ⟨k + 1,?_,by omega,by omega⟩
          rw [er]
      · have ek : k = l.length := by omega
        subst ek
        simp only [go_sem,Nat.lt_irrefl,w9]
        refine ⟨(P ++ (List.range l.length).filter fun i=>decide (nf i = m' + 1),m'),by simp only [List.length_append],⟨?_,by dsimp only; omega⟩,by dsimp only; omega⟩
        dsimp only
        rw [List.append_assoc]
        exact hP
end Go.Am
end
section
/- Deleting strings at the front of a row: printed by program. -/
open Go
set_option linter.unusedSimpArgs false
namespace Go.Am
attribute [-go_sem] PV.cells splice
variable {h : Heap} {K : Post}
theorem DeleteFuncT_string (id n : Nat) (l tl : List PV) (hn : n = l.length + tl.length) (hs : shps none l) (hst0 : shps none tl) (hl : l.length ≤ 100000) (hh : h[id]? = some (.row none (l ++ tl) 0)) {g : Nat} {caps : List AV} {p : PV → Bool} (hp : TellsS g caps p l id h) :
    ACall X f_q066 [.own id n 0 l.length,.fn g caps] h K = K (.own id n 0 (l.filter fun x=>!p x).length) (h.set id (.row none ((l.filter fun x=>!p x) ++ (List.replicate (l.length - (l.filter fun x=>!p x).length) (PV.str []) ++ tl)) 0)) []:=by
  refine rule ?_
  rw [c_q066]
  have hid:=get_lt hh
  have hst : ∀ o,(h.set id o)[id]? = some o:=fun o=>set_get' hid
  have hwin : win (l ++ tl) 0 l.length = l:=by simp [win]
  have hi:=fun K=>IndexFunc_string (h:=h) (K:=K) (v:=.own id n 0 l.length) (xs:=l) (by
      have:=shows_own (sh:=none) (id:=id) (off:=0) (len:=l.length) (fz:=0) (xs:=l ++ tl) (shps_append hs hst0) hh (by simp)
      rw [hwin,List.length_append,← hn] at this
      exact this) (fun x hx K=>by have:=hp (.row none (l ++ tl) 0) x hx K; rwa [set_self hh] at this) (by omega)
  have hln : l.length ≤ n:=by omega
  simp only [d_q066,go_sem,hi]
  by_cases hf : l.findIdx p < l.length
  · have e1 : idxP p l = (l.findIdx p : Int) := by simp [idxP, hf]
    have e2 : ¬ ((l.findIdx p : Int) = -1):=by omega
    have w0 : IntKind.i64.wrap ((l.findIdx p : Int) + 1) = ((l.findIdx p + 1 : Nat) : Int):=i64_wrap _ (by omega) (by omega)
    simp only [go_sem,e1,e2,w0]
    have hF0 : ((l.take (l.findIdx p + 1)).filter fun x=>!p x) = l.take (l.findIdx p):=by
      rw [List.take_succ_eq_append_getElem hf,List.filter_append]
      have q1 : (l.take (l.findIdx p)).filter (fun x=>!p x) = l.take (l.findIdx p):=by
        rw [List.filter_eq_self]
        intro x hx
        obtain ⟨j,hj,rfl⟩:=List.mem_take_iff_getElem.1 hx
        have:=List.not_of_lt_findIdx (show j < l.findIdx p by omega)
        simpa using this
      rw [q1]
      have : p l[l.findIdx p] = true:=List.findIdx_getElem (w:=hf)
      simp [this]
    refine N_loop (fun t : List PV × Nat × Nat=>⟨[(0,.own id n 0 l.length),(1,.fn g caps),(5,AI t.2.1),(6,AI t.2.2)],h.set id (.row none (t.1 ++ tl) 0),[]⟩)
      (fun t=>t.1.length = l.length ∧ shps none t.1 ∧ t.2.1 < t.2.2 ∧ t.2.2 ≤ l.length ∧ t.1.take t.2.1 = ((l.take t.2.2).filter fun x=>!p x) ∧ t.1.drop t.2.2 = l.drop t.2.2) (fun t=>l.length - t.2.2)
      (l,l.findIdx p,l.findIdx p + 1) (by rw [set_self hh]) ⟨rfl,hs,by simp,hf,by rw [hF0],rfl⟩ ?_
    rintro ⟨row,i,j⟩ ⟨r1,r2,r3,r4,r5,r6⟩
    dsimp only at r1 r2 r3 r4 r5 r6
    have w1 : IntKind.i64.wrap ((j : Int) + 1) = ((j + 1 : Nat) : Int):=i64_wrap _ (by omega) (by omega)
    have w2 : IntKind.i64.wrap ((i : Int) + 1) = ((i + 1 : Nat) : Int):=i64_wrap _ (by omega) (by omega)
    rcases Nat.lt_or_ge j l.length with hlt | hge
    · have g1 : row[j]? = some l[j]:=by
        have:=congrArg (·[0]?) r6
        simp only [List.getElem?_drop,Nat.add_zero] at this
        rw [this,List.getElem?_eq_getElem hlt]
      have hsj:=shps_get hs hlt
      have cx:=shp_cut hsj
      have hil : i < l.length:=by omega
      have g2 : row[i]? = some row[i]:=List.getElem?_eq_getElem (by omega)
      have g1t : (row ++ tl)[j]? = some l[j]:=by rw [List.getElem?_append_left (by omega)]; exact g1
      have g2t : (row ++ tl)[i]? = some row[i]:=by rw [List.getElem?_append_left (by omega)]; exact g2
      have hrl : (row ++ tl).length = n:=by rw [List.length_append,r1]; omega
      have hset : (row ++ tl).set i l[j] = row.set i l[j] ++ tl:=List.set_append_left _ _ (by omega)
      generalize hRT : row ++ tl = rt at *
      have hsi:=shps_get r2 (show i < row.length by omega)
      have t1:=fun xs h1=>shp_st hsj hsi id i 0 xs h1
      have lx:=shp_len hsj
      have sx:=shp_all hsj
      simp only [shSize] at lx
      have hpj:=fun o K=>hp o _ (List.getElem_mem hlt) K
      cases hpx : p l[j] with
      | true=>
        simp only [go_sem,hst,hrl,hln,hlt,g1t,cx,hpj,hpx,w1]
        refine ⟨(row,i,j + 1),by rw [hRT],⟨r1,r2,by dsimp only; omega,by dsimp only; omega,?_,?_⟩,by dsimp only; omega⟩
        · rw [List.take_succ_eq_append_getElem hlt, List.filter_append]
          simp [hpx,r5]
        · rw [← List.drop_drop,r6,List.drop_drop]
      | false=>
        simp only [go_sem,hst,hrl,hln,hlt,hil,g1t,g2t,cx,hpj,hpx,w1,w2,lx,sx,t1,hset]
        refine ⟨(row.set i l[j],i + 1,j + 1),rfl,⟨by simpa using r1,fun x hx=>?_,by dsimp only; omega,by dsimp only; omega,?_,?_⟩,by dsimp only; omega⟩
        · rcases List.mem_or_eq_of_mem_set hx with hx | rfl
          · exact r2 x hx
          · exact hsj
        · dsimp only
          rw [List.take_succ_eq_append_getElem hlt,List.filter_append,← r5,List.take_succ_eq_append_getElem (by simp; omega)]
          simp [hpx,List.take_set_of_le]
        · dsimp only
          rw [List.drop_set_of_lt (by omega),← List.drop_drop,r6,List.drop_drop]
    · have ej : j = l.length := by omega
      subst ej
      rw [List.take_length] at r5
      have hm : (l.filter fun x=>!p x).length = i:=by rw [← r5]; simp; omega
      have hil : i ≤ l.length:=by omega
      have e3 : l.length - i + i = l.length:=by omega
      have sp : splice (row ++ tl) i (List.replicate (l.length - i) (PV.str [])) = (l.filter fun x=>!p x) ++ (List.replicate (l.length - i) (PV.str []) ++ tl):=by
        unfold splice
        rw [List.take_append_of_le_length (by omega),r5,List.length_replicate,List.drop_append,List.drop_of_length_le (by omega),List.nil_append,List.append_assoc]
        rw [show i + (l.length - i) - row.length = 0 by omega,List.drop_zero]
      have rl : ((l.filter fun x=>!p x) ++ (List.replicate (l.length - i) (PV.str []) ++ tl)).length = n:=by simp only [List.length_append,hm,List.length_replicate]; omega
      have rl2 : (row ++ tl).length = n:=by rw [List.length_append,r1]; omega
      rw [hm]
      generalize (l.filter fun x=>!p x) ++ (List.replicate (l.length - i) (PV.str []) ++ tl) = row' at *
      generalize row ++ tl = rt at *
      have hb : ¬ h.length ≤ id:=by omega
      have hb2 : max h.length (id + 1) = h.length:=by omega
      have hb3 : id + 1 ≤ h.length:=hid
      simp only [go_sem,Nat.lt_irrefl,hst,rl2,rl,hil,hln,sp,show i + (l.length - i) = l.length by omega,hb,hb2,hb3]
  · have e1 : idxP p l = -1 := by simp [idxP, hf]
    have hF : (l.filter fun x=>!p x) = l:=by
      rw [List.filter_eq_self]
      intro x hx
      cases hpx : p x with
      | false=>rfl
      | true=>exact absurd (List.findIdx_lt_length_of_exists ⟨x,hx,hpx⟩) hf
    have hb : ¬ h.length ≤ id:=by omega
    have hb2 : max h.length (id + 1) = h.length:=by omega
    have hb3 : id + 1 ≤ h.length:=hid
    simp only [go_sem,e1,hF,Nat.sub_self,List.replicate_zero,List.append_nil,hb,hb2,hb3]
    rw [set_self hh]
end Go.Am
end
section
/- Recovered units,both ways. -/
open Go
set_option linter.all false
namespace Go.Am
variable {h : Heap} {K : Post}
theorem snoc_ind {α : Type} {P : List α → Prop} (h0 : P []) (h1 : ∀ xs x,P xs → P (xs ++ [x])) (l : List α) : P l:=by
  have key : ∀ l : List α,P l.reverse:=by
    intro l
    induction l with
    | nil=>exact h0
    | cons x l ih=>rw [List.reverse_cons]; exact h1 _ _ ih
  have:=key l.reverse
  rwa [List.reverse_reverse] at this
def vB (b : Bool) : AV:=.p (.bool b)
def fmap (l : List Lim) (m : List (List UInt8 × Bool)) (x : Rec) : List (List UInt8 × Bool):=if (getM x.unit m).isSome then m else updM x.unit (badR l x) m
def omap (l : List Lim) (t : List (List UInt8 × Bool) × List (List UInt8 × Bool)) (x : Rec) : List (List UInt8 × Bool) × List (List UInt8 × Bool):=
  (fmap l t.1 x,if (getM x.unit t.1).getD false = true ∧ badR l x = false then updM x.unit true t.2 else t.2)
def rcvT (l : List Lim) (xs : List Rec) : List (List UInt8 × Bool) × List (List UInt8 × Bool):=xs.foldl (omap l) ([],[])
theorem rcv_snoc (l : List Lim) (xs : List Rec) (x : Rec) : rcvT l (xs ++ [x]) = omap l (rcvT l xs) x:=by unfold rcvT; rw [List.foldl_append]; rfl
theorem ofU_snoc2 (p : List Rec) (x : Rec) (u : List UInt8) : ofU (p ++ [x]) u = if x.unit = u then ofU p u ++ [x] else ofU p u:=ofU_snoc p x u
theorem rcv_fst (l : List Lim) (xs : List Rec) : ∀ u,getM u (rcvT l xs).1 = (ofU xs u).head?.map (badR l):=by
  refine snoc_ind (P:=fun xs=>∀ u,getM u (rcvT l xs).1 = (ofU xs u).head?.map (badR l)) (fun u=>rfl) (fun xs x ih=>?_) xs
  · intro u
    rw [rcv_snoc,ofU_snoc]
    unfold omap fmap
    dsimp only
    by_cases hu : x.unit = u
    · subst hu
      rw [if_pos rfl]
      cases hg : getM x.unit (rcvT l xs).1 with
      | none=>
        have h1:=ih x.unit
        rw [hg] at h1
        have h2 : (ofU xs x.unit) = []:=by
          cases ho : ofU xs x.unit with
          | nil=>rfl
          | cons a b=>rw [ho] at h1; cases h1
        rw [h2]
        simp [get_upd]
      | some b=>
        have h1:=ih x.unit
        rw [hg] at h1
        simp only [Option.isSome_some,if_true,hg]
        cases ho : ofU xs x.unit with
        | nil=>rw [ho] at h1; cases h1
        | cons a c=>rw [ho] at h1; simpa using h1
    · rw [if_neg hu]
      split
      · exact ih u
      · rw [get_upd,if_neg (fun e=>hu e.symm)]; exact ih u
theorem rcv_snd (l : List Lim) (xs : List Rec) : (keysM (rcvT l xs).2).Nodup ∧ ∀ u,u ∈ keysM (rcvT l xs).2 ↔ (ofU xs u ≠ [] ∧ recovB l xs u = true):=by
  refine snoc_ind (P:=fun xs=>(keysM (rcvT l xs).2).Nodup ∧ ∀ u,u ∈ keysM (rcvT l xs).2 ↔ (ofU xs u ≠ [] ∧ recovB l xs u = true)) ⟨List.nodup_nil,fun u=>by simp [rcvT,keysM,ofU]⟩ (fun xs x ih=>?_) xs
  · rw [rcv_snoc]
    have hf:=rcv_fst l xs x.unit
    unfold omap
    dsimp only
    have base : ∀ u,(ofU (xs ++ [x]) u ≠ [] ∧ recovB l (xs ++ [x]) u = true) ↔ (u ∈ keysM (rcvT l xs).2 ∨ (u = x.unit ∧ (getM x.unit (rcvT l xs).1).getD false = true ∧ badR l x = false)):=by
      intro u
      rw [ih.2 u,ofU_snoc2]
      unfold recovB
      rw [ofU_snoc2]
      by_cases hu : x.unit = u
      · subst hu
        rw [if_pos rfl,hf]
        cases ho : ofU xs x.unit with
        | nil=>
          simp only [List.nil_append,List.head?_nil,Option.map_none,Option.getD_none]
          cases hb : badR l x <;> simp [hb]
        | cons a b=>
          simp only [List.cons_append,List.headD_cons,List.head?_cons,Option.map_some,Option.getD_some,List.any_cons,List.any_append,List.any_nil]
          cases hb : badR l x <;> cases ha : badR l a <;> simp [hb,ha]
      · rw [if_neg hu]
        have : ¬ u = x.unit:=fun e=>hu e.symm
        simp [this]
    by_cases hc : (getM x.unit (rcvT l xs).1).getD false = true ∧ badR l x = false
    · rw [if_pos hc]
      refine ⟨keys_nodup _ _ ih.1,fun u=>?_⟩
      rw [base u,keys_upd]
      split
      · rename_i hm
        constructor
        · intro h; exact .inl h
        · rintro (h | ⟨h, _⟩)
          · exact h
          · rw [h]; exact hm
      · rw [List.mem_append, List.mem_singleton]
        constructor
        · rintro (h | h)
          · exact .inl h
          · exact .inr ⟨h,hc⟩
        · rintro (h | h)
          · exact .inl h
          · exact .inr h.1
    · rw [if_neg hc]
      refine ⟨ih.1,fun u=>?_⟩
      rw [base u]
      constructor
      · intro h; exact .inl h
      · rintro (h | ⟨_, h⟩)
        · exact h
        · exact absurd h hc
theorem recov_names {l : List Lim} {r : List Rec} {ns : List (List UInt8)} (hp : ns.Perm (keysM (rcvT l r).2)) : isort ltS ns = recovP l r:=by
  have hs:=rcv_snd l r
  refine strict_ext ordS ?_ ?_ fun u=>?_
  · rw [ltS_eq]
    exact strict_isort ordS ((hp.nodup_iff.2 hs.1).imp fun {a b} h hc=>h (cmpL_eq hc))
  · exact List.Pairwise.sublist List.filter_sublist (units_strict r)
  · rw [isort_mem, hp.mem_iff, hs.2 u]
    unfold recovP
    rw [List.mem_filter,units_mem]
    constructor
    · rintro ⟨h1, h2⟩
      obtain ⟨x,hx⟩:=List.exists_mem_of_ne_nil _ h1
      exact ⟨⟨x,(ofU_mem.1 hx).1,(ofU_mem.1 hx).2⟩,h2⟩
    · rintro ⟨⟨x, hx, e⟩, h2⟩
      refine ⟨fun h=>?_,h2⟩
      have : x ∈ ofU r u:=ofU_mem.2 ⟨hx,e⟩
      rw [h] at this; exact absurd this (by simp)
theorem omap_len (l : List Lim) (xs : List Rec) : (rcvT l xs).2.length ≤ xs.length:=by
  refine snoc_ind (P:=fun xs=>(rcvT l xs).2.length ≤ xs.length) (by simp [rcvT]) (fun xs x ih=>?_) xs
  · rw [rcv_snoc]
    unfold omap
    dsimp only
    split
    · have h1 := keys_upd x.unit true (rcvT l xs).2
      have h2:=congrArg List.length h1
      have h3 : ∀ m : List (List UInt8 × Bool),(keysM m).length = m.length:=fun m=>by simp [keysM]
      rw [h3] at h2
      by_cases hm : x.unit ∈ keysM (rcvT l xs).2
      · rw [if_pos hm,h3] at h2; simp; omega
      · rw [if_neg hm,List.length_append,h3] at h2; simp at h2 ⊢; omega
    · simp; omega
theorem lookB {hp : Heap} {id : Nat} {m : List (List UInt8 × Bool)} {u : List UInt8} (hh : hp[id]? = some (mobj kS vB m)) : oLook (none,[2]) true (AB false) (.mp id) (AS u) hp = some (.tup [AB ((getM u m).getD false),AB (getM u m).isSome]):=by
  have:=look_mes (key:=kS) (val:=vB) (fun a b=>keyI_str a b) hh (kk:=(none,[2])) (k:=u) keyOf_str (ok:=true) (z:=AB false)
  rw [cond_true] at this
  refine this.trans ?_
  cases getM u m <;> rfl
theorem updB {hp : Heap} {id : Nat} {m : List (List UInt8 × Bool)} {u : List UInt8} {v : Bool} (hh : hp[id]? = some (mobj kS vB m)) : oMupd (none,[2]) (.mp id) (AS u) (AB v) hp = some (.und,hp.set id (mobj kS vB (updM u v m)),[]):=
  mupd_mes (key:=kS) (val:=vB) (fun a b=>keyI_str a b) hh (kk:=(none,[2])) (k:=u) keyOf_str (v:=v) rfl
attribute [-go_sem] oLook oMupd oMentry oMrange
set_option maxHeartbeats 2000000 in
theorem s_Recovered (l : List Lim) (r : List Rec) (hl : LimOk l) (hr : ∀ x ∈ r,RecOk x) (hn : r.length ≤ 12) :
    ACall X f_q02j [ALim l,ARec r] h K = K (if recsFault l r = 0 then .tup [AStr (recovP l r),AI 0] else .tup [AStr [],AI (recsFault l r)]) h []:=by
  refine rule ?_
  rw [c_q02j rfl]
  simp only [d_q02j]
  have q1:=fun h K=>s_CheckRecords (h:=h) (K:=K) l r hl hr (by omega)
  by_cases hz : recsFault l r = 0
  case neg=>
    refine detK_of (e:=.ret) (s:=⟨[(4,.p (.sl none [])),(5,AI (recsFault l r))],h,[]⟩) ?_ ?_
    · simp only [go_sem,↓q1,q1,hz]
    · simp only [go_sem, hz]
      rfl
  have hfm : ∀ x ∈ r,formB l x.res = true:=fun x hx=>recFault_form (recsFault_all hz x hx)
  simp only [hz,if_true]
  have hol:=omap_len l r
  refine detK_of (e:=.ret) (s:=⟨[(4,.own (h.length + 2) (rcvT l r).2.length 0 (rcvT l r).2.length),(5,AI 0)],h ++ [mobj kS vB (rcvT l r).1,mobj kS vB (rcvT l r).2,.row none ((recovP l r).map PV.str) 0,.iter none 1 [] 0],[]⟩) ?_ ?_
  case refine_2=>
    have hlen : (recovP l r).length = (rcvT l r).2.length:=by
      rw [← recov_names (List.Perm.refl (keysM (rcvT l r).2)),isort_len]; simp [keysM]
    have b1 : h.length ≤ h.length + 2:=by omega
    simp only [go_sem,b1,hlen]
    rw [win_full (by simp [hlen])]
  simp only [go_sem,↓q1,q1,hz]
  refine N_loop (fun k : Nat=>⟨[(0,ALim l),(7,.mp h.length),(8,.mp (h.length + 1)),(24,ARec r),(25,AI r.length),(26,AI k)],h ++ [mobj kS vB (rcvT l (r.take k)).1,mobj kS vB (rcvT l (r.take k)).2],[]⟩)
    (fun k=>k ≤ r.length) (fun k=>r.length - k) 0 rfl (by omega) ?_
  intro k hk
  rcases Nat.lt_or_ge k r.length with hlt | hge
  · have hg := map_get Rec.pv hlt
    have cx : cutP (some 4) 0 (r[k].pv) = some r[k].pv:=rfl
    have w2 : IntKind.i64.wrap ((k : Int) + 1) = ((k + 1 : Nat) : Int):=i64_wrap _ (by omega) (by omega)
    have et : rcvT l (r.take (k + 1)) = omap l (rcvT l (r.take k)) r[k]:=by rw [List.take_succ_eq_append_getElem hlt,rcv_snoc]
    have hcf:=hfm _ (List.getElem_mem hlt)
    generalize rcvT l (r.take k) = T at *
    obtain ⟨m1,m2⟩:=T
    generalize r[k] = c at *
    have q3:=fun h K=>s_failsF (h:=h) (K:=K) l c hcf hl.n
    have lk:=fun (hp : Heap) (hh : hp[h.length]? = some (mobj kS vB m1))=>lookB (u:=c.unit) hh
    have u1:=fun (hp : Heap) (v : Bool) (hh : hp[h.length]? = some (mobj kS vB m1))=>updB (u:=c.unit) (v:=v) hh
    have u2:=fun (hp : Heap) (v : Bool) (hh : hp[h.length + 1]? = some (mobj kS vB m2))=>updB (u:=c.unit) (v:=v) hh
    have hbad : badR l c = decide (0 ≤ failIdx l c.res):=rfl
    simp only [Rec.pv] at q3 hg cx
    cases hs : (getM c.unit m1).isSome with
    | false=>
      have e0 : (getM c.unit m1).getD false = false:=by cases hq : getM c.unit m1 with | none=>rfl | some _=>rw [hq] at hs; cases hs
      have eo : omap l (m1,m2) c = (updM c.unit (badR l c) m1,m2):=by unfold omap fmap; simp [hs,e0]
      rw [hs,e0] at lk
      by_cases hb : 0 ≤ failIdx l c.res
      · have eb : badR l c = true := by rw [hbad]; simp [hb]
        rw [eb] at eo
        simp only [go_sem,hlt,hg,cx,w2,↓q3,q3,lk,u1,hb]
        refine ⟨k + 1,?_,by omega,by omega⟩
        rw [et,eo]
      · have eb : badR l c = false := by rw [hbad]; simp [hb]
        rw [eb] at eo
        simp only [go_sem,hlt,hg,cx,w2,↓q3,q3,lk,u1,hb]
        refine ⟨k + 1,?_,by omega,by omega⟩
        rw [et,eo]
    | true=>
      cases hv : (getM c.unit m1).getD false with
      | false=>
        have eo : omap l (m1,m2) c = (m1,m2):=by unfold omap fmap; simp [hs,hv]
        rw [hs,hv] at lk
        simp only [go_sem,hlt,hg,cx,w2,↓q3,q3,lk]
        refine ⟨k + 1,?_,by omega,by omega⟩
        rw [et,eo]
      | true=>
        rw [hs,hv] at lk
        by_cases hb : 0 ≤ failIdx l c.res
        · have eb : badR l c = true := by rw [hbad]; simp [hb]
          have eo : omap l (m1,m2) c = (m1,m2):=by unfold omap fmap; simp [hs,hv,eb]
          simp only [go_sem,hlt,hg,cx,w2,↓q3,q3,lk,hb]
          refine ⟨k + 1,?_,by omega,by omega⟩
          rw [et,eo]
        · have eb : badR l c = false := by rw [hbad]; simp [hb]
          have eo : omap l (m1,m2) c = (m1,updM c.unit true m2):=by unfold omap fmap; simp [hs,hv,eb]
          simp only [go_sem,hlt,hg,cx,w2,↓q3,q3,lk,hb,u2]
          refine ⟨k + 1,?_,by omega,by omega⟩
          rw [et,eo]
  · have ek : k = r.length := by omega
    subst ek
    rw [List.take_length]
    have hnm:=fun ns=>@recov_names l r ns
    have hnd:=(rcv_snd l r).1
    generalize rcvT l r = T at *
    obtain ⟨m1,m2⟩:=T
    dsimp only at hol hnm hnd ⊢
    have mr:=mrange_mes (h:=h ++ [mobj kS vB m1,mobj kS vB m2,.row none [] 0]) (id:=h.length + 1) (key:=kS) (val:=vB) (l:=m2) (by simp)
    have e4 : (h ++ [mobj kS vB m1,mobj kS vB m2,Obj.row none [] 0]).length = h.length + 3:=by simp
    rw [e4] at mr
    simp only [go_sem,Nat.lt_irrefl,mr]
    refine N_loop (fun seen : List Nat=>⟨[(14,.own (h.length + 2) seen.length 0 seen.length),(57,.it (h.length + 3))],h ++ [mobj kS vB m1,mobj kS vB m2,.row none ((seen.map fun i=>(keysM m2).getD i []).map PV.str) 0,.iter (some (h.length + 1)) m2.length seen m2.length],[]⟩)
      (fun seen=>seen.Nodup ∧ ∀ i ∈ seen,i < m2.length) (fun seen=>m2.length - seen.length) [] rfl ⟨List.nodup_nil,by simp⟩ ?_
    rintro seen ⟨hd,hb⟩
    simp only [go_sem]
    refine nx_mes (key:=kS) (val:=vB) (l:=m2) (m:=h.length + 1) (seen:=seen) (by simp) (by simp) ?_ ?_
    · intro hall
      have hp:=seen_perm hd hb hall
      have hns : (seen.map fun i=>(keysM m2).getD i []).Perm (keysM m2):=by
        have h1:=hp.map fun i=>(keysM m2).getD i []
        have h2 : (List.range m2.length).map (fun i=>(keysM m2).getD i []) = keysM m2:=by
          apply List.ext_getElem
          · simp [keysM]
          · intro i h1 h2
            rw [List.getElem_map,List.getElem_range,List.getD_eq_getElem?_getD,List.getElem?_eq_getElem h2]; rfl
        rw [h2] at h1
        exact h1
      have hsl : seen.length = m2.length:=by have:=hp.length_eq; simpa using this
      have hf:=hnm _ hns
      generalize hQ : seen.map (fun i=>(keysM m2).getD i []) = ns at *
      have hnl : ns.length = seen.length:=by rw [← hQ]; simp
      have so:=fun K=>s_SortS (h:=h ++ [mobj kS vB m1,mobj kS vB m2,.row none (ns.map PV.str) 0,.iter none 1 [] 0]) (K:=K) (h.length + 2) ns (by omega) (by simp)
      have e0 : ∀ o' : Obj,(h ++ [mobj kS vB m1,mobj kS vB m2,.row none (ns.map PV.str) 0,.iter none 1 [] 0]).set (h.length + 2) o' = h ++ [mobj kS vB m1,mobj kS vB m2,o',.iter none 1 [] 0]:=fun o'=>by rw [List.set_append_right _ _ (by omega)]; simp
      simp only [e0,hf,hnl,hsl] at so
      have e5 : ∀ o' : Obj,(h ++ [mobj kS vB m1,mobj kS vB m2,.row none (ns.map PV.str) 0,.iter (some (h.length + 1)) m2.length seen m2.length]).set (h.length + 3) o' = h ++ [mobj kS vB m1,mobj kS vB m2,.row none (ns.map PV.str) 0,o']:=fun o'=>by rw [List.set_append_right _ _ (by omega)]; simp
      rw [e5]
      simp only [go_sem,hsl,so]
    · intro i hi hni
      have e5 : ∀ o' : Obj,(h ++ [mobj kS vB m1,mobj kS vB m2,.row none ((seen.map fun i=>(keysM m2).getD i []).map PV.str) 0,.iter (some (h.length + 1)) m2.length seen m2.length]).set (h.length + 3) o' = h ++ [mobj kS vB m1,mobj kS vB m2,.row none ((seen.map fun i=>(keysM m2).getD i []).map PV.str) 0,o']:=fun o'=>by rw [List.set_append_right _ _ (by omega)]; simp
      rw [e5]
      have me:=mentry_mes (h:=h ++ [mobj kS vB m1,mobj kS vB m2,.row none ((seen.map fun i=>(keysM m2).getD i []).map PV.str) 0,.iter (some (h.length + 1)) m2.length (seen ++ [i]) m2.length]) (j:=h.length + 3) (m:=h.length + 1) (key:=kS) (val:=vB) (l:=m2) (seen:=seen) (i:=i) (by simp) (by simp) hi
      have hlen : seen.length < m2.length:=by
        have h1 : (seen ++ [i]).Nodup:=by rw [List.nodup_append]; exact ⟨hd,by simp,fun a ha b hb=>by rw [List.mem_singleton] at hb; subst hb; intro e; subst e; exact hni ha⟩
        have h2:=h1.length_le_of_subset (l₂:=List.range m2.length) (fun x hx=>by
          rw [List.mem_range]
          rcases List.mem_append.1 hx with hx | hx
          · exact hb x hx
          · rw [List.mem_singleton] at hx; rw [hx]; exact hi)
        simp at h2
        omega
      have hmx : seen.length + 1 ≤ maxSl:=by unfold maxSl; omega
      have ek : kS m2[i].1 = PV.str ((keysM m2).getD i []):=by unfold kS keysM; simp [List.getD_eq_getElem?_getD,hi]
      rw [ek] at me ⊢
      have em : ((seen ++ [i]).map fun i=>(keysM m2).getD i []).map PV.str = (seen.map fun i=>(keysM m2).getD i []).map PV.str ++ [PV.str ((keysM m2).getD i [])]:=by rw [List.map_append,List.map_append]; rfl
      simp only [go_sem,me,hmx,List.length_map]
      refine ⟨seen ++ [i],by rw [em]; simp only [List.length_append,List.length_cons,List.length_nil],⟨?_,?_⟩,by simp; omega⟩
      · rw [List.nodup_append]; exact ⟨hd,by simp,fun a ha b hb=>by rw [List.mem_singleton] at hb; subst hb; intro e; subst e; exact hni ha⟩
      · intro x hx
        rcases List.mem_append.1 hx with hx | hx
        · exact hb x hx
        · rw [List.mem_singleton] at hx; rw [hx]; exact hi
theorem s_RecoveredOf1 (l : List Lim) (r : List Rec) (u : List UInt8) (id1 id2 : Nat) (hl : LimOk l) (hr : ∀ x ∈ r,RecOk x) (hn : r.length ≤ 1000) (hu : ofU r u ≠ []) (h1 : h[id1]? = some (.box [ALim l])) (h2 : h[id2]? = some (.box [ARec r])) :
    ACall X f_q058 [AS u,.ref id1 0,.ref id2 0] h K = K (AB (!recovB l r u)) h []:=by
  refine rule ?_
  rw [c_q058 rfl]
  have q1:=fun h K=>s_counts (h:=h) (K:=K) l r u 1 hl.n (fun x hx=>(hr x hx).n) hn hu
  have q2:=fun h K=>s_counts (h:=h) (K:=K) l r u 3 hl.n (fun x hx=>(hr x hx).n) hn hu
  have m1:=(ofU_mem.1 (cntL_mem (l:=l) (rule:=1) hu)).1
  have m2:=(ofU_mem.1 (cntL_mem (l:=l) (rule:=3) hu)).1
  have e1 : badR l (cntL l 1 (ofU r u)) = badR l ((ofU r u).headD rec0):=by rw [cnt1]
  have e2:=cnt3_good (l:=l) hu
  have er : recovB l r u = (badR l (cntL l 1 (ofU r u)) && !badR l (cntL l 3 (ofU r u))):=by unfold recovB; rw [e1,e2,Bool.not_not]
  rw [er]
  generalize cntL l 1 (ofU r u) = c1 at *
  generalize cntL l 3 (ofU r u) = c2 at *
  have f1:=fun h K=>s_refFails (h:=h) (K:=K) l c1.res hl.n (hr _ m1).n
  have f2:=fun h K=>s_refFails (h:=h) (K:=K) l c2.res hl.n (hr _ m2).n
  have b1 : badR l c1 = decide (0 ≤ failIdx l c1.res):=rfl
  have b2 : badR l c2 = decide (0 ≤ failIdx l c2.res):=rfl
  simp only [Rec.pv] at q1 q2
  by_cases k1 : failIdx l c1.res < 0
  · have k1' : ¬ 0 ≤ failIdx l c1.res := by omega
    simp only [d_q058,go_sem,h1,h2,↓q1,q1,↓f1,f1,k1,b1,k1']
  · have k1' : 0 ≤ failIdx l c1.res := by omega
    by_cases k2 : 0 ≤ failIdx l c2.res
    · simp only [d_q058,go_sem,h1,h2,↓q1,q1,↓q2,q2,↓f1,f1,↓f2,f2,k1,b1,k1',b2,k2]
    · simp only [d_q058,go_sem,h1,h2,↓q1,q1,↓q2,q2,↓f1,f1,↓f2,f2,k1,b1,k1',b2,k2]
set_option maxHeartbeats 1000000 in
theorem s_RecoveredOf (l : List Lim) (r : List Rec) (hl : LimOk l) (hr : ∀ x ∈ r,RecOk x) (hn : r.length ≤ 12) :
    ACall X f_q057 [ALim l,ARec r] h K = K (AStr (recovP l r)) h []:=by
  refine rule ?_
  rw [c_q057 rfl]
  have q1:=fun h K=>s_units (h:=h) (K:=K) r hn
  have ul:=uRow_len r
  have hpad : ∀ x ∈ uRow r,∃ u,x = PV.str u:=fun x hx=>by
    unfold uRow at hx
    rcases List.mem_append.1 hx with hx | hx
    · obtain ⟨u,_,rfl⟩:=List.mem_map.1 hx; exact ⟨u,rfl⟩
    · rw [List.mem_replicate] at hx; exact ⟨[],hx.2⟩
  have hle:=units_le r
  have ef : ((unitsL r).map PV.str).filter (fun x=>!(!recovB l r (unStr x))) = (recovP l r).map PV.str:=by
    unfold recovP
    rw [List.filter_map]
    congr 1
    refine List.filter_congr fun x _=>?_
    simp [unStr]
  have dl:=fun K=>DeleteFuncT_string (h:=h ++ [Obj.box [ALim l],Obj.box [ARec r],Obj.row none (uRow r) 0]) (K:=K) (h.length + 2) r.length ((unitsL r).map PV.str) (List.replicate (r.length - (unitsL r).length) (PV.str []))
    (by simp; omega) str_shps (fun x hx=>by rw [List.mem_replicate] at hx; rw [hx.2]; rfl) (by simp; omega) (by simp [uRow]) (g:=f_q058) (caps:=[.ref h.length 0,.ref (h.length + 1) 0]) (p:=fun x=>!recovB l r (unStr x))
    (fun o x hx K=>by
      obtain ⟨u,hu,rfl⟩:=List.mem_map.1 hx
      have e1 : (h ++ [Obj.box [ALim l],Obj.box [ARec r],Obj.row none (uRow r) 0]).set (h.length + 2) o = h ++ [Obj.box [ALim l],Obj.box [ARec r],o]:=by rw [List.set_append_right _ _ (by omega)]; simp
      rw [e1]
      exact s_RecoveredOf1 l r u h.length (h.length + 1) hl hr (by omega) (ofU_ne hu) (by simp) (by simp))
  have e1 : ∀ o,(h ++ [Obj.box [ALim l],Obj.box [ARec r],Obj.row none (uRow r) 0]).set (h.length + 2) o = h ++ [Obj.box [ALim l],Obj.box [ARec r],o]:=fun o=>by rw [List.set_append_right _ _ (by omega)]; simp
  simp only [ef,e1,List.length_map] at dl
  have hfl : (recovP l r).length ≤ (unitsL r).length:=List.length_filter_le _ _
  have hrl : ((recovP l r).map PV.str ++ (List.replicate ((unitsL r).length - (recovP l r).length) (PV.str []) ++ List.replicate (r.length - (unitsL r).length) (PV.str []))).length = r.length:=by simp; omega
  have hw : win ((recovP l r).map PV.str ++ (List.replicate ((unitsL r).length - (recovP l r).length) (PV.str []) ++ List.replicate (r.length - (unitsL r).length) (PV.str []))) 0 (recovP l r).length = (recovP l r).map PV.str:=by simp [win]
  have hle2 : (recovP l r).length ≤ r.length:=by omega
  generalize (recovP l r).map PV.str ++ (List.replicate ((unitsL r).length - (recovP l r).length) (PV.str []) ++ List.replicate (r.length - (unitsL r).length) (PV.str [])) = row at *
  have b1 : h.length ≤ h.length + 2:=by omega
  simp only [d_q057,go_sem,↓q1,q1,↓dl,dl,hrl,hw,hle2,b1]
end Go.Am
end
section
/- Sites,both ways. -/
open Go
set_option linter.all false
namespace Go.Am
variable {h : Heap} {K : Post}
theorem snoc_ind' {α : Type} {P : List α → Prop} (h0 : P []) (h1 : ∀ xs x,P xs → P (xs ++ [x])) (l : List α) : P l:=by
  have key : ∀ l : List α,P l.reverse:=by
    intro l
    induction l with
    | nil=>exact h0
    | cons x l ih=>rw [List.reverse_cons]; exact h1 _ _ ih
  have:=key l.reverse
  rwa [List.reverse_reverse] at this
theorem lookS {hp : Heap} {id : Nat} {m : List (List UInt8 × Int)} {b : List UInt8} (hh : hp[id]? = some (mobj kS vI m)) : oLook (none,[2]) false (AI 0) (.mp id) (AS b) hp = some (AI ((getM b m).getD 0)):=by
  have:=look_mes (key:=kS) (val:=vI) (fun a b=>keyI_str a b) hh (kk:=(none,[2])) (k:=b) keyOf_str (ok:=false) (z:=AI 0)
  rw [cond_false] at this
  refine this.trans ?_
  cases getM b m <;> rfl
theorem updS {hp : Heap} {id : Nat} {m : List (List UInt8 × Int)} {b : List UInt8} {v : Int} (hh : hp[id]? = some (mobj kS vI m)) : oMupd (none,[2]) (.mp id) (AS b) (AI v) hp = some (.und,hp.set id (mobj kS vI (updM b v m)),[]):=
  mupd_mes (key:=kS) (val:=vI) (fun a b=>keyI_str a b) hh (kk:=(none,[2])) (k:=b) keyOf_str (v:=v) rfl
abbrev MSI:=List (List UInt8 × Int)
def addM (s : List UInt8) (m : MSI) : MSI:=updM s ((getM s m).getD 0 + 1) m
def siteT (l : List Lim) (t : MSI × MSI × List (List UInt8)) (x : Rec) : MSI × MSI × List (List UInt8):=
  (if badR l x = false then addM x.site t.1 else t.1,addM x.site t.2.1,if (getM x.site t.2.1).getD 0 = 0 then t.2.2 ++ [x.site] else t.2.2)
def sitesT (l : List Lim) (xs : List Rec) : MSI × MSI × List (List UInt8):=xs.foldl (siteT l) ([],[],[])
theorem sites_snoc (l : List Lim) (xs : List Rec) (x : Rec) : sitesT l (xs ++ [x]) = siteT l (sitesT l xs) x:=by unfold sitesT; rw [List.foldl_append]; rfl
theorem get_add (s s' : List UInt8) (m : MSI) : (getM s' (addM s m)).getD 0 = (getM s' m).getD 0 + if s' = s then 1 else 0:=by
  unfold addM
  rw [get_upd]
  by_cases h : s' = s
  · subst h; simp
  · simp [h]
theorem sites_inv (l : List Lim) (xs : List Rec) : (∀ s,(getM s (sitesT l xs).1).getD 0 = (gSite l xs s : Nat)) ∧ (∀ s,(getM s (sitesT l xs).2.1).getD 0 = (nSite xs s : Nat)) ∧ (sitesT l xs).2.2.Nodup ∧ (∀ s,s ∈ (sitesT l xs).2.2 ↔ s ∈ xs.map Rec.site) ∧ (sitesT l xs).2.2.length ≤ xs.length:=by
  refine snoc_ind' (P:=fun xs=>(∀ s,(getM s (sitesT l xs).1).getD 0 = (gSite l xs s : Nat)) ∧ (∀ s,(getM s (sitesT l xs).2.1).getD 0 = (nSite xs s : Nat)) ∧ (sitesT l xs).2.2.Nodup ∧ (∀ s,s ∈ (sitesT l xs).2.2 ↔ s ∈ xs.map Rec.site) ∧ (sitesT l xs).2.2.length ≤ xs.length)
    ⟨fun s=>rfl,fun s=>rfl,List.nodup_nil,fun s=>by simp [sitesT],by simp [sitesT]⟩ (fun xs x ih=>?_) xs
  obtain ⟨i1,i2,i3,i4,i5⟩:=ih
  rw [sites_snoc]
  unfold siteT
  dsimp only
  have hz : (getM x.site (sitesT l xs).2.1).getD 0 = 0 ↔ x.site ∉ xs.map Rec.site:=by
    rw [i2]
    unfold nSite
    rw [Int.natCast_eq_zero,List.countP_eq_zero]
    simp
  refine ⟨fun s=>?_,fun s=>?_,?_,fun s=>?_,?_⟩
  · unfold gSite
    rw [List.countP_append]
    have:=i1 s
    unfold gSite at this
    cases hb : badR l x with
    | false=>
      rw [if_pos rfl,get_add,this]
      by_cases hs : s = x.site
      · subst hs; simp [hb]
      · have : ¬ x.site = s := fun e => hs e.symm
        simp [hs,this]
    | true=>
      rw [if_neg (by simp),this]
      simp [hb]
  · unfold nSite
    rw [List.countP_append,get_add]
    have:=i2 s
    unfold nSite at this
    rw [this]
    by_cases hs : s = x.site
    · subst hs; simp
    · have : ¬ x.site = s := fun e => hs e.symm
      simp [hs,this]
  · by_cases h0 : (getM x.site (sitesT l xs).2.1).getD 0 = 0
    · rw [if_pos h0, List.nodup_append]
      refine ⟨i3,by simp,fun a ha b hb=>?_⟩
      rw [List.mem_singleton] at hb
      subst hb
      intro e; subst e
      exact (hz.1 h0) ((i4 _).1 ha)
    · rw [if_neg h0]; exact i3
  · by_cases h0 : (getM x.site (sitesT l xs).2.1).getD 0 = 0
    · rw [if_pos h0,List.mem_append,i4]; simp
    · rw [if_neg h0, i4]
      have : x.site ∈ xs.map Rec.site:=Decidable.not_not.1 fun h=>h0 (hz.2 h)
      rw [List.map_append,List.mem_append]
      constructor
      · intro h; exact .inl h
      · rintro (h | h)
        · exact h
        · simp at h; rw [h]; exact this
  · split <;> simp <;> omega
theorem sites_names (l : List Lim) (r : List Rec) : isort ltS (sitesT l r).2.2 = sitesL r:=nodup_sorted (sites_inv l r).2.2.1 (sites_inv l r).2.2.2.1
theorem gSite_le (l : List Lim) (r : List Rec) (s : List UInt8) : gSite l r s ≤ r.length ∧ nSite r s ≤ r.length:=⟨List.countP_le_length,List.countP_le_length⟩
theorem itoa_len (m : Nat) (hm : m ≤ 100) : (itoa (m : Int)).length ≤ 3:=by
  have key : ∀ k : Nat,k ≤ 100 → (itoa (k : Int)).length ≤ 3:=by
    intro k hk
    unfold itoa
    rw [if_neg (by omega)]
    simp only [Int.natAbs_natCast]
    rcases Nat.lt_or_ge k 10 with h | h
    · rw [decN_lt h]; simp
    · rw [decN_ge h]
      rcases Nat.lt_or_ge (k / 10) 10 with h2 | h2
      · rw [decN_lt h2]; simp
      · rw [decN_ge h2,decN_lt (by omega)]; simp
  exact key m hm
attribute [-go_sem] oLook oMupd
set_option maxHeartbeats 2000000 in
theorem s_BySite (l : List Lim) (r : List Rec) (hl : LimOk l) (hr : ∀ x ∈ r,RecOk x) (hn : r.length ≤ 12) :
    ACall X f_q028 [ALim l,ARec r] h K = K (if recsFault l r = 0 then .tup [ASS (siteP l r),AI 0] else .tup [ASS [],AI (recsFault l r)]) h []:=by
  refine rule ?_
  rw [c_q028 rfl]
  have q1:=fun h K=>s_CheckRecords (h:=h) (K:=K) l r hl hr (by omega)
  by_cases hz : recsFault l r = 0
  case neg=>
    simp only [d_q028,go_sem,↓q1,q1,hz]
    rfl
  have hfm : ∀ x ∈ r,formB l x.res = true:=fun x hx=>recFault_form (recsFault_all hz x hx)
  simp only [d_q028,go_sem,↓q1,q1,hz]
  refine N_loop (fun k : Nat=>⟨[(0,ALim l),(7,.mp h.length),(8,.mp (h.length + 1)),(9,.own (h.length + 2) (sitesT l (r.take k)).2.2.length 0 (sitesT l (r.take k)).2.2.length),(23,ARec r),(24,AI r.length),(25,AI k)],h ++ [mobj kS vI (sitesT l (r.take k)).1,mobj kS vI (sitesT l (r.take k)).2.1,.row none ((sitesT l (r.take k)).2.2.map PV.str) 0],[]⟩)
    (fun k=>k ≤ r.length) (fun k=>r.length - k) 0 rfl (by omega) ?_
  intro k hk
  rcases Nat.lt_or_ge k r.length with hlt | hge
  · have hg := map_get Rec.pv hlt
    have cx : cutP (some 4) 0 (r[k].pv) = some r[k].pv:=rfl
    have w2 : IntKind.i64.wrap ((k : Int) + 1) = ((k + 1 : Nat) : Int):=i64_wrap _ (by omega) (by omega)
    have et : sitesT l (r.take (k + 1)) = siteT l (sitesT l (r.take k)) r[k]:=by rw [List.take_succ_eq_append_getElem hlt,sites_snoc]
    have hcf:=hfm _ (List.getElem_mem hlt)
    obtain ⟨i1,i2,i3,i4,i5⟩:=sites_inv l (r.take k)
    have j1:=fun s=>(gSite_le l (r.take k) s).1
    have j2:=fun s=>(gSite_le l (r.take k) s).2
    simp only [List.length_take] at i5 j1 j2
    generalize sitesT l (r.take k) = T at *
    obtain ⟨m1,m2,ns⟩:=T
    generalize r[k] = c at *
    have q3:=fun h K=>s_failsF (h:=h) (K:=K) l c hcf hl.n
    have k1:=i1 c.site
    have k2:=i2 c.site
    have k3:=j1 c.site
    have k4:=j2 c.site
    dsimp only at k1 k2 i5
    have w3 : IntKind.i64.wrap ((getM c.site m1).getD 0 + 1) = (getM c.site m1).getD 0 + 1:=i64_wrap _ (by omega) (by omega)
    have w4 : IntKind.i64.wrap ((getM c.site m2).getD 0 + 1) = (getM c.site m2).getD 0 + 1:=i64_wrap _ (by omega) (by omega)
    have l1:=fun (hp : Heap) (hh : hp[h.length]? = some (mobj kS vI m1))=>lookS (b:=c.site) hh
    have l2:=fun (hp : Heap) (hh : hp[h.length + 1]? = some (mobj kS vI m2))=>lookS (b:=c.site) hh
    have u1:=fun (hp : Heap) (v : Int) (hh : hp[h.length]? = some (mobj kS vI m1))=>updS (b:=c.site) (v:=v) hh
    have u2:=fun (hp : Heap) (v : Int) (hh : hp[h.length + 1]? = some (mobj kS vI m2))=>updS (b:=c.site) (v:=v) hh
    have hbad : badR l c = decide (0 ≤ failIdx l c.res):=rfl
    have hmx : ns.length + 1 ≤ maxSl:=by unfold maxSl; omega
    have em : ns.map PV.str ++ [PV.str c.site] = (ns ++ [c.site]).map PV.str:=by simp
    have a1 : updM c.site ((getM c.site m1).getD 0 + 1) m1 = addM c.site m1:=rfl
    have a2 : updM c.site ((getM c.site m2).getD 0 + 1) m2 = addM c.site m2:=rfl
    unfold siteT at et
    dsimp only at et
    simp only [Rec.pv] at q3 hg cx
    by_cases h0 : (getM c.site m2).getD 0 = 0
    · rw [if_pos h0] at et
      by_cases hb : failIdx l c.res < 0
      · have eb : badR l c = false := by rw [hbad]; simp; omega
        rw [if_pos eb] at et
        simp only [go_sem,hlt,hg,cx,w2,↓q3,q3,l1,l2,u1,u2,eq_true h0,hb,w3,w4,hmx,a1,a2,List.length_map]
        refine ⟨k + 1,?_,by omega,by omega⟩
        rw [et]
        simp only [List.length_append,List.length_cons,List.length_nil,em]
      · have eb : badR l c = true := by rw [hbad]; simp; omega
        rw [if_neg (by simp [eb])] at et
        simp only [go_sem,hlt,hg,cx,w2,↓q3,q3,l2,u2,eq_true h0,hb,w4,hmx,a2,List.length_map]
        refine ⟨k + 1,?_,by omega,by omega⟩
        rw [et]
        simp only [List.length_append,List.length_cons,List.length_nil,em]
    · rw [if_neg h0] at et
      by_cases hb : failIdx l c.res < 0
      · have eb : badR l c = false := by rw [hbad]; simp; omega
        rw [if_pos eb] at et
        simp only [go_sem,hlt,hg,cx,w2,↓q3,q3,l1,l2,u1,u2,eq_false h0,hb,w3,w4,a1,a2,List.length_map]
        refine ⟨k + 1,?_,by omega,by omega⟩
        rw [et]
      · have eb : badR l c = true := by rw [hbad]; simp; omega
        rw [if_neg (by simp [eb])] at et
        simp only [go_sem,hlt,hg,cx,w2,↓q3,q3,l2,u2,eq_false h0,hb,w4,a2,List.length_map]
        refine ⟨k + 1,?_,by omega,by omega⟩
        rw [et]
  · have ek : k = r.length := by omega
    subst ek
    rw [List.take_length]
    obtain ⟨i1,i2,i3,i4,i5⟩:=sites_inv l r
    have hnm:=sites_names l r
    have j1:=fun s=>gSite_le l r s
    generalize sitesT l r = T at *
    obtain ⟨m1,m2,ns⟩:=T
    dsimp only at i1 i2 i5 hnm
    have so:=fun K=>s_SortS (h:=h ++ [mobj kS vI m1,mobj kS vI m2,.row none (ns.map PV.str) 0]) (K:=K) (h.length + 2) ns (by omega) (by simp)
    have e0 : ∀ o' : Obj,(h ++ [mobj kS vI m1,mobj kS vI m2,.row none (ns.map PV.str) 0]).set (h.length + 2) o' = h ++ [mobj kS vI m1,mobj kS vI m2,o']:=fun o'=>by rw [List.set_append_right _ _ (by omega)]; simp
    simp only [e0,hnm] at so
    have hsl : (sitesL r).length = ns.length:=by rw [← hnm,isort_len]
    unfold siteP
    simp only [go_sem,Nat.lt_irrefl,so]
    generalize sitesL r = ss at *
    rw [← hsl]
    refine N_loop (fun k : Nat=>⟨[(7,.mp h.length),(8,.mp (h.length + 1)),(12,.own (h.length + 3) k 0 k),(56,.own (h.length + 2) ss.length 0 ss.length),(57,AI ss.length),(58,AI k)],h ++ [mobj kS vI m1,mobj kS vI m2,.row none (ss.map PV.str) 0,.row (some 2) (((ss.take k).map fun s=>(s,itoa (gSite l r s) ++ 47 :: itoa (nSite r s))).map ssPv) 0],[]⟩)
      (fun k=>k ≤ ss.length) (fun k=>ss.length - k) 0 rfl (by omega) ?_
    intro k hk
    rcases Nat.lt_or_ge k ss.length with hlt | hge
    · have hg := map_get PV.str hlt
      have w2 : IntKind.i64.wrap ((k : Int) + 1) = ((k + 1 : Nat) : Int):=i64_wrap _ (by omega) (by omega)
      have hmx : k + 1 ≤ maxSl:=by unfold maxSl; omega
      have hln : min k ss.length = k:=by omega
      have et : ((ss.take (k + 1)).map fun s=>(s,itoa (gSite l r s) ++ 47 :: itoa (nSite r s))).map ssPv = ((ss.take k).map fun s=>(s,itoa (gSite l r s) ++ 47 :: itoa (nSite r s))).map ssPv ++ [ssPv (ss[k],itoa (gSite l r ss[k]) ++ 47 :: itoa (nSite r ss[k]))]:=by rw [List.take_succ_eq_append_getElem hlt,List.map_append,List.map_append]; rfl
      generalize ss[k] = s at *
      have l1:=fun (hp : Heap) (hh : hp[h.length]? = some (mobj kS vI m1))=>lookS (b:=s) hh
      have l2:=fun (hp : Heap) (hh : hp[h.length + 1]? = some (mobj kS vI m2))=>lookS (b:=s) hh
      rw [i1 s] at l1
      rw [i2 s] at l2
      obtain ⟨g1,g2⟩:=j1 s
      generalize gSite l r s = a at *
      generalize nSite r s = b at *
      have q4:=fun h K=>s_Itoa (h:=h) (K:=K) (a : Int) (by omega) (by omega)
      have q5:=fun h K=>s_Itoa (h:=h) (K:=K) (b : Int) (by omega) (by omega)
      have n1:=itoa_len a (by omega)
      have n2:=itoa_len b (by omega)
      generalize itoa (a : Int) = sa at *
      generalize itoa (b : Int) = sb at *
      have b1 : sa.length + 1 ≤ maxStr:=by unfold maxStr; omega
      have b2 : sa.length + 1 + sb.length ≤ maxStr:=by unfold maxStr; omega
      simp only [ssPv] at et
      simp only [go_sem,hlt,hg,l1,l2,↓q4,q4,↓q5,q5,w2,hmx,hln,b1,b2,List.length_map,List.length_take]
      refine ⟨k + 1,?_,by omega,by omega⟩
      rw [et]
    · have ek : k = ss.length := by omega
      subst ek
      simp only [go_sem,Nat.lt_irrefl,List.take_length]
      rw [win_full (by simp)]
set_option maxHeartbeats 2000000 in
theorem s_BySiteOf (l : List Lim) (r : List Rec) (hl : LimOk l) (hr : ∀ x ∈ r,RecOk x) (hn : r.length ≤ 12) :
    ACall X f_q04s [ALim l,ARec r] h K = K (ASS (siteP l r)) h []:=by
  refine rule ?_
  rw [c_q04s rfl]
  simp only [d_q04s,go_sem]
  refine N_loop (fun k : Nat=>⟨[(0,ALim l),(1,ARec r),(5,.own h.length k 0 k),(15,ARec r),(16,AI r.length),(17,AI k)],h ++ [.row none (((r.take k).map Rec.site).map PV.str) 0],[]⟩)
    (fun k=>k ≤ r.length) (fun k=>r.length - k) 0 rfl (by omega) ?_
  intro k hk
  rcases Nat.lt_or_ge k r.length with hlt | hge
  · have hg := map_get Rec.pv hlt
    have cx : cutP (some 4) 0 (r[k].pv) = some r[k].pv:=rfl
    have w2 : IntKind.i64.wrap ((k : Int) + 1) = ((k + 1 : Nat) : Int):=i64_wrap _ (by omega) (by omega)
    have hmx : k + 1 ≤ maxSl:=by unfold maxSl; omega
    have hln : min k r.length = k:=by omega
    have et : ((r.take (k + 1)).map Rec.site).map PV.str = ((r.take k).map Rec.site).map PV.str ++ [.str r[k].site]:=by rw [List.take_succ_eq_append_getElem hlt,List.map_append,List.map_append]; rfl
    simp only [Rec.pv] at hg cx
    simp only [go_sem,hlt,hg,cx,w2,hmx,hln,List.length_take]
    refine ⟨k + 1,?_,by omega,by omega⟩
    rw [et]
  · have ek : k = r.length := by omega
    subst ek
    rw [List.take_length]
    have so:=fun K=>s_SortS (h:=h ++ [.row none ((r.map Rec.site).map PV.str) 0]) (K:=K) h.length (r.map Rec.site) (by simpa using hn) (by simp)
    have e0 : ∀ o o' : Obj,(h ++ [o]).set h.length o' = h ++ [o']:=fun o o'=>by rw [List.set_append_right _ _ (by simp)]; simp
    have e1 : ∀ o o' o2 : Obj,(h ++ [o,o2]).set h.length o' = h ++ [o',o2]:=fun o o' o2=>by rw [List.set_append_right _ _ (by simp)]; simp
    have il:=isort_len ltS (r.map Rec.site)
    have cp:=fun K=>s_CompactS (h:=h ++ [.row none ((isort ltS (r.map Rec.site)).map PV.str) 0,.row (some 2) [] 0]) (K:=K) h.length (isort ltS (r.map Rec.site)) (by simp at il; omega) (by simp)
    have eu : compactL eqS (isort ltS (r.map Rec.site)) = sitesL r:=rfl
    have hle : (sitesL r).length ≤ r.length:=by rw [← eu]; have:=compactL_len eqS (isort ltS (r.map Rec.site)); simp at il; omega
    simp only [List.length_map] at il
    simp only [e0,List.length_map] at so
    simp only [e1,il,eu] at cp
    have j1:=fun s=>gSite_le l r s
    unfold siteP
    generalize hS : sitesL r = ss at *
    have sg : ∀ k (hk : k < ss.length),(ss.map PV.str ++ List.replicate (r.length - ss.length) (PV.str []))[k]? = some (.str ss[k]):=fun k hk=>by rw [List.getElem?_append_left (by simpa using hk)]; simp [hk]
    have sl : (ss.map PV.str ++ List.replicate (r.length - ss.length) (PV.str [])).length = r.length:=by simp; omega
    generalize ss.map PV.str ++ List.replicate (r.length - ss.length) (PV.str []) = row at *
    simp only [go_sem,Nat.lt_irrefl,so,cp]
    refine N_loop (fun k : Nat=>⟨[(0,ALim l),(1,ARec r),(8,.own (h.length + 1) k 0 k),(30,.own h.length r.length 0 ss.length),(31,AI ss.length),(32,AI k)],h ++ [.row none row 0,.row (some 2) (((ss.take k).map fun s=>(s,itoa (gSite l r s) ++ 47 :: itoa (nSite r s))).map ssPv) 0],[]⟩)
      (fun k=>k ≤ ss.length) (fun k=>ss.length - k) 0 rfl (by omega) ?_
    intro k hk
    rcases Nat.lt_or_ge k ss.length with hlt | hge
    · have hg := sg k hlt
      have w2 : IntKind.i64.wrap ((k : Int) + 1) = ((k + 1 : Nat) : Int):=i64_wrap _ (by omega) (by omega)
      have hmx : k + 1 ≤ maxSl:=by unfold maxSl; omega
      have hln : min k ss.length = k:=by omega
      have et : ((ss.take (k + 1)).map fun s=>(s,itoa (gSite l r s) ++ 47 :: itoa (nSite r s))).map ssPv = ((ss.take k).map fun s=>(s,itoa (gSite l r s) ++ 47 :: itoa (nSite r s))).map ssPv ++ [ssPv (ss[k],itoa (gSite l r ss[k]) ++ 47 :: itoa (nSite r ss[k]))]:=by rw [List.take_succ_eq_append_getElem hlt,List.map_append,List.map_append]; rfl
      generalize ss[k] = s at *
      simp only [go_sem,hlt,hg,hle,sl]
      generalize hPR : ((ss.take k).map fun s=>(s,itoa (gSite l r s) ++ 47 :: itoa (nSite r s))).map ssPv = pr at *
      have hprl : pr.length = k:=by rw [← hPR]; simp; omega
      refine N_loop (fun j : Nat=>⟨[(0,ALim l),(1,ARec r),(8,.own (h.length + 1) k 0 k),(10,AS s),(11,AI (gSite l (r.take j) s)),(12,AI (nSite (r.take j) s)),(30,.own h.length r.length 0 ss.length),(31,AI ss.length),(32,AI k),(36,ARec r),(37,AI r.length),(38,AI j)],h ++ [.row none row 0,.row (some 2) pr 0],[]⟩)
        (fun j=>j ≤ r.length) (fun j=>r.length - j) 0 rfl (by omega) ?_
      intro j hj
      rcases Nat.lt_or_ge j r.length with hlt2 | hge2
      · have hg2 := map_get Rec.pv hlt2
        have cx : cutP (some 4) 0 (r[j].pv) = some r[j].pv:=rfl
        have w4 : IntKind.i64.wrap ((j : Int) + 1) = ((j + 1 : Nat) : Int):=i64_wrap _ (by omega) (by omega)
        have c1:=countP_take_succ (fun x : Rec=>decide (x.site = s) && !badR l x) r j hlt2
        have c2:=countP_take_succ (fun x : Rec=>decide (x.site = s)) r j hlt2
        have d1:=(gSite_le l (r.take j) s).1
        have d2:=(gSite_le l (r.take j) s).2
        have hcr:=hr _ (List.getElem_mem hlt2)
        have eg : ∀ xs : List Rec,xs.countP (fun x=>decide (x.site = s) && !badR l x) = gSite l xs s:=fun _=>rfl
        have en : ∀ xs : List Rec,xs.countP (fun x=>decide (x.site = s)) = nSite xs s:=fun _=>rfl
        rw [eg,eg] at c1
        rw [en,en] at c2
        simp only [List.length_take] at d1 d2
        generalize gSite l (r.take j) s = a at *
        generalize nSite (r.take j) s = b at *
        generalize r[j] = c at *
        have q3:=fun h K=>s_refFails (h:=h) (K:=K) l c.res hl.n hcr.n
        have hbad : badR l c = decide (0 ≤ failIdx l c.res):=rfl
        have w5 : IntKind.i64.wrap ((a : Int) + 1) = ((a + 1 : Nat) : Int):=i64_wrap _ (by omega) (by omega)
        have w6 : IntKind.i64.wrap ((b : Int) + 1) = ((b + 1 : Nat) : Int):=i64_wrap _ (by omega) (by omega)
        simp only [Rec.pv] at hg2 cx
        by_cases hs : c.site = s
        · by_cases hb : failIdx l c.res < 0
          · have eb : badR l c = false := by rw [hbad]; simp; omega
            simp only [hs,eb,decide_true,Bool.not_false,Bool.and_self,if_true] at c1 c2
            simp only [go_sem,hlt2,hg2,cx,eq_true hs,↓q3,q3,hb,w4,w5,w6]
            refine ⟨j + 1,?_,by omega,by omega⟩
            rw [c1,c2]
          · have eb : badR l c = true := by rw [hbad]; simp; omega
            simp only [hs,eb,decide_true,Bool.not_true,Bool.and_false,Bool.false_eq_true,if_true,if_false,Nat.add_zero] at c1 c2
            simp only [go_sem,hlt2,hg2,cx,eq_true hs,↓q3,q3,hb,w4,w6]
            refine ⟨j + 1,?_,by omega,by omega⟩
            rw [c1,c2]
        · simp only [hs, decide_false, Bool.false_and, Bool.false_eq_true, if_false, Nat.add_zero] at c1 c2
          simp only [go_sem,hlt2,hg2,cx,eq_false hs,w4]
          refine ⟨j + 1,?_,by omega,by omega⟩
          rw [c1,c2]
      · have ej : j = r.length := by omega
        subst ej
        rw [List.take_length]
        obtain ⟨g1,g2⟩:=j1 s
        generalize gSite l r s = a at *
        generalize nSite r s = b at *
        have q4:=fun h K=>s_Itoa (h:=h) (K:=K) (a : Int) (by omega) (by omega)
        have q5:=fun h K=>s_Itoa (h:=h) (K:=K) (b : Int) (by omega) (by omega)
        have n1:=itoa_len a (by omega)
        have n2:=itoa_len b (by omega)
        generalize itoa (a : Int) = sa at *
        generalize itoa (b : Int) = sb at *
        have b1 : sa.length + 1 ≤ maxStr:=by unfold maxStr; omega
        have b2 : sa.length + 1 + sb.length ≤ maxStr:=by unfold maxStr; omega
        simp only [ssPv] at et
        simp only [go_sem,Nat.lt_irrefl,↓q4,q4,↓q5,q5,w2,hmx,hprl,b1,b2]
        refine ⟨k + 1,?_,by omega,by omega⟩
        rw [et]
    · have ek : k = ss.length := by omega
      subst ek
      simp only [go_sem,Nat.lt_irrefl,List.take_length]
      rw [win_full (by simp)]
end Go.Am
end
section
/- Package lot computes spreads. -/
open Go
set_option linter.unusedSimpArgs false
namespace Go.Am
variable {h : Heap} {K : Post}
theorem spread13 : spreadV [1,3] = .tup [.p (.agg [eI 2,eI 1]),.p (.agg [eI 1,eI 1]),AI 0]:=by kernel_rfl
theorem s_binned : ACall X f_q049 [] h K = K (AB true) h []:=by
  refine rule ?_
  rw [c_q049 rfl]
  have s1:=fun h K=>s_Spread (h:=h) (K:=K) [1,3] (by simp)
  rw [spread13] at s1
  simp only [AL,List.map_cons,List.map_nil] at s1
  simp only [d_q049,go_sem,↓s1,s1]
end Go.Am
end
section
/- UnitsCounted returns true. -/
open Go
set_option linter.all false
namespace Go.Am
variable {h : Heap} {K : Post}
theorem s_EqSS (l : List SS) (hl : l.length ≤ 1000000) : ACall X f_q069 [ASS l,ASS l] h K = K (AB true) h []:=by
  refine rule ?_
  rw [c_q069 rfl]
  simp only [d_q069,go_sem]
  refine N_loop (fun k : Nat=>⟨[(0,ASS l),(1,ASS l),(12,AI l.length),(13,AI k)],h,[]⟩) (fun k=>k ≤ l.length) (fun k=>l.length - k) 0 rfl (by simp) ?_
  intro k hk
  rcases Nat.lt_or_ge k l.length with hlt | hge
  · have hg := map_get ssPv hlt
    have cx : cutP (some 2) 0 (ssPv l[k]) = some (ssPv l[k]):=rfl
    have w2 : IntKind.i64.wrap ((k : Int) + 1) = ((k + 1 : Nat) : Int):=i64_wrap _ (by omega) (by omega)
    simp only [ssPv] at hg cx
    simp only [go_sem,hlt,hg,cx,w2]
    exact ⟨k + 1,rfl,by omega,by omega⟩
  · have e1 : k = l.length := by omega
    subst e1
    simp only [go_sem,Nat.lt_irrefl]
theorem s_EqStr (l : List (List UInt8)) (hl : l.length ≤ 1000000) : ACall X f_q06b [AStr l,AStr l] h K = K (AB true) h []:=by
  refine rule ?_
  rw [c_q06b rfl]
  simp only [d_q06b,go_sem]
  refine N_loop (fun k : Nat=>⟨[(0,AStr l),(1,AStr l),(12,AI l.length),(13,AI k)],h,[]⟩) (fun k=>k ≤ l.length) (fun k=>l.length - k) 0 rfl (by simp) ?_
  intro k hk
  rcases Nat.lt_or_ge k l.length with hlt | hge
  · have hg := map_get PV.str hlt
    have w2 : IntKind.i64.wrap ((k : Int) + 1) = ((k + 1 : Nat) : Int):=i64_wrap _ (by omega) (by omega)
    simp only [go_sem,hlt,hg,w2]
    exact ⟨k + 1,rfl,by omega,by omega⟩
  · have e1 : k = l.length := by omega
    subst e1
    simp only [go_sem,Nat.lt_irrefl]
theorem firstErr_orL' : ∀ l : List Int,firstErr l = orL l
  | []=>rfl
  | x :: r=>by unfold firstErr orL; rw [firstErr_orL' r]; by_cases h : x = 0 <;> simp [h]
attribute [-go_sem] e_q047_k1 e_q047_k2 d_q047_k1 d_q047_k2
theorem uc_k1 (B P S : List SS) (U : List (List UInt8)) (o E : Int) (hB : B.length ≤ 1000000) (hP : P.length ≤ 1000000) (hS : S.length ≤ 1000000) (hU : U.length ≤ 1000000) (h : Heap) (K : Ex → St → Prop) (hK : ∀ h x,x = [] → K .ret ⟨[(2,AB true)],h,x⟩) :
    d_q047_k1 (ACall X) X.gl (ASS B) (AI o) (ASS P) (AI o) (AStr U) (AI E) (ASS S) (AI E) (AI E) (AI o) (ASS B) (ASS P) (ASS S) (AStr U) h [] K:=by
  have q1:=fun h K=>s_EqSS (h:=h) (K:=K) B hB
  have q2:=fun h K=>s_EqSS (h:=h) (K:=K) P hP
  have q3:=fun h K=>s_EqSS (h:=h) (K:=K) S hS
  have q4:=fun h K=>s_EqStr (h:=h) (K:=K) U hU
  simp only [d_q047_k1,go_sem,↓q1,q1,↓q2,q2,↓q3,q3,↓q4,q4,s_binned]
  exact hK _ _ rfl
theorem uc_k2 (l : List Lim) (r : List Rec) (B P : List SS) (o : Int) (hl : LimOk l) (hr : ∀ x ∈ r,RecOk x) (hn : r.length ≤ 12) (hB : B.length ≤ 1000000) (hP : P.length ≤ 1000000) (h : Heap) (K : Ex → St → Prop) (hK : ∀ h x,x = [] → K .ret ⟨[(2,AB true)],h,x⟩) :
    d_q047_k2 (ACall X) X.gl p_q047_k1 (ALim l) (ARec r) (ASS B) (AI o) (ASS P) (AI o) (if recsFault l r = 0 then AStr (recovP l r) else AStr []) (AI (recsFault l r)) (if recsFault l r = 0 then ASS (siteP l r) else ASS []) (AI (recsFault l r)) (AI (recsFault l r)) (AI o) (ASS B) (ASS P) (.p (.sl (some 2) [])) (.p (.sl none [])) h [] K:=by
  have q1:=fun h K=>s_RecoveredOf (h:=h) (K:=K) l r hl hr hn
  have q2:=fun h K=>s_BySiteOf (h:=h) (K:=K) l r hl hr hn
  have e1:=@e_q047_k1
  have hU : (recovP l r).length ≤ 1000000:=by
    have h1 : (recovP l r).length ≤ (unitsL r).length:=List.length_filter_le _ _
    have:=units_le r
    omega
  have hS : (siteP l r).length ≤ 1000000:=by
    unfold siteP
    have h1:=compactL_len (fun a b=>decide (a = b)) (isort ltS (r.map Rec.site))
    rw [isort_len] at h1
    simp only [List.length_map] at h1 ⊢
    unfold sitesL
    omega
  by_cases hE : recsFault l r = 0
  · simp only [hE, if_true]
    simp only [d_q047_k2,go_sem,↓q1,q1,↓q2,q2]
    rw [e1]
    simp only [aget,Nat.reduceEqDiff,if_true,if_false]
    exact uc_k1 B P (siteP l r) (recovP l r) o 0 hB hP hS hU h K hK
  · simp only [hE, if_false]
    simp only [d_q047_k2,go_sem,hE]
    rw [e1]
    simp only [aget,Nat.reduceEqDiff,if_true,if_false]
    exact uc_k1 B P [] [] o _ hB hP (by simp) (by simp) h K hK
set_option maxHeartbeats 4000000 in
theorem law_UC (L : List Int) {K : Post} : ACall X f_q047 [AL L] [] K = K (AB true) [] []:=by
  refine rule ?_
  rw [c_q047 rfl]
  obtain ⟨_,a1,⟨b1,b2,l,hl1,hl2,hlb,rfl⟩,V⟩:=(g_LimitList (L:=L) (a:=0) (by unfold posN; omega)).hd (l:=[])
  have P1:=posAll (a:=a1) (by unfold posN; omega)
  obtain ⟨n1,n2⟩:=rangeV_bd (u:=0) (v:=12) L a1 (by omega) (by omega)
  obtain ⟨n,hn⟩:=Int.eq_ofNat_of_zero_le n1
  obtain ⟨_,a2,⟨b3,b4,r,hr1,hr2,rfl⟩,R⟩:=(g_Records (L:=L) (a:=a1 + 1) (by unfold posN; omega) l hl1 hl2 n (by omega)).hd (l:=[])
  obtain ⟨ru,a3,b5,b6,b7,b8,g⟩:=g_Odd (L:=L) (a:=a2) (by unfold posN; omega) 1 3 (by omega) (by omega) (by omega)
  have O:=fun K=>g.hd (l:=[]) (K:=K)
  have hl : LimOk l:=⟨by omega,fun x hx=>(hlb x hx).k⟩
  have hrn : r.length ≤ 12:=by omega
  have S1:=fun h K=>s_Bins (h:=h) (K:=K) l r ru hl hr2 hrn
  have S2:=fun h K=>s_Pareto (h:=h) (K:=K) l r ru hl (by omega) hr2 hrn
  have S3:=fun h K=>s_Recovered (h:=h) (K:=K) l r hl hr2 hrn
  have S4:=fun h K=>s_BySite (h:=h) (K:=K) l r hl hr2 hrn
  have S5:=fun h K=>s_RecordsFault (h:=h) (K:=K) l r hl hr2 (by omega)
  have S6:=fun h K=>s_RuleFault (h:=h) (K:=K) ru
  have S7:=fun h K=>s_errs (h:=h) (K:=K) [recsFault l r,ruleF ru] (by simp)
  simp only [AL,List.map_cons,List.map_nil,firstErr_orL'] at S7
  have e2:=@e_q047_k2
  have fin : ∀ (h : Heap) (x : Esc),x = [] → finR [.t 2] false (List.length ([] : Heap)) (fun v1 h1 x1=>v1 = AB true ∧ h1 = [] ∧ x1 = []) .ret ⟨[(2,AB true)],h,x⟩:=fun h x hx=>by
    subst hx
    simp only [go_sem]
  have hB : (binsP l ru r).length ≤ 1000000:=by have:=binsFrom_len l ru r 100 1; unfold binsP; omega
  have hP : (paretoP l ru r).length ≤ 1000000:=by
    unfold paretoP orderP
    simp only [List.length_map,isort_len]
    have:=List.length_filter_le (fun i=>decide (0 < nFail l ru r i)) (List.range l.length)
    simp at this
    omega
  have k2:=fun (B P : List SS) (o : Int) hB hP h K hK=>uc_k2 l r B P o hl hr2 hrn hB hP h K hK
  by_cases he : orL [recsFault l r,ruleF ru] = 0
  · have hz : recsFault l r = 0 := by unfold orL at he; split at he <;> simp_all
    have hf : ruleF ru = 0:=by rw [hz] at he; unfold orL at he; simp at he; unfold orL at he; split at he <;> simp_all
    have hru : 1 ≤ ru ∧ ru ≤ 3:=by unfold ruleF at hf; split at hf <;> simp_all
    have S8:=fun h K=>s_BinsOf (h:=h) (K:=K) l r ru hru hl hr2 hrn (recsFault_lims hz)
    have S9:=fun h K=>s_ParetoOf (h:=h) (K:=K) l r ru hru hl (by omega) hr2 hrn
    simp only [he,if_true] at S1 S2 S7
    simp only [hz,if_true] at S3 S4 S5 k2
    simp only [hz] at S7
    simp only [d_q047,go_sem,P1,↓V,V,hn,↓R,R,↓O,O,↓S1,S1,↓S2,S2,↓S3,S3,↓S4,S4,↓S5,S5,↓S6,S6,↓S7,S7,↓S8,S8,↓S9,S9]
    rw [e2]
    simp only [aget,Nat.reduceEqDiff,if_true,if_false]
    exact k2 _ _ 0 hB hP _ _ fin
  · simp only [he, if_false] at S1 S2
    have hS34 : ∀ h K,ACall X f_q02j [ALim l,ARec r] h K = K (.tup [if recsFault l r = 0 then AStr (recovP l r) else AStr [],AI (recsFault l r)]) h []:=fun h K=>by
      rw [S3]; by_cases hz : recsFault l r = 0 <;> simp [hz]
    have hS44 : ∀ h K,ACall X f_q028 [ALim l,ARec r] h K = K (.tup [if recsFault l r = 0 then ASS (siteP l r) else ASS [],AI (recsFault l r)]) h []:=fun h K=>by
      rw [S4]; by_cases hz : recsFault l r = 0 <;> simp [hz]
    clear S3 S4
    simp only [ASS,List.map_nil] at S1 S2
    simp only [d_q047,go_sem,P1,↓V,V,hn,↓R,R,↓O,O,↓S1,S1,↓S2,S2,↓hS34,hS34,↓hS44,hS44,↓S5,S5,↓S6,S6,↓S7,S7,he]
    rw [e2]
    simp only [aget,Nat.reduceEqDiff,if_true,if_false]
    exact k2 [] [] _ (by simp) (by simp) _ _ fin
end Go.Am
end
section
/- From a law that is true here to the model's calls at what came in. -/
open Go
namespace Go.Am
variable {P : Program}
theorem law_nil {X : Ctx} (HX : Fits P X) {f : Nat} {F : AFun} (hF : X.fn f = some F) (H : ∀ L : List Int,ACall X f [pints L] [] fun v _ _=>v = .p (.bool true)) (W : World) (hG : GInv X.gl (imm [] [] W)) :
    Calls P f #[.slice none 0 0] W fun e W'=>e = .returned (.bool true) ∧ RowKit.Below W.heap.size W W':=by
  refine (calls_of HX hF (H []) (W:=W) (vs:=[.slice none 0 0]) hG rfl (fun j y v hy hv=>?_)).mono fun e W' he=>?_
  · cases j with
    | zero=>cases hy; cases hv; exact came_nil W
    | succ j=>cases hy
  · cases e with
    | returned r=>
      obtain ⟨⟨v,h,x,μ,hk,hr⟩,hb⟩:=he
      subst hk
      exact ⟨by rw [hr.p_bool],hb⟩
    | panicked _=>exact he.elim
    | outgrown=>exact he.elim
theorem law_ints {X : Ctx} (HX : Fits P X) {f : Nat} {F : AFun} (hF : X.fn f = some F) (H : ∀ L : List Int,ACall X f [pints L] [] fun v _ _=>v = .p (.bool true)) {W : World} (hG : GInv X.gl (imm [] [] W)) {a : Addr} {len cap : Nat} {zs : List Int}
    (hl : len ≤ cap) (hz : len ≤ zs.length) (hc : ∀ i,i < zs.length → W.cell? (a.add i) = some (.int .i64 (zs.getD i 0))) :
    Calls P f #[.slice (some a) len cap] W fun e W'=>e = .returned (.bool true) ∧ RowKit.Below W.heap.size W W':=by
  refine (calls_of HX hF (H (zs.take len)) (W:=W) (vs:=[.slice (some a) len cap]) hG rfl (fun j y v hy hv=>?_)).mono fun e W' he=>?_
  · cases j with
    | zero=>
      cases hy; cases hv
      rcases Nat.eq_zero_or_pos len with h0 | h0
      · subst h0
        exact .p _ _ (.nils _ _ _)
      · exact came_ints (by simpa [Addr.add] using World.cell?_spot (hc 0 (by omega))) hl hz hc
    | succ j=>cases hy
  · cases e with
    | returned r=>
      obtain ⟨⟨v,h,x,μ,hk,hr⟩,hb⟩:=he
      subst hk
      exact ⟨by rw [hr.p_bool],hb⟩
    | panicked _=>exact he.elim
    | outgrown=>exact he.elim
end Go.Am
namespace Go.ChangeShapes
open Go.RowKit Go.WideShapes
section
variable {H : Type} {enc : TypeId × Value → H} {P : Program}
end
end Go.ChangeShapes
end
section
/- The abstract machine,part L2: the kit's contracts as rows. -/
set_option linter.unusedSimpArgs false
set_option linter.unusedVariables false
namespace Go.Am
variable {P : Program} {gl : Nat → Option PV}
open Go.Shelf
theorem lib_dec : ∀ n : Nat,Go.Lib.decDigits n = decN n:=by
  intro n
  induction n using Nat.strongRecOn with
  | _ n ih=>
    rw [Go.Lib.decDigits,decN]
    split
    · rfl
    · rw [ih _ (by omega)]; rfl
theorem lib_itoa (n : Int) : Go.Lib.itoa n = itoa n:=by
  unfold Go.Lib.itoa itoa
  split
  · rw [lib_dec]
  · rw [lib_dec]; congr 1; omega
theorem tab_of {M : Mem} {w : World} {g : Nat} {name : String} {k : IntKind} {zs : List Int} (hn : P.globalNamed name = some g) (hg : gl g = some (.agg (zs.map (PV.int k)))) (hc : ∀ b o v,M.c b o = some v → w.cell? ⟨b,o,none⟩ = some v) (hb : ∀ b o,M.b b = some o → w.heap[b]? = some o) (hG : GInv gl M) :
    Go.Lib.TabIs P w name k zs:=by
  obtain ⟨hv,cs,t,x,h2,h3⟩:=hG g _ hg
  have h4:=hb _ _ h2
  unfold Go.Lib.TabIs World.var?
  rw [hn]
  simp only [Option.bind_some,h4,Option.some.injEq]
  simp only [PV.cells,List.length_map] at h3
  apply Array.ext
  · simpa using h3
  · intro i hi1 hi2
    have hi : i < zs.length:=by omega
    cases hv with
    | vp _ _ _ f hm hr=>
      have hy : (PV.agg (zs.map (PV.int k))).cells[i]? = some (.int k zs[i]):=by simp [PV.cells,hi]
      have q1:=hc _ _ _ (hm i _ hy)
      have q2:=hr i _ hy
      have q3 : f i = .int k zs[i]:=by
        generalize f i = u at q2
        cases q2; rfl
      rw [q3] at q1
      have q4 : cs[i]? = some (.int k zs[i]):=by simpa [World.cell?,h4] using q1
      rw [Array.getElem?_eq_getElem hi1] at q4
      simpa using q4
theorem ginv_tab {W : World} {g : Nat} {name : String} {k : IntKind} {zs : List Int} {v : PV} (hn : P.globalNamed name = some g) (ht : Go.Lib.TabIs P W name k zs) (hv : v = .agg (zs.map (PV.int k))) : GInv (glOf [(g,v)]) (imm [] [] W):=by
  intro n v' hv'
  unfold glOf at hv'
  cases hq : Nat.beq n g with
  | false=>rw [hq] at hv'; cases hv'
  | true=>
    rw [hq] at hv'
    have e:=Nat.eq_of_beq_eq_true hq
    subst e
    simp only [cond_true,Option.some.injEq] at hv'
    subst hv'
    subst hv
    unfold Go.Lib.TabIs World.var? at ht
    rw [hn] at ht
    simp only [Option.bind_some] at ht
    cases hb : W.heap[n]? with
    | none=>rw [hb] at ht; cases ht
    | some o=>
      rw [hb] at ht
      cases o with
      | cells cs t x=>
        simp only [Option.some.injEq] at ht
        refine ⟨.vp _ n 0 (fun j=>(zs.map fun z=>Value.int k z).getD j undef) (fun j y hy=>?_) (fun j y hy=>?_),cs,t,x,imm0_blk hb,by rw [ht]; simp [PV.cells]⟩
        · have hj : j < zs.length := by have := lt_of_get hy; simpa [PV.cells] using this
          refine imm0_cell ?_
          simp [World.cell?,hb,ht,hj,List.getD_eq_getElem?_getD]
        · have hj : j < zs.length := by have := lt_of_get hy; simpa [PV.cells] using this
          have e1 : y = .int k zs[j]:=by simpa [PV.cells,hj] using hy.symm
          have e2 : (zs.map fun z=>Value.int k z).getD j undef = .int k zs[j]:=by simp [List.getD_eq_getElem?_getD,hj]
          rw [e1,e2]
          exact .int k _
      | _=>cases ht
theorem grow_ext (w : World) (k : Nat) (os : Array Go.Obj) : WExt w (Go.Sort.grow (w.drewN k) os):=by
  refine ⟨?_,fun b hb=>?_,rfl⟩
  · show w.heap.size ≤ (w.heap ++ os).size
    simp
  · show (w.heap ++ os)[b]? = _
    rw [Array.getElem?_append_left hb]
theorem itoaRow {ρ : Ren} (L : Go.Proofs.LaysM.n171 P ρ) (g : Nat) (hn : P.globalNamed "internal/strconv.uint64pow10" = some g) (hg : gl g = some pow10PV) (he : ∀ us w,(callFunc (ρ.f 171) us).run P w = .ok (.enter (ρ.f 171) us) w) : PureRow P gl (ρ.f 171) itoaS where
  enter:=he
  run M w vs r us hc hb hG hl hr hs:=by
    unfold itoaS at hs
    split at hs
    · rename_i n
      match us,hl with
      | [u],_=>
        have q:=hr 0 _ u rfl rfl
        cases q
        cases hbd : (decide (-9223372036854775808 ≤ n) && decide (n ≤ 9223372036854775807)) with
        | false=>rw [hbd] at hs; cases hs
        | true=>
          rw [hbd] at hs
          simp only [cond_true,Option.some.injEq] at hs
          subst hs
          simp only [Bool.and_eq_true,decide_eq_true_eq] at hbd
          have hpw : pow10PV = .agg (Go.Lib.pow10Tab.map (PV.int .u64)):=by unfold pow10PV Go.Lib.pow10Tab; rw [List.map_map]; rfl
          rw [hpw] at hg
          refine (Go.Proofs.Any.strconv_Itoa L n hbd.1 hbd.2 w (tab_of hn hg hc hb hG)).mono fun e w' h=>?_
          obtain ⟨rfl,k,os,rfl⟩:=h
          exact ⟨_,rfl,grow_ext w k os,by rw [lib_itoa]; exact .p _ _ (.str _)⟩
    · cases hs
end Go.Am
end
