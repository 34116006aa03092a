/- Texts of the proof, laid together: SpPar, SpDelT, SpRcv, SpSit, PFail, SpLawFA, Bridge, AmL2, AmL3. -/
import Derived.ProofKit
import Derived.Shelf.Strconv.Itoa3
import Derived.Lib.LaidTab
import Derived.Shelf.Strconv.AtoiAll
import Derived.Test.YtdjkfcdognndjaaGreatDoorlawFA9
set_option linter.all false
section
/- How often tests are failed,both ways. -/
open Go
set_option linter.all false
namespace Go.Am
variable {h : Heap} {K : Post}
def cntsL (l : List Lim) (xs : List Rec) : List Int:=(List.range l.length).map fun i : Nat=>((xs.countP fun x=>decide (failIdx l x.res = (i : Int)) : Nat) : Int)
theorem cntsL_len (l : List Lim) (xs : List Rec) : (cntsL l xs).length = l.length:=by simp [cntsL]
theorem cntsL_get (l : List Lim) (xs : List Rec) (i : Nat) (hi : i < l.length) : (cntsL l xs)[i]? = some ((xs.countP fun x=>decide (failIdx l x.res = (i : Int)) : Nat) : Int):=by simp [cntsL,hi]
theorem cntsL_hit (l : List Lim) (xs : List Rec) (c : Rec) (i : Nat) (hi : i < l.length) (hc : failIdx l c.res = (i : Int)) : cntsL l (xs ++ [c]) = (cntsL l xs).set i (((xs.countP fun x=>decide (failIdx l x.res = (i : Int)) : Nat) : Int) + 1):=by
  apply List.ext_getElem?
  intro j
  rw [List.getElem?_set]
  by_cases hij : i = j
  · subst hij
    rw [if_pos rfl,if_pos (by rw [cntsL_len]; exact hi),cntsL_get l _ i hi]
    simp [List.countP_append,hc]
  · rw [if_neg hij]
    rcases Nat.lt_or_ge j l.length with hj | hj
    · rw [cntsL_get l _ j hj, cntsL_get l _ j hj]
      have : ¬ failIdx l c.res = (j : Int):=by rw [hc]; omega
      simp [List.countP_append,this]
    · rw [List.getElem?_eq_none (by rw [cntsL_len]; exact hj),List.getElem?_eq_none (by rw [cntsL_len]; exact hj)]
theorem cntsL_miss (l : List Lim) (xs : List Rec) (c : Rec) (hc : failIdx l c.res < 0) : cntsL l (xs ++ [c]) = cntsL l xs:=by
  unfold cntsL
  refine List.map_congr_left fun j _=>?_
  have : ¬ failIdx l c.res = (j : Int):=by omega
  simp [List.countP_append,this]
theorem cntsL_nil (l : List Lim) : cntsL l [] = List.replicate l.length 0:=by
  unfold cntsL
  rw [List.eq_replicate_iff]
  refine ⟨by simp,fun x hx=>?_⟩
  obtain ⟨i,_,e⟩:=List.mem_map.1 hx
  simpa using e.symm
theorem cmp3_lt (x y : Int) : (cmp3 x y < 0) ↔ x < y:=by unfold cmp3; split <;> (try split) <;> omega
def unI64 : PV → Int
  | .int _ n=>n
  | _=>0
theorem s_Pareto1 (cs : List Int) (a b : Nat) (id1 id2 : Nat) (ha : a < cs.length) (hb : b < cs.length) (hh1 : h[id1]? = some (.row none (cs.map eI) 0)) (hh2 : h[id2]? = some (.box [.own id1 cs.length 0 cs.length])) :
    ACall X f_q029 [AI a,AI b,.ref id2 0] h K = K (AI (cmp3 cs[b] cs[a])) h []:=by
  refine rule ?_
  rw [c_q029 rfl]
  have g1:=map_get eI ha
  have g2:=map_get eI hb
  simp only [d_q029,go_sem,hh1,hh2,ha,hb,g1,g2,s_cmpCompare]
attribute [-go_sem] oLook oMupd
set_option maxHeartbeats 2000000 in
theorem s_Pareto (l : List Lim) (r : List Rec) (ru : Int) (hl : LimOk l) (hl2 : l.length ≤ 19) (hr : ∀ x ∈ r,RecOk x) (hn : r.length ≤ 12) :
    ACall X f_q028 [ALim l,ARec r,AI ru] h K = K (if orL [recsFault l r,ruleF ru] = 0 then .tup [ASS (paretoP l ru r),AI 0] else .tup [ASS [],AI (orL [recsFault l r,ruleF ru])]) h []:=by
  refine rule ?_
  rw [c_q028 rfl]
  have q1:=fun h K=>s_ruleFault (h:=h) (K:=K) l r ru hl hr (by omega)
  by_cases he : orL [recsFault l r,ruleF ru] = 0
  case neg=>
    simp only [d_q028,go_sem,↓q1,q1,he]
    rfl
  have hz : recsFault l r = 0:=by unfold orL at he; split at he <;> simp_all
  have hfm : ∀ x ∈ r,formB l x.res = true:=fun x hx=>recFault_form (recsFault_all hz x hx)
  have q2:=fun h K=>s_final (h:=h) (K:=K) l ru r hfm hl.n hn
  have hul : (finL l ru r).length ≤ 12:=by have:=finL_len l ru r; omega
  have hmem : ∀ x ∈ finL l ru r,formB l x.res = true:=fun x hx=>hfm x (finL_mem hx)
  have hnf : ∀ i,nFail l ru r i ≤ 12:=fun i=>by have:=nFail_le l ru r i; omega
  have hcf : ∀ i (hi : i < l.length),(cntsL l (finL l ru r))[i]? = some ((nFail l ru r i : Nat) : Int):=fun i hi=>cntsL_get l _ i hi
  have hms : (l.length : Int) = ((l.length : Nat) : Int):=rfl
  have hmx : l.length ≤ maxSl:=by unfold maxSl; omega
  have hb0 : ¬ (h.length + 1 < h.length + 1):=by omega
  unfold paretoP
  simp only [d_q028,go_sem,↓q1,q1,he,↓q2,q2,hmx,escOf]
  generalize finL l ru r = fs at *
  refine N_loop (fun k : Nat=>⟨[(0,ALim l),(9,.ref (h.length + 1) 0),(32,ARec fs),(33,AI fs.length),(34,AI k)],h ++ [.row none ((cntsL l (fs.take k)).map eI) 0,.box [.own h.length l.length 0 l.length]],[]⟩)
    (fun k=>k ≤ fs.length) (fun k=>fs.length - k) 0 ?_ (by omega) ?_
  · simp only [List.take_zero, cntsL_nil, List.map_replicate, Nat.lt_irrefl, if_false]
    rfl
  intro k hk
  rcases Nat.lt_or_ge k fs.length with hlt | hge
  · have hg := map_get Rec.pv hlt
    have cx : cutP (some 4) 0 (fs[k].pv) = some fs[k].pv:=rfl
    have w2 : IntKind.i64.wrap ((k : Int) + 1) = ((k + 1 : Nat) : Int):=i64_wrap _ (by omega) (by omega)
    have hum:=List.getElem_mem hlt
    have et : fs.take (k + 1) = fs.take k ++ [fs[k]]:=List.take_succ_eq_append_getElem hlt
    have hcf2:=hmem _ hum
    have hcl : ∀ i : Nat,(fs.take k).countP (fun x=>decide (failIdx l x.res = (i : Int))) ≤ 12:=fun i=>by
      have : (fs.take k).countP (fun x=>decide (failIdx l x.res = (i : Int))) ≤ (fs.take k).length:=List.countP_le_length
      simp at this; omega
    have hln:=cntsL_len l (fs.take k)
    generalize fs[k] = c at *
    have q3:=fun h K=>s_failsF (h:=h) (K:=K) l c hcf2 hl.n
    simp only [Rec.pv] at q3 hg cx
    rcases failIdx_cases l c.res with ⟨e,_⟩ | ⟨i,e,hi,_⟩
    · have ec := cntsL_miss l (fs.take k) c (by omega)
      rw [e] at q3
      simp only [go_sem,hlt,hg,cx,w2,↓q3,q3]
      refine ⟨k + 1,?_,by omega,by omega⟩
      rw [et,ec]
    · have hil : i < l.length := by unfold goods at hi; simp at hi; omega
      have ec:=cntsL_hit l (fs.take k) c i hil e
      have gi:=cntsL_get l (fs.take k) i hil
      have hi0 : (0 : Int) ≤ (i : Int):=by omega
      have hcli:=hcl i
      rw [e] at q3
      generalize cntsL l (fs.take k) = cs at *
      generalize (fs.take k).countP (fun x=>decide (failIdx l x.res = (i : Int))) = cc at *
      have gm : (cs.map eI)[i]? = some (eI cc):=by rw [List.getElem?_map,gi]; rfl
      have w3 : IntKind.i64.wrap ((cc : Int) + 1) = (cc : Int) + 1:=i64_wrap _ (by omega) (by omega)
      have es : (cs.map eI).set i (PV.int .i64 ((cc : Int) + 1)) = (cs.set i ((cc : Int) + 1)).map eI:=by rw [List.map_set]
      simp only [go_sem,hlt,hg,cx,w2,↓q3,q3,hi0,hln,hil,gm,w3,es]
      refine ⟨k + 1,?_,by omega,by omega⟩
      rw [et,ec]
  · have ek : k = fs.length := by omega
    subst ek
    rw [List.take_length]
    have hln:=cntsL_len l fs
    generalize cntsL l fs = cs at *
    have hcg : ∀ i (hi : i < cs.length),cs[i] = ((nFail l ru r i : Nat) : Int):=fun i hi=>by
      have:=hcf i (by omega)
      rw [List.getElem?_eq_getElem hi] at this
      exact Option.some.inj this
    simp only [go_sem,Nat.lt_irrefl,hln]
    generalize hnF : nFail l ru r = nf at *
    refine N_loop (fun k : Nat=>⟨[(0,ALim l),(9,.ref (h.length + 1) 0),(13,.own (h.length + 2) ((List.range k).filter fun i=>decide (0 < nf i)).length 0 ((List.range k).filter fun i=>decide (0 < nf i)).length),(50,.own h.length l.length 0 l.length),(51,AI l.length),(52,AI k)],h ++ [.row none (cs.map eI) 0,.box [.own h.length l.length 0 l.length],.row none (((List.range k).filter fun i=>decide (0 < nf i)).map fun i : Nat=>eI i) 0],[]⟩)
      (fun k=>k ≤ l.length) (fun k=>l.length - k) 0 rfl (by omega) ?_
    intro k hk
    rcases Nat.lt_or_ge k l.length with hlt | hge
    · have hkc : k < cs.length := by omega
      have hg:=map_get eI hkc
      have hv:=hcg k hkc
      rw [hv] at hg
      have w2 : IntKind.i64.wrap ((k : Int) + 1) = ((k + 1 : Nat) : Int):=i64_wrap _ (by omega) (by omega)
      have er : (List.range (k + 1)).filter (fun i=>decide (0 < nf i)) = (List.range k).filter (fun i=>decide (0 < nf i)) ++ (if 0 < nf k then [k] else []):=by
        rw [List.range_succ,List.filter_append]; by_cases h0 : 0 < nf k <;> simp [h0]
      have hfl : ((List.range k).filter fun i=>decide (0 < nf i)).length ≤ k:=by have:=List.length_filter_le (fun i=>decide (0 < nf i)) (List.range k); simpa using this
      generalize (List.range k).filter (fun i=>decide (0 < nf i)) = o at *
      have hmx2 : o.length + 1 ≤ maxSl:=by unfold maxSl; omega
      have em : (o.map fun i : Nat=>eI i) ++ [PV.int .i64 (k : Int)] = (o ++ [k]).map fun i : Nat=>eI i:=by simp
      by_cases h0 : 0 < nf k
      · rw [if_pos h0] at er
        have h0' : (0 : Int) < ((nf k : Nat) : Int):=by omega
        simp only [go_sem,hlt,hln,hg,h0',hmx2,w2,List.length_map]
        refine ⟨k + 1,?_,by omega,by omega⟩
        rw [er,em]
        simp
      · rw [if_neg h0, List.append_nil] at er
        have h0' : ¬ (0 : Int) < ((nf k : Nat) : Int):=by omega
        simp only [go_sem,hlt,hln,hg,h0',w2,List.length_map]
        refine ⟨k + 1,?_,by omega,by omega⟩
        rw [er]
    · have ek : k = l.length := by omega
      subst ek
      have hol : ((List.range l.length).filter fun i=>decide (0 < nf i)).length ≤ l.length:=by have:=List.length_filter_le (fun i=>decide (0 < nf i)) (List.range l.length); simpa using this
      have hom : ∀ i ∈ (List.range l.length).filter (fun i=>decide (0 < nf i)),i < l.length:=fun i hi=>by have:=(List.mem_filter.1 hi).1; simpa using this
      unfold orderP
      have so:=fun K=>stable_int (h:=h ++ [.row none (cs.map eI) 0,.box [.own h.length l.length 0 l.length],.row none (((List.range l.length).filter fun i=>decide (0 < nf i)).map fun i : Nat=>eI i) 0]) (K:=K) (h.length + 2) (((List.range l.length).filter fun i=>decide (0 < nf i)).map fun i : Nat=>eI i)
        (fun x hx=>by obtain ⟨n,_,rfl⟩:=List.mem_map.1 hx; rfl) (by simp; omega) (by simp) (g:=f_q029) (caps:=[.ref (h.length + 1) 0]) (c:=fun x y=>cmp3 (nf (unI64 y).toNat) (nf (unI64 x).toNat))
        (fun o x hx y hy K=>by
          obtain ⟨a,ha,rfl⟩:=List.mem_map.1 hx
          obtain ⟨b,hb,rfl⟩:=List.mem_map.1 hy
          have ha' : a < cs.length:=by have:=hom a ha; omega
          have hb' : b < cs.length:=by have:=hom b hb; omega
          have e1 : (h ++ [.row none (cs.map eI) 0,.box [.own h.length l.length 0 l.length],Obj.row none (((List.range l.length).filter fun i=>decide (0 < nf i)).map fun i : Nat=>eI i) 0]).set (h.length + 2) o = h ++ [.row none (cs.map eI) 0,.box [.own h.length l.length 0 l.length],o]:=by rw [List.set_append_right _ _ (by omega)]; simp
          have:=s_Pareto1 (h:=h ++ [.row none (cs.map eI) 0,.box [.own h.length l.length 0 l.length],o]) (K:=K) cs a b h.length (h.length + 1) ha' hb' (by simp) (by simp [hln])
          rw [e1]
          refine this.trans ?_
          simp only [unI64,Int.toNat_natCast]
          rw [hcg,hcg])
      have em : isort (ltC fun x y=>cmp3 (nf (unI64 y).toNat) (nf (unI64 x).toNat)) (((List.range l.length).filter fun i=>decide (0 < nf i)).map fun i : Nat=>eI i) = (isort (fun a b=>decide (nf b < nf a)) ((List.range l.length).filter fun i=>decide (0 < nf i))).map fun i : Nat=>eI i:=
        isort_map (fun i : Nat=>eI i) (fun a b=>by simp only [ltC,unI64,Int.toNat_natCast,cmp3_lt]; by_cases h : nf b < nf a <;> simp [h]) _
      rw [em] at so
      have il:=isort_len (fun a b=>decide (nf b < nf a)) ((List.range l.length).filter fun i=>decide (0 < nf i))
      have hsm : ∀ i ∈ isort (fun a b=>decide (nf b < nf a)) ((List.range l.length).filter fun i=>decide (0 < nf i)),i < l.length:=fun i hi=>hom i (isort_mem.1 hi)
      generalize isort (fun a b=>decide (nf b < nf a)) ((List.range l.length).filter fun i=>decide (0 < nf i)) = ss at *
      generalize (List.range l.length).filter (fun i=>decide (0 < nf i)) = o at *
      have e1 : ∀ o',(h ++ [.row none (cs.map eI) 0,.box [.own h.length l.length 0 l.length],Obj.row none (o.map fun i : Nat=>eI i) 0]).set (h.length + 2) o' = h ++ [.row none (cs.map eI) 0,.box [.own h.length l.length 0 l.length],o']:=fun o'=>by rw [List.set_append_right _ _ (by omega)]; simp
      simp only [e1,List.length_map] at so
      simp only [go_sem,Nat.lt_irrefl,so]
      rw [← il]
      refine N_loop (fun k : Nat=>⟨[(0,ALim l),(9,.ref (h.length + 1) 0),(16,.own (h.length + 3) k 0 k),(67,.own (h.length + 2) ss.length 0 ss.length),(68,AI ss.length),(69,AI k)],h ++ [.row none (cs.map eI) 0,.box [.own h.length l.length 0 l.length],.row none (ss.map fun i : Nat=>eI i) 0,.row (some 2) (((ss.take k).map fun i=>(keyAt l i,itoa (nf i))).map ssPv) 0],[]⟩)
        (fun k=>k ≤ ss.length) (fun k=>ss.length - k) 0 rfl (by omega) ?_
      intro k hk
      rcases Nat.lt_or_ge k ss.length with hlt | hge
      · have hg := map_get (fun i : Nat => eI i) hlt
        have hsl:=hsm _ (List.getElem_mem hlt)
        have w2 : IntKind.i64.wrap ((k : Int) + 1) = ((k + 1 : Nat) : Int):=i64_wrap _ (by omega) (by omega)
        have hmx2 : k + 1 ≤ maxSl:=by unfold maxSl; omega
        have hlk : min k ss.length = k:=by omega
        have et : ((ss.take (k + 1)).map fun i=>(keyAt l i,itoa (nf i))).map ssPv = ((ss.take k).map fun i=>(keyAt l i,itoa (nf i))).map ssPv ++ [ssPv (keyAt l ss[k],itoa (nf ss[k]))]:=by rw [List.take_succ_eq_append_getElem hlt,List.map_append,List.map_append]; rfl
        generalize ss[k] = i at *
        have hic : i < cs.length:=by omega
        have g1:=map_get Lim.pv hsl
        have g2:=map_get eI hic
        rw [hcg i hic] at g2
        have hni:=hnf i
        have ekey : keyAt l i = l[i].key:=by unfold keyAt; rw [List.getD_eq_getElem?_getD,List.getElem?_eq_getElem hsl]; rfl
        have q4:=fun h K=>s_pair (h:=h) (K:=K) (keyAt l i) (nf i) (by omega) (by omega)
        rw [ekey] at q4 et
        simp only [Lim.pv] at g1
        simp only [ssPv] at q4 et
        simp only [go_sem,hlt,hg,hsl,g1,hic,hln,g2,↓q4,q4,w2,hmx2,hlk,List.length_map,List.length_take]
        refine ⟨k + 1,?_,by omega,by omega⟩
        rw [et]
      · have ek : k = ss.length := by omega
        subst ek
        simp only [go_sem,Nat.lt_irrefl,List.take_length]
        rw [win_full (by simp)]
end Go.Am
end
section
/- Deleting strings at the front of a row: printed by program. -/
open Go
set_option linter.unusedSimpArgs false
namespace Go.Am
attribute [-go_sem] PV.cells splice
variable {h : Heap} {K : Post}
end Go.Am
end
section
/- Recovered units,both ways. -/
open Go
set_option linter.all false
namespace Go.Am
variable {h : Heap} {K : Post}
theorem snoc_ind {α : Type} {P : List α → Prop} (h0 : P []) (h1 : ∀ xs x,P xs → P (xs ++ [x])) (l : List α) : P l:=by
  have key : ∀ l : List α,P l.reverse:=by
    intro l
    induction l with
    | nil=>exact h0
    | cons x l ih=>rw [List.reverse_cons]; exact h1 _ _ ih
  have:=key l.reverse
  rwa [List.reverse_reverse] at this
def vB (b : Bool) : AV:=.p (.bool b)
def fmap (l : List Lim) (m : List (List UInt8 × Bool)) (x : Rec) : List (List UInt8 × Bool):=if (getM x.unit m).isSome then m else updM x.unit (badR l x) m
def omap (l : List Lim) (t : List (List UInt8 × Bool) × List (List UInt8 × Bool)) (x : Rec) : List (List UInt8 × Bool) × List (List UInt8 × Bool):=
  (fmap l t.1 x,if (getM x.unit t.1).getD false = true ∧ badR l x = false then updM x.unit true t.2 else t.2)
def rcvT (l : List Lim) (xs : List Rec) : List (List UInt8 × Bool) × List (List UInt8 × Bool):=xs.foldl (omap l) ([],[])
theorem rcv_snoc (l : List Lim) (xs : List Rec) (x : Rec) : rcvT l (xs ++ [x]) = omap l (rcvT l xs) x:=by unfold rcvT; rw [List.foldl_append]; rfl
theorem ofU_snoc2 (p : List Rec) (x : Rec) (u : List UInt8) : ofU (p ++ [x]) u = if x.unit = u then ofU p u ++ [x] else ofU p u:=ofU_snoc p x u
theorem rcv_fst (l : List Lim) (xs : List Rec) : ∀ u,getM u (rcvT l xs).1 = (ofU xs u).head?.map (badR l):=by
  refine snoc_ind (P:=fun xs=>∀ u,getM u (rcvT l xs).1 = (ofU xs u).head?.map (badR l)) (fun u=>rfl) (fun xs x ih=>?_) xs
  · intro u
    rw [rcv_snoc,ofU_snoc]
    unfold omap fmap
    dsimp only
    by_cases hu : x.unit = u
    · subst hu
      rw [if_pos rfl]
      cases hg : getM x.unit (rcvT l xs).1 with
      | none=>
        have h1:=ih x.unit
        rw [hg] at h1
        have h2 : (ofU xs x.unit) = []:=by
          cases ho : ofU xs x.unit with
          | nil=>rfl
          | cons a b=>rw [ho] at h1; cases h1
        rw [h2]
        simp [get_upd]
      | some b=>
        have h1:=ih x.unit
        rw [hg] at h1
        simp only [Option.isSome_some,if_true,hg]
        cases ho : ofU xs x.unit with
        | nil=>rw [ho] at h1; cases h1
        | cons a c=>rw [ho] at h1; simpa using h1
    · rw [if_neg hu]
      split
      · exact ih u
      · rw [get_upd,if_neg (fun e=>hu e.symm)]; exact ih u
theorem rcv_snd (l : List Lim) (xs : List Rec) : (keysM (rcvT l xs).2).Nodup ∧ ∀ u,u ∈ keysM (rcvT l xs).2 ↔ (ofU xs u ≠ [] ∧ recovB l xs u = true):=by
  refine snoc_ind (P:=fun xs=>(keysM (rcvT l xs).2).Nodup ∧ ∀ u,u ∈ keysM (rcvT l xs).2 ↔ (ofU xs u ≠ [] ∧ recovB l xs u = true)) ⟨List.nodup_nil,fun u=>by simp [rcvT,keysM,ofU]⟩ (fun xs x ih=>?_) xs
  · rw [rcv_snoc]
    have hf:=rcv_fst l xs x.unit
    unfold omap
    dsimp only
    have base : ∀ u,(ofU (xs ++ [x]) u ≠ [] ∧ recovB l (xs ++ [x]) u = true) ↔ (u ∈ keysM (rcvT l xs).2 ∨ (u = x.unit ∧ (getM x.unit (rcvT l xs).1).getD false = true ∧ badR l x = false)):=by
      intro u
      rw [ih.2 u,ofU_snoc2]
      unfold recovB
      rw [ofU_snoc2]
      by_cases hu : x.unit = u
      · subst hu
        rw [if_pos rfl,hf]
        cases ho : ofU xs x.unit with
        | nil=>
          simp only [List.nil_append,List.head?_nil,Option.map_none,Option.getD_none]
          cases hb : badR l x <;> simp [hb]
        | cons a b=>
          simp only [List.cons_append,List.headD_cons,List.head?_cons,Option.map_some,Option.getD_some,List.any_cons,List.any_append,List.any_nil]
          cases hb : badR l x <;> cases ha : badR l a <;> simp [hb,ha]
      · rw [if_neg hu]
        have : ¬ u = x.unit:=fun e=>hu e.symm
        simp [this]
    by_cases hc : (getM x.unit (rcvT l xs).1).getD false = true ∧ badR l x = false
    · rw [if_pos hc]
      refine ⟨keys_nodup _ _ ih.1,fun u=>?_⟩
      rw [base u,keys_upd]
      split
      · rename_i hm
        constructor
        · intro h; exact .inl h
        · rintro (h | ⟨h, _⟩)
          · exact h
          · rw [h]; exact hm
      · rw [List.mem_append, List.mem_singleton]
        constructor
        · rintro (h | h)
          · exact .inl h
          · exact .inr ⟨h,hc⟩
        · rintro (h | h)
          · exact .inl h
          · exact .inr h.1
    · rw [if_neg hc]
      refine ⟨ih.1,fun u=>?_⟩
      rw [base u]
      constructor
      · intro h; exact .inl h
      · rintro (h | ⟨_, h⟩)
        · exact h
        · exact absurd h hc
theorem recov_names {l : List Lim} {r : List Rec} {ns : List (List UInt8)} (hp : ns.Perm (keysM (rcvT l r).2)) : isort ltS ns = recovP l r:=by
  have hs:=rcv_snd l r
  refine strict_ext ordS ?_ ?_ fun u=>?_
  · rw [ltS_eq]
    exact strict_isort ordS ((hp.nodup_iff.2 hs.1).imp fun {a b} h hc=>h (cmpL_eq hc))
  · exact List.Pairwise.sublist List.filter_sublist (units_strict r)
  · rw [isort_mem, hp.mem_iff, hs.2 u]
    unfold recovP
    rw [List.mem_filter,units_mem]
    constructor
    · rintro ⟨h1, h2⟩
      obtain ⟨x,hx⟩:=List.exists_mem_of_ne_nil _ h1
      exact ⟨⟨x,(ofU_mem.1 hx).1,(ofU_mem.1 hx).2⟩,h2⟩
    · rintro ⟨⟨x, hx, e⟩, h2⟩
      refine ⟨fun h=>?_,h2⟩
      have : x ∈ ofU r u:=ofU_mem.2 ⟨hx,e⟩
      rw [h] at this; exact absurd this (by simp)
theorem omap_len (l : List Lim) (xs : List Rec) : (rcvT l xs).2.length ≤ xs.length:=by
  refine snoc_ind (P:=fun xs=>(rcvT l xs).2.length ≤ xs.length) (by simp [rcvT]) (fun xs x ih=>?_) xs
  · rw [rcv_snoc]
    unfold omap
    dsimp only
    split
    · have h1 := keys_upd x.unit true (rcvT l xs).2
      have h2:=congrArg List.length h1
      have h3 : ∀ m : List (List UInt8 × Bool),(keysM m).length = m.length:=fun m=>by simp [keysM]
      rw [h3] at h2
      by_cases hm : x.unit ∈ keysM (rcvT l xs).2
      · rw [if_pos hm,h3] at h2; simp; omega
      · rw [if_neg hm,List.length_append,h3] at h2; simp at h2 ⊢; omega
    · simp; omega
theorem lookB {hp : Heap} {id : Nat} {m : List (List UInt8 × Bool)} {u : List UInt8} (hh : hp[id]? = some (mobj kS vB m)) : oLook (none,[2]) true (AB false) (.mp id) (AS u) hp = some (.tup [AB ((getM u m).getD false),AB (getM u m).isSome]):=by
  have:=look_mes (key:=kS) (val:=vB) (fun a b=>keyI_str a b) hh (kk:=(none,[2])) (k:=u) keyOf_str (ok:=true) (z:=AB false)
  rw [cond_true] at this
  refine this.trans ?_
  cases getM u m <;> rfl
theorem updB {hp : Heap} {id : Nat} {m : List (List UInt8 × Bool)} {u : List UInt8} {v : Bool} (hh : hp[id]? = some (mobj kS vB m)) : oMupd (none,[2]) (.mp id) (AS u) (AB v) hp = some (.und,hp.set id (mobj kS vB (updM u v m)),[]):=
  mupd_mes (key:=kS) (val:=vB) (fun a b=>keyI_str a b) hh (kk:=(none,[2])) (k:=u) keyOf_str (v:=v) rfl
attribute [-go_sem] oLook oMupd oMentry oMrange
set_option maxHeartbeats 2000000 in
theorem s_Recovered (l : List Lim) (r : List Rec) (hl : LimOk l) (hr : ∀ x ∈ r,RecOk x) (hn : r.length ≤ 12) :
    ACall X f_q02a [ALim l,ARec r] h K = K (if recsFault l r = 0 then .tup [AStr (recovP l r),AI 0] else .tup [AStr [],AI (recsFault l r)]) h []:=by
  refine rule ?_
  rw [c_q02a rfl]
  simp only [d_q02a]
  have q1:=fun h K=>s_CheckRecords (h:=h) (K:=K) l r hl hr (by omega)
  by_cases hz : recsFault l r = 0
  case neg=>
    refine ⟨_,_,_,⟨rfl,rfl,rfl⟩,?_⟩
    simp only [go_sem,↓q1,q1,hz]
    rfl
  have hfm : ∀ x ∈ r,formB l x.res = true:=fun x hx=>recFault_form (recsFault_all hz x hx)
  simp only [hz,if_true]
  have hol:=omap_len l r
  have hlen : (recovP l r).length = (rcvT l r).2.length:=by
    rw [← recov_names (List.Perm.refl (keysM (rcvT l r).2)),isort_len]; simp [keysM]
  refine ⟨_,_,_,⟨rfl,rfl,rfl⟩,?_⟩
  simp only [go_sem,↓q1,q1,hz]
  refine N_loop (fun k : Nat=>⟨[(0,ALim l),(7,.mp h.length),(8,.mp (h.length + 1)),(24,ARec r),(25,AI r.length),(26,AI k)],h ++ [mobj kS vB (rcvT l (r.take k)).1,mobj kS vB (rcvT l (r.take k)).2],[]⟩)
    (fun k=>k ≤ r.length) (fun k=>r.length - k) 0 rfl (by omega) ?_
  intro k hk
  rcases Nat.lt_or_ge k r.length with hlt | hge
  · have hg := map_get Rec.pv hlt
    have cx : cutP (some 4) 0 (r[k].pv) = some r[k].pv:=rfl
    have w2 : IntKind.i64.wrap ((k : Int) + 1) = ((k + 1 : Nat) : Int):=i64_wrap _ (by omega) (by omega)
    have et : rcvT l (r.take (k + 1)) = omap l (rcvT l (r.take k)) r[k]:=by rw [List.take_succ_eq_append_getElem hlt,rcv_snoc]
    have hcf:=hfm _ (List.getElem_mem hlt)
    generalize rcvT l (r.take k) = T at *
    obtain ⟨m1,m2⟩:=T
    generalize r[k] = c at *
    have q3:=fun h K=>s_failsF (h:=h) (K:=K) l c hcf hl.n
    have lk:=fun (hp : Heap) (hh : hp[h.length]? = some (mobj kS vB m1))=>lookB (u:=c.unit) hh
    have u1:=fun (hp : Heap) (v : Bool) (hh : hp[h.length]? = some (mobj kS vB m1))=>updB (u:=c.unit) (v:=v) hh
    have u2:=fun (hp : Heap) (v : Bool) (hh : hp[h.length + 1]? = some (mobj kS vB m2))=>updB (u:=c.unit) (v:=v) hh
    have hbad : badR l c = decide (0 ≤ failIdx l c.res):=rfl
    simp only [Rec.pv] at q3 hg cx
    cases hs : (getM c.unit m1).isSome with
    | false=>
      have e0 : (getM c.unit m1).getD false = false:=by cases hq : getM c.unit m1 with | none=>rfl | some _=>rw [hq] at hs; cases hs
      have eo : omap l (m1,m2) c = (updM c.unit (badR l c) m1,m2):=by unfold omap fmap; simp [hs,e0]
      rw [hs,e0] at lk
      by_cases hb : 0 ≤ failIdx l c.res
      · have eb : badR l c = true := by rw [hbad]; simp [hb]
        rw [eb] at eo
        simp only [go_sem,hlt,hg,cx,w2,↓q3,q3,lk,u1,hb]
        refine ⟨k + 1,?_,by omega,by omega⟩
        rw [et,eo]
      · have eb : badR l c = false := by rw [hbad]; simp [hb]
        rw [eb] at eo
        simp only [go_sem,hlt,hg,cx,w2,↓q3,q3,lk,u1,hb]
        refine ⟨k + 1,?_,by omega,by omega⟩
        rw [et,eo]
    | true=>
      cases hv : (getM c.unit m1).getD false with
      | false=>
        have eo : omap l (m1,m2) c = (m1,m2):=by unfold omap fmap; simp [hs,hv]
        rw [hs,hv] at lk
        simp only [go_sem,hlt,hg,cx,w2,↓q3,q3,lk]
        refine ⟨k + 1,?_,by omega,by omega⟩
        rw [et,eo]
      | true=>
        rw [hs,hv] at lk
        by_cases hb : 0 ≤ failIdx l c.res
        · have eb : badR l c = true := by rw [hbad]; simp [hb]
          have eo : omap l (m1,m2) c = (m1,m2):=by unfold omap fmap; simp [hs,hv,eb]
          simp only [go_sem,hlt,hg,cx,w2,↓q3,q3,lk,hb]
          refine ⟨k + 1,?_,by omega,by omega⟩
          rw [et,eo]
        · have eb : badR l c = false := by rw [hbad]; simp [hb]
          have eo : omap l (m1,m2) c = (m1,updM c.unit true m2):=by unfold omap fmap; simp [hs,hv,eb]
          simp only [go_sem,hlt,hg,cx,w2,↓q3,q3,lk,hb,u2]
          refine ⟨k + 1,?_,by omega,by omega⟩
          rw [et,eo]
  · have ek : k = r.length := by omega
    subst ek
    rw [List.take_length]
    have hnm:=fun ns=>@recov_names l r ns
    have hnd:=(rcv_snd l r).1
    generalize rcvT l r = T at *
    obtain ⟨m1,m2⟩:=T
    dsimp only at hol hnm hnd ⊢
    have mr:=mrange_mes (h:=h ++ [mobj kS vB m1,mobj kS vB m2,.row none [] 0]) (id:=h.length + 1) (key:=kS) (val:=vB) (l:=m2) (by simp)
    have e4 : (h ++ [mobj kS vB m1,mobj kS vB m2,Obj.row none [] 0]).length = h.length + 3:=by simp
    rw [e4] at mr
    simp only [go_sem,Nat.lt_irrefl,mr]
    refine N_loop (fun seen : List Nat=>⟨[(14,.own (h.length + 2) seen.length 0 seen.length),(57,.it (h.length + 3))],h ++ [mobj kS vB m1,mobj kS vB m2,.row none ((seen.map fun i=>(keysM m2).getD i []).map PV.str) 0,.iter (some (h.length + 1)) m2.length seen m2.length],[]⟩)
      (fun seen=>seen.Nodup ∧ ∀ i ∈ seen,i < m2.length) (fun seen=>m2.length - seen.length) [] rfl ⟨List.nodup_nil,by simp⟩ ?_
    rintro seen ⟨hd,hb⟩
    simp only [go_sem]
    refine nx_mes (key:=kS) (val:=vB) (l:=m2) (m:=h.length + 1) (seen:=seen) (by simp) (by simp) ?_ ?_
    · intro hall
      have hp:=seen_perm hd hb hall
      have hns : (seen.map fun i=>(keysM m2).getD i []).Perm (keysM m2):=by
        have h1:=hp.map fun i=>(keysM m2).getD i []
        have h2 : (List.range m2.length).map (fun i=>(keysM m2).getD i []) = keysM m2:=by
          apply List.ext_getElem
          · simp [keysM]
          · intro i h1 h2
            rw [List.getElem_map,List.getElem_range,List.getD_eq_getElem?_getD,List.getElem?_eq_getElem h2]; rfl
        rw [h2] at h1
        exact h1
      have hsl : seen.length = m2.length:=by have:=hp.length_eq; simpa using this
      have hf:=hnm _ hns
      generalize hQ : seen.map (fun i=>(keysM m2).getD i []) = ns at *
      have hnl : ns.length = seen.length:=by rw [← hQ]; simp
      have so:=fun K=>s_SortS (h:=h ++ [mobj kS vB m1,mobj kS vB m2,.row none (ns.map PV.str) 0,.iter none 1 [] 0]) (K:=K) (h.length + 2) ns (by omega) (by simp)
      have e0 : ∀ o' : Obj,(h ++ [mobj kS vB m1,mobj kS vB m2,.row none (ns.map PV.str) 0,.iter none 1 [] 0]).set (h.length + 2) o' = h ++ [mobj kS vB m1,mobj kS vB m2,o',.iter none 1 [] 0]:=fun o'=>by rw [List.set_append_right _ _ (by omega)]; simp
      simp only [e0,hf,hnl,hsl] at so
      have e5 : ∀ o' : Obj,(h ++ [mobj kS vB m1,mobj kS vB m2,.row none (ns.map PV.str) 0,.iter (some (h.length + 1)) m2.length seen m2.length]).set (h.length + 3) o' = h ++ [mobj kS vB m1,mobj kS vB m2,.row none (ns.map PV.str) 0,o']:=fun o'=>by rw [List.set_append_right _ _ (by omega)]; simp
      rw [e5]
      have b1 : h.length ≤ h.length + 2:=by omega
      dsimp only at hlen
      simp only [go_sem,hsl,so,b1,hlen]
      rw [win_full (by simp [hlen])]
    · intro i hi hni
      have e5 : ∀ o' : Obj,(h ++ [mobj kS vB m1,mobj kS vB m2,.row none ((seen.map fun i=>(keysM m2).getD i []).map PV.str) 0,.iter (some (h.length + 1)) m2.length seen m2.length]).set (h.length + 3) o' = h ++ [mobj kS vB m1,mobj kS vB m2,.row none ((seen.map fun i=>(keysM m2).getD i []).map PV.str) 0,o']:=fun o'=>by rw [List.set_append_right _ _ (by omega)]; simp
      rw [e5]
      have me:=mentry_mes (h:=h ++ [mobj kS vB m1,mobj kS vB m2,.row none ((seen.map fun i=>(keysM m2).getD i []).map PV.str) 0,.iter (some (h.length + 1)) m2.length (seen ++ [i]) m2.length]) (j:=h.length + 3) (m:=h.length + 1) (key:=kS) (val:=vB) (l:=m2) (seen:=seen) (i:=i) (by simp) (by simp) hi
      have hlen : seen.length < m2.length:=by
        have h1 : (seen ++ [i]).Nodup:=by rw [List.nodup_append]; exact ⟨hd,by simp,fun a ha b hb=>by rw [List.mem_singleton] at hb; subst hb; intro e; subst e; exact hni ha⟩
        have h2:=h1.length_le_of_subset (l₂:=List.range m2.length) (fun x hx=>by
          rw [List.mem_range]
          rcases List.mem_append.1 hx with hx | hx
          · exact hb x hx
          · rw [List.mem_singleton] at hx; rw [hx]; exact hi)
        simp at h2
        omega
      have hmx : seen.length + 1 ≤ maxSl:=by unfold maxSl; omega
      have ek : kS m2[i].1 = PV.str ((keysM m2).getD i []):=by unfold kS keysM; simp [List.getD_eq_getElem?_getD,hi]
      rw [ek] at me ⊢
      have em : ((seen ++ [i]).map fun i=>(keysM m2).getD i []).map PV.str = (seen.map fun i=>(keysM m2).getD i []).map PV.str ++ [PV.str ((keysM m2).getD i [])]:=by rw [List.map_append,List.map_append]; rfl
      simp only [go_sem,me,hmx,List.length_map]
      refine ⟨seen ++ [i],by rw [em]; simp only [List.length_append,List.length_cons,List.length_nil],⟨?_,?_⟩,by simp; omega⟩
      · rw [List.nodup_append]; exact ⟨hd,by simp,fun a ha b hb=>by rw [List.mem_singleton] at hb; subst hb; intro e; subst e; exact hni ha⟩
      · intro x hx
        rcases List.mem_append.1 hx with hx | hx
        · exact hb x hx
        · rw [List.mem_singleton] at hx; rw [hx]; exact hi
end Go.Am
end
section
/- Sites,both ways. -/
open Go
set_option linter.all false
namespace Go.Am
variable {h : Heap} {K : Post}
theorem snoc_ind' {α : Type} {P : List α → Prop} (h0 : P []) (h1 : ∀ xs x,P xs → P (xs ++ [x])) (l : List α) : P l:=by
  have key : ∀ l : List α,P l.reverse:=by
    intro l
    induction l with
    | nil=>exact h0
    | cons x l ih=>rw [List.reverse_cons]; exact h1 _ _ ih
  have:=key l.reverse
  rwa [List.reverse_reverse] at this
theorem lookS {hp : Heap} {id : Nat} {m : List (List UInt8 × Int)} {b : List UInt8} (hh : hp[id]? = some (mobj kS vI m)) : oLook (none,[2]) false (AI 0) (.mp id) (AS b) hp = some (AI ((getM b m).getD 0)):=by
  have:=look_mes (key:=kS) (val:=vI) (fun a b=>keyI_str a b) hh (kk:=(none,[2])) (k:=b) keyOf_str (ok:=false) (z:=AI 0)
  rw [cond_false] at this
  refine this.trans ?_
  cases getM b m <;> rfl
theorem updS {hp : Heap} {id : Nat} {m : List (List UInt8 × Int)} {b : List UInt8} {v : Int} (hh : hp[id]? = some (mobj kS vI m)) : oMupd (none,[2]) (.mp id) (AS b) (AI v) hp = some (.und,hp.set id (mobj kS vI (updM b v m)),[]):=
  mupd_mes (key:=kS) (val:=vI) (fun a b=>keyI_str a b) hh (kk:=(none,[2])) (k:=b) keyOf_str (v:=v) rfl
abbrev MSI:=List (List UInt8 × Int)
def addM (s : List UInt8) (m : MSI) : MSI:=updM s ((getM s m).getD 0 + 1) m
def siteT (l : List Lim) (t : MSI × MSI × List (List UInt8)) (x : Rec) : MSI × MSI × List (List UInt8):=
  (if badR l x = false then addM x.site t.1 else t.1,addM x.site t.2.1,if (getM x.site t.2.1).getD 0 = 0 then t.2.2 ++ [x.site] else t.2.2)
def sitesT (l : List Lim) (xs : List Rec) : MSI × MSI × List (List UInt8):=xs.foldl (siteT l) ([],[],[])
theorem sites_snoc (l : List Lim) (xs : List Rec) (x : Rec) : sitesT l (xs ++ [x]) = siteT l (sitesT l xs) x:=by unfold sitesT; rw [List.foldl_append]; rfl
theorem get_add (s s' : List UInt8) (m : MSI) : (getM s' (addM s m)).getD 0 = (getM s' m).getD 0 + if s' = s then 1 else 0:=by
  unfold addM
  rw [get_upd]
  by_cases h : s' = s
  · subst h; simp
  · simp [h]
theorem sites_inv (l : List Lim) (xs : List Rec) : (∀ s,(getM s (sitesT l xs).1).getD 0 = (gSite l xs s : Nat)) ∧ (∀ s,(getM s (sitesT l xs).2.1).getD 0 = (nSite xs s : Nat)) ∧ (sitesT l xs).2.2.Nodup ∧ (∀ s,s ∈ (sitesT l xs).2.2 ↔ s ∈ xs.map Rec.site) ∧ (sitesT l xs).2.2.length ≤ xs.length:=by
  refine snoc_ind' (P:=fun xs=>(∀ s,(getM s (sitesT l xs).1).getD 0 = (gSite l xs s : Nat)) ∧ (∀ s,(getM s (sitesT l xs).2.1).getD 0 = (nSite xs s : Nat)) ∧ (sitesT l xs).2.2.Nodup ∧ (∀ s,s ∈ (sitesT l xs).2.2 ↔ s ∈ xs.map Rec.site) ∧ (sitesT l xs).2.2.length ≤ xs.length)
    ⟨fun s=>rfl,fun s=>rfl,List.nodup_nil,fun s=>by simp [sitesT],by simp [sitesT]⟩ (fun xs x ih=>?_) xs
  obtain ⟨i1,i2,i3,i4,i5⟩:=ih
  rw [sites_snoc]
  unfold siteT
  dsimp only
  have hz : (getM x.site (sitesT l xs).2.1).getD 0 = 0 ↔ x.site ∉ xs.map Rec.site:=by
    rw [i2]
    unfold nSite
    rw [Int.natCast_eq_zero,List.countP_eq_zero]
    simp
  refine ⟨fun s=>?_,fun s=>?_,?_,fun s=>?_,?_⟩
  · unfold gSite
    rw [List.countP_append]
    have:=i1 s
    unfold gSite at this
    cases hb : badR l x with
    | false=>
      rw [if_pos rfl,get_add,this]
      by_cases hs : s = x.site
      · subst hs; simp [hb]
      · have : ¬ x.site = s := fun e => hs e.symm
        simp [hs,this]
    | true=>
      rw [if_neg (by simp),this]
      simp [hb]
  · unfold nSite
    rw [List.countP_append,get_add]
    have:=i2 s
    unfold nSite at this
    rw [this]
    by_cases hs : s = x.site
    · subst hs; simp
    · have : ¬ x.site = s := fun e => hs e.symm
      simp [hs,this]
  · by_cases h0 : (getM x.site (sitesT l xs).2.1).getD 0 = 0
    · rw [if_pos h0, List.nodup_append]
      refine ⟨i3,by simp,fun a ha b hb=>?_⟩
      rw [List.mem_singleton] at hb
      subst hb
      intro e; subst e
      exact (hz.1 h0) ((i4 _).1 ha)
    · rw [if_neg h0]; exact i3
  · by_cases h0 : (getM x.site (sitesT l xs).2.1).getD 0 = 0
    · rw [if_pos h0,List.mem_append,i4]; simp
    · rw [if_neg h0, i4]
      have : x.site ∈ xs.map Rec.site:=Decidable.not_not.1 fun h=>h0 (hz.2 h)
      rw [List.map_append,List.mem_append]
      constructor
      · intro h; exact .inl h
      · rintro (h | h)
        · exact h
        · simp at h; rw [h]; exact this
  · split <;> simp <;> omega
theorem sites_names (l : List Lim) (r : List Rec) : isort ltS (sitesT l r).2.2 = sitesL r:=nodup_sorted (sites_inv l r).2.2.1 (sites_inv l r).2.2.2.1
theorem gSite_le (l : List Lim) (r : List Rec) (s : List UInt8) : gSite l r s ≤ r.length ∧ nSite r s ≤ r.length:=⟨List.countP_le_length,List.countP_le_length⟩
theorem itoa_len (m : Nat) (hm : m ≤ 100) : (itoa (m : Int)).length ≤ 3:=by
  have key : ∀ k : Nat,k ≤ 100 → (itoa (k : Int)).length ≤ 3:=by
    intro k hk
    unfold itoa
    rw [if_neg (by omega)]
    simp only [Int.natAbs_natCast]
    rcases Nat.lt_or_ge k 10 with h | h
    · rw [decN_lt h]; simp
    · rw [decN_ge h]
      rcases Nat.lt_or_ge (k / 10) 10 with h2 | h2
      · rw [decN_lt h2]; simp
      · rw [decN_ge h2,decN_lt (by omega)]; simp
  exact key m hm
attribute [-go_sem] oLook oMupd
set_option maxHeartbeats 2000000 in
theorem s_BySite (l : List Lim) (r : List Rec) (hl : LimOk l) (hr : ∀ x ∈ r,RecOk x) (hn : r.length ≤ 12) :
    ACall X f_q021 [ALim l,ARec r] h K = K (if recsFault l r = 0 then .tup [ASS (siteP l r),AI 0] else .tup [ASS [],AI (recsFault l r)]) h []:=by
  refine rule ?_
  rw [c_q021 rfl]
  have q1:=fun h K=>s_CheckRecords (h:=h) (K:=K) l r hl hr (by omega)
  by_cases hz : recsFault l r = 0
  case neg=>
    simp only [d_q021,go_sem,↓q1,q1,hz]
    rfl
  have hfm : ∀ x ∈ r,formB l x.res = true:=fun x hx=>recFault_form (recsFault_all hz x hx)
  simp only [d_q021,go_sem,↓q1,q1,hz]
  refine N_loop (fun k : Nat=>⟨[(0,ALim l),(7,.mp h.length),(8,.mp (h.length + 1)),(9,.own (h.length + 2) (sitesT l (r.take k)).2.2.length 0 (sitesT l (r.take k)).2.2.length),(23,ARec r),(24,AI r.length),(25,AI k)],h ++ [mobj kS vI (sitesT l (r.take k)).1,mobj kS vI (sitesT l (r.take k)).2.1,.row none ((sitesT l (r.take k)).2.2.map PV.str) 0],[]⟩)
    (fun k=>k ≤ r.length) (fun k=>r.length - k) 0 rfl (by omega) ?_
  intro k hk
  rcases Nat.lt_or_ge k r.length with hlt | hge
  · have hg := map_get Rec.pv hlt
    have cx : cutP (some 4) 0 (r[k].pv) = some r[k].pv:=rfl
    have w2 : IntKind.i64.wrap ((k : Int) + 1) = ((k + 1 : Nat) : Int):=i64_wrap _ (by omega) (by omega)
    have et : sitesT l (r.take (k + 1)) = siteT l (sitesT l (r.take k)) r[k]:=by rw [List.take_succ_eq_append_getElem hlt,sites_snoc]
    have hcf:=hfm _ (List.getElem_mem hlt)
    obtain ⟨i1,i2,i3,i4,i5⟩:=sites_inv l (r.take k)
    have j1:=fun s=>(gSite_le l (r.take k) s).1
    have j2:=fun s=>(gSite_le l (r.take k) s).2
    simp only [List.length_take] at i5 j1 j2
    generalize sitesT l (r.take k) = T at *
    obtain ⟨m1,m2,ns⟩:=T
    generalize r[k] = c at *
    have q3:=fun h K=>s_failsF (h:=h) (K:=K) l c hcf hl.n
    have k1:=i1 c.site
    have k2:=i2 c.site
    have k3:=j1 c.site
    have k4:=j2 c.site
    dsimp only at k1 k2 i5
    have w3 : IntKind.i64.wrap ((getM c.site m1).getD 0 + 1) = (getM c.site m1).getD 0 + 1:=i64_wrap _ (by omega) (by omega)
    have w4 : IntKind.i64.wrap ((getM c.site m2).getD 0 + 1) = (getM c.site m2).getD 0 + 1:=i64_wrap _ (by omega) (by omega)
    have l1:=fun (hp : Heap) (hh : hp[h.length]? = some (mobj kS vI m1))=>lookS (b:=c.site) hh
    have l2:=fun (hp : Heap) (hh : hp[h.length + 1]? = some (mobj kS vI m2))=>lookS (b:=c.site) hh
    have u1:=fun (hp : Heap) (v : Int) (hh : hp[h.length]? = some (mobj kS vI m1))=>updS (b:=c.site) (v:=v) hh
    have u2:=fun (hp : Heap) (v : Int) (hh : hp[h.length + 1]? = some (mobj kS vI m2))=>updS (b:=c.site) (v:=v) hh
    have hbad : badR l c = decide (0 ≤ failIdx l c.res):=rfl
    have hmx : ns.length + 1 ≤ maxSl:=by unfold maxSl; omega
    have em : ns.map PV.str ++ [PV.str c.site] = (ns ++ [c.site]).map PV.str:=by simp
    have a1 : updM c.site ((getM c.site m1).getD 0 + 1) m1 = addM c.site m1:=rfl
    have a2 : updM c.site ((getM c.site m2).getD 0 + 1) m2 = addM c.site m2:=rfl
    unfold siteT at et
    dsimp only at et
    simp only [Rec.pv] at q3 hg cx
    by_cases h0 : (getM c.site m2).getD 0 = 0
    · rw [if_pos h0] at et
      by_cases hb : failIdx l c.res < 0
      · have eb : badR l c = false := by rw [hbad]; simp; omega
        rw [if_pos eb] at et
        simp only [go_sem,hlt,hg,cx,w2,↓q3,q3,l1,l2,u1,u2,eq_true h0,hb,w3,w4,hmx,a1,a2,List.length_map]
        refine ⟨k + 1,?_,by omega,by omega⟩
        rw [et]
        simp only [List.length_append,List.length_cons,List.length_nil,em]
      · have eb : badR l c = true := by rw [hbad]; simp; omega
        rw [if_neg (by simp [eb])] at et
        simp only [go_sem,hlt,hg,cx,w2,↓q3,q3,l2,u2,eq_true h0,hb,w4,hmx,a2,List.length_map]
        refine ⟨k + 1,?_,by omega,by omega⟩
        rw [et]
        simp only [List.length_append,List.length_cons,List.length_nil,em]
    · rw [if_neg h0] at et
      by_cases hb : failIdx l c.res < 0
      · have eb : badR l c = false := by rw [hbad]; simp; omega
        rw [if_pos eb] at et
        simp only [go_sem,hlt,hg,cx,w2,↓q3,q3,l1,l2,u1,u2,eq_false h0,hb,w3,w4,a1,a2,List.length_map]
        refine ⟨k + 1,?_,by omega,by omega⟩
        rw [et]
      · have eb : badR l c = true := by rw [hbad]; simp; omega
        rw [if_neg (by simp [eb])] at et
        simp only [go_sem,hlt,hg,cx,w2,↓q3,q3,l2,u2,eq_false h0,hb,w4,a2,List.length_map]
        refine ⟨k + 1,?_,by omega,by omega⟩
        rw [et]
  · have ek : k = r.length := by omega
    subst ek
    rw [List.take_length]
    obtain ⟨i1,i2,i3,i4,i5⟩:=sites_inv l r
    have hnm:=sites_names l r
    have j1:=fun s=>gSite_le l r s
    generalize sitesT l r = T at *
    obtain ⟨m1,m2,ns⟩:=T
    dsimp only at i1 i2 i5 hnm
    have so:=fun K=>s_SortS (h:=h ++ [mobj kS vI m1,mobj kS vI m2,.row none (ns.map PV.str) 0]) (K:=K) (h.length + 2) ns (by omega) (by simp)
    have e0 : ∀ o' : Obj,(h ++ [mobj kS vI m1,mobj kS vI m2,.row none (ns.map PV.str) 0]).set (h.length + 2) o' = h ++ [mobj kS vI m1,mobj kS vI m2,o']:=fun o'=>by rw [List.set_append_right _ _ (by omega)]; simp
    simp only [e0,hnm] at so
    have hsl : (sitesL r).length = ns.length:=by rw [← hnm,isort_len]
    unfold siteP
    simp only [go_sem,Nat.lt_irrefl,so]
    generalize sitesL r = ss at *
    rw [← hsl]
    refine N_loop (fun k : Nat=>⟨[(7,.mp h.length),(8,.mp (h.length + 1)),(12,.own (h.length + 3) k 0 k),(56,.own (h.length + 2) ss.length 0 ss.length),(57,AI ss.length),(58,AI k)],h ++ [mobj kS vI m1,mobj kS vI m2,.row none (ss.map PV.str) 0,.row (some 2) (((ss.take k).map fun s=>(s,itoa (gSite l r s) ++ 47 :: itoa (nSite r s))).map ssPv) 0],[]⟩)
      (fun k=>k ≤ ss.length) (fun k=>ss.length - k) 0 rfl (by omega) ?_
    intro k hk
    rcases Nat.lt_or_ge k ss.length with hlt | hge
    · have hg := map_get PV.str hlt
      have w2 : IntKind.i64.wrap ((k : Int) + 1) = ((k + 1 : Nat) : Int):=i64_wrap _ (by omega) (by omega)
      have hmx : k + 1 ≤ maxSl:=by unfold maxSl; omega
      have hln : min k ss.length = k:=by omega
      have et : ((ss.take (k + 1)).map fun s=>(s,itoa (gSite l r s) ++ 47 :: itoa (nSite r s))).map ssPv = ((ss.take k).map fun s=>(s,itoa (gSite l r s) ++ 47 :: itoa (nSite r s))).map ssPv ++ [ssPv (ss[k],itoa (gSite l r ss[k]) ++ 47 :: itoa (nSite r ss[k]))]:=by rw [List.take_succ_eq_append_getElem hlt,List.map_append,List.map_append]; rfl
      generalize ss[k] = s at *
      have l1:=fun (hp : Heap) (hh : hp[h.length]? = some (mobj kS vI m1))=>lookS (b:=s) hh
      have l2:=fun (hp : Heap) (hh : hp[h.length + 1]? = some (mobj kS vI m2))=>lookS (b:=s) hh
      rw [i1 s] at l1
      rw [i2 s] at l2
      obtain ⟨g1,g2⟩:=j1 s
      generalize gSite l r s = a at *
      generalize nSite r s = b at *
      have q4:=fun h K=>s_Itoa (h:=h) (K:=K) (a : Int) (by omega) (by omega)
      have q5:=fun h K=>s_Itoa (h:=h) (K:=K) (b : Int) (by omega) (by omega)
      have n1:=itoa_len a (by omega)
      have n2:=itoa_len b (by omega)
      generalize itoa (a : Int) = sa at *
      generalize itoa (b : Int) = sb at *
      have b1 : sa.length + 1 ≤ maxStr:=by unfold maxStr; omega
      have b2 : sa.length + 1 + sb.length ≤ maxStr:=by unfold maxStr; omega
      simp only [ssPv] at et
      simp only [go_sem,hlt,hg,l1,l2,↓q4,q4,↓q5,q5,w2,hmx,hln,b1,b2,List.length_map,List.length_take]
      refine ⟨k + 1,?_,by omega,by omega⟩
      rw [et]
    · have ek : k = ss.length := by omega
      subst ek
      simp only [go_sem,Nat.lt_irrefl,List.take_length]
      rw [win_full (by simp)]
end Go.Am
end
section
/- Failures agree: sums of counts,recovered units. Plain lists. -/
set_option linter.all false
namespace Go.Am
theorem sum_perm {a b : List Nat} (h : a.Perm b) : a.sum = b.sum:=by
  induction h with
  | nil=>rfl
  | cons x _ ih=>simp [ih]
  | swap x y l=>simp; omega
  | trans _ _ h1 h2=>exact h1.trans h2
theorem sum_pos_filter (c : Nat → Nat) : ∀ (l : List Nat),((l.filter fun i=>decide (0 < c i)).map c).sum = (l.map c).sum
  | []=>rfl
  | x :: l=>by
    rw [List.filter_cons]
    by_cases h : 0 < c x
    · simp [h,sum_pos_filter c l]
    · have : c x = 0 := by omega
      simp [this,sum_pos_filter c l]
theorem order_sum (c : Nat → Nat) (n : Nat) : ((orderP c n).map c).sum = ((List.range n).map c).sum:=by
  unfold orderP
  rw [sum_perm ((isort_perm _ _).map c)]
  exact sum_pos_filter c _
theorem range_count {α : Type} (p : α → Nat → Bool) : ∀ (n : Nat) (l : List α),(∀ x ∈ l,∀ i j,p x i = true → p x j = true → i = j) → ((List.range n).map fun i=>l.countP fun x=>p x i).sum = l.countP fun x=>(List.range n).any fun i=>p x i
  | 0,l,_=>by simp
  | n + 1,l,hu=>by
    rw [List.range_succ,List.map_append,List.sum_append,range_count p n l hu]
    have : ∀ (l : List α),(∀ x ∈ l,∀ i j,p x i = true → p x j = true → i = j) → (l.countP fun x=>(List.range n ++ [n]).any fun i=>p x i) = (l.countP fun x=>(List.range n).any fun i=>p x i) + l.countP fun x=>p x n:=by
      intro l
      induction l with
      | nil=>intro _; rfl
      | cons y r ih=>
        intro hu
        simp only [List.countP_cons]
        rw [ih fun x hx=>hu x (List.mem_cons_of_mem _ hx)]
        have hy:=hu y List.mem_cons_self
        simp only [List.any_append,List.any_cons,List.any_nil,Bool.or_false]
        by_cases h1 : ((List.range n).any fun i=>p y i) = true
        · obtain ⟨i, hi, hp⟩ := List.any_eq_true.1 h1
          have h2 : p y n = false:=by
            cases hq : p y n with
            | false=>rfl
            | true=>have:=hy i n hp hq; have:=List.mem_range.1 hi; omega
          rw [h1,h2]; simp; omega
        · have h1 : ((List.range n).any fun i => p y i) = false := by simpa using h1
          rw [h1]
          cases p y n <;> simp <;> omega
    rw [this l hu]
    simp
theorem told_eq (l : List Lim) (ru : Int) (r : List Rec) (hf : ∀ x ∈ finL l ru r,failIdx l x.res < l.length) : ((orderP (nFail l ru r) l.length).map (nFail l ru r)).sum = (finL l ru r).countP fun x=>badR l x:=by
  rw [order_sum]
  unfold nFail
  rw [range_count (fun (x : Rec) (i : Nat)=>decide (failIdx l x.res = (i : Int))) l.length (finL l ru r) (fun x _ i j h1 h2=>by simp at h1 h2; omega)]
  refine List.countP_congr fun x hx=>?_
  have:=hf x hx
  unfold badR
  simp only [List.any_eq_true,List.mem_range,decide_eq_true_eq]
  constructor
  · rintro ⟨i,_,h⟩; omega
  · intro h
    exact ⟨(failIdx l x.res).toNat,by omega,by omega⟩
theorem cover_count {s : List (List UInt8)} : ∀ {r : List Rec},s.Nodup → (∀ x ∈ r,x.site ∈ s) → (s.map (nSite r)).sum = r.length
  | [],_,_=>by
    have : ∀ (t : List (List UInt8)),(t.map (nSite [])).sum = 0:=by
      intro t
      induction t with
      | nil=>rfl
      | cons a t ih=>rw [List.map_cons,List.sum_cons,ih]; rfl
    exact this s
  | x :: r,hn,hc=>by
    have ih:=cover_count (r:=r) hn fun y hy=>hc y (List.mem_cons_of_mem _ hy)
    have hx:=hc x List.mem_cons_self
    have key : ∀ (s : List (List UInt8)),s.Nodup → x.site ∈ s → (s.map (nSite (x :: r))).sum = (s.map (nSite r)).sum + 1:=by
      intro s
      induction s with
      | nil=>intro _ h; cases h
      | cons a s ihs=>
        intro hn hm
        rw [List.nodup_cons] at hn
        simp only [List.map_cons,List.sum_cons]
        have e : nSite (x :: r) a = nSite r a + if x.site = a then 1 else 0:=by unfold nSite; rw [List.countP_cons]; simp
        by_cases h : x.site = a
        · have hs : ∀ (t : List (List UInt8)),x.site ∉ t → (t.map (nSite (x :: r))).sum = (t.map (nSite r)).sum:=by
            intro t
            induction t with
            | nil=>intro _; rfl
            | cons b t iht=>
              intro hb
              simp only [List.mem_cons,not_or] at hb
              simp only [List.map_cons,List.sum_cons]
              have e2 : nSite (x :: r) b = nSite r b:=by unfold nSite; rw [List.countP_cons]; simp [hb.1]
              rw [e2,iht hb.2]
          rw [e,if_pos h,hs s (by rw [h]; exact hn.1)]
          omega
        · rcases List.mem_cons.1 hm with q | q
          · exact absurd q h
          · rw [e, if_neg h, ihs hn.2 q]
            omega
    rw [key s hn hx,ih]
    simp
theorem sites_all (l : List Lim) (r : List Rec) : ((sitesL r).map (nSite r)).sum = r.length:=by
  refine cover_count ?_ fun x hx=>?_
  · have := sorted_strict (r.map Rec.site)
    unfold sitesL
    refine List.Pairwise.imp ?_ this
    intro a b hab e
    subst e
    have:=ordS.refl a
    omega
  · unfold sitesL
    refine compact_all (fun x y h=>by simpa using h) ?_
    exact isort_mem.2 (List.mem_map.2 ⟨x,hx,rfl⟩)
end Go.Am
end
section
/- FailuresAgree returns true. -/
open Go
set_option linter.all false
namespace Go.Am
variable {h : Heap} {K : Post}
theorem s_Atoi (n : Nat) (hn : n < 1000000) : ACall X f_q08h [AS (itoa n)] h K = K (.tup [AI n,.nili]) h []:=by
  refine lib_call (X:=X) (by kernel_rfl) ?_
  rw [X_ex2]
  exact libF_pure (vs:=[.str (itoa n)]) (by kernel_rfl) (s:=atoiS) rfl rfl (atoi_itoa (by omega))
theorem itoa_ne47 (n : Nat) : (47 : UInt8) ∉ itoa n:=by
  unfold itoa
  rw [if_neg (by omega)]
  intro hc
  obtain ⟨k,hk,e⟩:=decN_dig _ _ hc
  have:=congrArg UInt8.toNat e
  simp only [digC,UInt8.toNat_ofNat'] at this
  have h47 : (47 : UInt8).toNat = 47:=rfl
  omega
theorem itoa_1 : itoa 1 = [49]:=by
  unfold itoa
  rw [if_neg (by decide)]
  show decN 1 = _
  rw [decN_lt (by decide)]
  rfl
theorem recov_law {l : List Lim} (hf : limsFault l = 0) (r : List Rec) : ∀ u ∈ recovP l r,(u,itoa 1) ∉ finalP l 1 r ∧ (u,itoa 1) ∈ finalP l 3 r:=by
  intro u hu
  unfold recovP at hu
  obtain ⟨h1,h2⟩:=List.mem_filter.1 hu
  unfold recovB at h2
  rw [Bool.and_eq_true] at h2
  constructor
  · rw [final_eq l (by omega) r]
    intro hm
    unfold finalQ at hm
    obtain ⟨v,hv,e⟩:=List.mem_map.1 hm
    simp only [Prod.mk.injEq] at e
    obtain ⟨e1,e2⟩:=e
    subst e1
    have:=(binR_bd hf (cntL l 1 (ofU r v))).2.2.1 (itoa_inj e2)
    rw [cnt1,h2.1] at this
    cases this
  · rw [final_eq l (by omega) r]
    unfold finalQ
    refine List.mem_map.2 ⟨u,h1,?_⟩
    have:=(binR_bd hf (cntL l 3 (ofU r u))).2.2.2 (by rw [cnt3_good (ofU_ne h1),h2.2]; rfl)
    rw [this]
theorem fail_lt (l : List Lim) (res : List Int) (hl : 0 < l.length) : failIdx l res < l.length:=by
  rcases failIdx_cases l res with ⟨e,_⟩ | ⟨k,e,hk,_⟩
  · omega
  · have : (goods l res).length ≤ l.length := by unfold goods; simp; omega
    omega
theorem failed_count {l : List Lim} (hf : limsFault l = 0) (ru : Int) (r : List Rec) : (finalP l ru r).countP (fun p=>decide (p.2 ≠ [49])) = (finL l ru r).countP fun x=>badR l x:=by
  unfold finalP
  rw [List.countP_map]
  refine List.countP_congr fun x _=>?_
  have hb:=(binR_bd hf x).2.2
  simp only [Function.comp,decide_eq_true_eq,← itoa_1]
  constructor
  · intro h
    by_cases hc : badR l x = false
    · exact absurd (by rw [hb.2 hc]) h
    · simpa using hc
  · intro h e
    have:=hb.1 (itoa_inj e)
    rw [h] at this; cases this
theorem sum_take {α : Type} (f : α → Nat) (l : List α) (k : Nat) (hk : k < l.length) : ((l.take (k + 1)).map f).sum = ((l.take k).map f).sum + f l[k]:=by
  rw [List.take_succ_eq_append_getElem hk,List.map_append,List.sum_append]
  simp only [List.map_cons,List.map_nil,List.sum_cons,List.sum_nil,Nat.add_zero]
theorem sum_leB {α : Type} (f : α → Nat) (B : Nat) : ∀ (l : List α),(∀ x ∈ l,f x ≤ B) → (l.map f).sum ≤ B * l.length
  | [],_=>by simp
  | x :: l,h=>by
    have h1:=sum_leB f B l fun y hy=>h y (List.mem_cons_of_mem _ hy)
    have h2:=h x List.mem_cons_self
    simp only [List.map_cons,List.sum_cons,List.length_cons]
    rw [Nat.mul_add]; omega
attribute [-go_sem] e_q03l_k6 e_q03l_k7 e_q03l_k8 e_q03l_k9 d_q03l_k6 d_q03l_k7 d_q03l_k8 d_q03l_k9
theorem fa_k6 (r : List Rec) (m : Nat) (K : Ex → St → Prop) (hK : ∀ h x,x = [] → K .ret ⟨[(2,AB true)],h,x⟩) :
    d_q03l_k6 (ACall X) X.gl (ARec r) (AI m) (AI m) (AI r.length) h [] K:=by
  simp only [d_q03l_k6,go_sem,s_ready]
  exact hK _ _ rfl
theorem fa_k7 (r : List Rec) (m : Nat) (U : List (List UInt8)) (F1 F3 : List SS) (hU : U.length ≤ 1000) (h1 : F1.length ≤ 1000) (h3 : F3.length ≤ 1000) (hu : ∀ u ∈ U,(u,itoa 1) ∉ F1 ∧ (u,itoa 1) ∈ F3)
    (K : Ex → St → Prop) (hK : ∀ h x,x = [] → K .ret ⟨[(2,AB true)],h,x⟩) :
    d_q03l_k7 (ACall X) X.gl p_q03l_k5 p_q03l_k6 (ARec r) (AStr U) (ASS F1) (ASS F3) (AI m) (AI m) (AI r.length) h [] K:=by
  have e6:=@e_q03l_k6
  simp only [d_q03l_k7,go_sem]
  refine N_loop (fun k : Nat=>⟨[(5,ARec r),(15,ASS F1),(17,ASS F3),(19,AI m),(20,AI m),(27,AI r.length),(146,AStr U),(147,AI U.length),(148,AI k)],h,[]⟩) (fun k=>k ≤ U.length) (fun k=>U.length - k) 0 rfl (by omega) ?_
  intro k hk
  rcases Nat.lt_or_ge k U.length with hlt | hge
  · have hg := map_get PV.str hlt
    have w2 : IntKind.i64.wrap ((k : Int) + 1) = ((k + 1 : Nat) : Int):=i64_wrap _ (by omega) (by omega)
    obtain ⟨c1,c2⟩:=hu U[k] (List.getElem_mem hlt)
    rw [itoa_1] at c1 c2
    have S1:=fun h K=>s_ContainsP (h:=h) (K:=K) F1 (U[k],[49]) (by omega)
    have S3:=fun h K=>s_ContainsP (h:=h) (K:=K) F3 (U[k],[49]) (by omega)
    simp only [ssPv,c1,c2,decide_true,decide_false] at S1 S3
    simp only [go_sem,hlt,hg,w2,↓S1,S1,↓S3,S3]
    exact ⟨k + 1,rfl,by omega,by omega⟩
  · have ek : k = U.length := by omega
    subst ek
    simp only [go_sem,Nat.lt_irrefl]
    rw [e6]
    simp only [aget,Nat.reduceEqDiff,if_true,if_false]
    exact fa_k6 r m K hK
def q4P (q : List UInt8 × Nat × Nat) : SS:=(q.1,itoa q.2.1 ++ 47 :: itoa q.2.2)
theorem fa_k8 (r : List Rec) (m : Nat) (U : List (List UInt8)) (F1 F3 : List SS) (Q : List (List UInt8 × Nat × Nat)) (hQ : Q.length ≤ 1000) (hq : ∀ q ∈ Q,q.2.1 ≤ 100 ∧ q.2.2 ≤ 100) (hs : (Q.map fun q=>q.2.2).sum = r.length)
    (hU : U.length ≤ 1000) (h1 : F1.length ≤ 1000) (h3 : F3.length ≤ 1000) (hu : ∀ u ∈ U,(u,itoa 1) ∉ F1 ∧ (u,itoa 1) ∈ F3)
    (K : Ex → St → Prop) (hK : ∀ h x,x = [] → K .ret ⟨[(2,AB true)],h,x⟩) :
    d_q03l_k8 (ACall X) X.gl p_q03l_k4 p_q03l_k7 (ARec r) (AStr U) (ASS (Q.map q4P)) (ASS F1) (ASS F3) (AI m) (AI m) h [] K:=by
  have e7:=@e_q03l_k7
  simp only [d_q03l_k8,go_sem]
  refine N_loop (fun k : Nat=>⟨[(5,ARec r),(11,AStr U),(15,ASS F1),(17,ASS F3),(19,AI m),(20,AI m),(27,AI (((Q.take k).map fun q=>q.2.2).sum : Nat)),(124,ASS (Q.map q4P)),(125,AI Q.length),(126,AI k)],h,[]⟩) (fun k=>k ≤ Q.length) (fun k=>Q.length - k) 0 (by simp) (by omega) ?_
  intro k hk
  rcases Nat.lt_or_ge k Q.length with hlt | hge
  · have hlt' : k < (Q.map q4P).length := by simpa using hlt
    have hg:=map_get ssPv hlt'
    rw [List.getElem_map] at hg
    have w2 : IntKind.i64.wrap ((k : Int) + 1) = ((k + 1 : Nat) : Int):=i64_wrap _ (by omega) (by omega)
    obtain ⟨b1,b2⟩:=hq _ (List.getElem_mem hlt)
    have hst:=sum_take (fun q : List UInt8 × Nat × Nat=>q.2.2) Q k hlt
    have hle:=sum_leB (fun q : List UInt8 × Nat × Nat=>q.2.2) 100 (Q.take k) fun x hx=>(hq x (List.mem_of_mem_take hx)).2
    simp only [List.length_take] at hle
    generalize Q[k] = q at *
    obtain ⟨n,g,t⟩:=q
    dsimp only at b1 b2 hst
    simp only [ssPv,q4P] at hg
    have l1:=itoa_len g b1
    have l2:=itoa_len t b2
    have S1:=fun h K=>s_Cut (h:=h) (K:=K) (itoa g) (itoa t) (itoa_ne47 g) (by simp; omega)
    have S2:=fun h K=>s_Atoi (h:=h) (K:=K) t (by omega)
    generalize ((Q.take k).map fun q=>q.2.2).sum = sm at *
    have w1 : IntKind.i64.wrap ((sm : Int) + t) = ((sm + t : Nat) : Int):=by rw [i64_wrap _ (by omega) (by omega)]; omega
    simp only [go_sem,hlt,hg,w2,w1,↓S1,S1,↓S2,S2]
    exact ⟨k + 1,by rw [hst],by omega,by omega⟩
  · have ek : k = Q.length := by omega
    subst ek
    rw [List.take_length,hs]
    simp only [go_sem,Nat.lt_irrefl]
    rw [e7]
    simp only [aget,Nat.reduceEqDiff,if_true,if_false]
    exact fa_k7 r m U F1 F3 hU h1 h3 hu K hK
def q3P (q : List UInt8 × Nat) : SS:=(q.1,itoa q.2)
theorem fa_k9 (r : List Rec) (m : Nat) (U : List (List UInt8)) (F1 F3 : List SS) (R : List (List UInt8 × Nat)) (hR : R.length ≤ 1000) (hr : ∀ q ∈ R,q.2 ≤ 100) (hm : (R.map fun q=>q.2).sum = m)
    (Q : List (List UInt8 × Nat × Nat)) (hQ : Q.length ≤ 1000) (hq : ∀ q ∈ Q,q.2.1 ≤ 100 ∧ q.2.2 ≤ 100) (hs : (Q.map fun q=>q.2.2).sum = r.length)
    (hU : U.length ≤ 1000) (h1 : F1.length ≤ 1000) (h3 : F3.length ≤ 1000) (hu : ∀ u ∈ U,(u,itoa 1) ∉ F1 ∧ (u,itoa 1) ∈ F3)
    (K : Ex → St → Prop) (hK : ∀ h x,x = [] → K .ret ⟨[(2,AB true)],h,x⟩) :
    d_q03l_k9 (ACall X) X.gl p_q03l_k3 p_q03l_k8 (ARec r) (ASS (R.map q3P)) (AStr U) (ASS (Q.map q4P)) (ASS F1) (ASS F3) (AI m) (AI 0) h [] K:=by
  have e8:=@e_q03l_k8
  simp only [d_q03l_k9,go_sem]
  refine N_loop (fun k : Nat=>⟨[(5,ARec r),(11,AStr U),(13,ASS (Q.map q4P)),(15,ASS F1),(17,ASS F3),(19,AI m),(20,AI (((R.take k).map fun q=>q.2).sum : Nat)),(108,ASS (R.map q3P)),(109,AI R.length),(110,AI k)],h,[]⟩) (fun k=>k ≤ R.length) (fun k=>R.length - k) 0 (by simp) (by omega) ?_
  intro k hk
  rcases Nat.lt_or_ge k R.length with hlt | hge
  · have hlt' : k < (R.map q3P).length := by simpa using hlt
    have hg:=map_get ssPv hlt'
    rw [List.getElem_map] at hg
    have w2 : IntKind.i64.wrap ((k : Int) + 1) = ((k + 1 : Nat) : Int):=i64_wrap _ (by omega) (by omega)
    have b2:=hr _ (List.getElem_mem hlt)
    have hst:=sum_take (fun q : List UInt8 × Nat=>q.2) R k hlt
    have hle:=sum_leB (fun q : List UInt8 × Nat=>q.2) 100 (R.take k) fun x hx=>(hr x (List.mem_of_mem_take hx))
    simp only [List.length_take] at hle
    generalize R[k] = q at *
    obtain ⟨n,t⟩:=q
    dsimp only at b2 hst
    simp only [ssPv,q3P] at hg
    have S2:=fun h K=>s_Atoi (h:=h) (K:=K) t (by omega)
    generalize ((R.take k).map fun q=>q.2).sum = sm at *
    have w1 : IntKind.i64.wrap ((sm : Int) + t) = ((sm + t : Nat) : Int):=by rw [i64_wrap _ (by omega) (by omega)]; omega
    simp only [go_sem,hlt,hg,w2,w1,↓S2,S2]
    exact ⟨k + 1,by rw [hst],by omega,by omega⟩
  · have ek : k = R.length := by omega
    subst ek
    rw [List.take_length,hm]
    simp only [go_sem,Nat.lt_irrefl]
    rw [e8]
    simp only [aget,Nat.reduceEqDiff,if_true,if_false]
    exact fa_k8 r m U F1 F3 Q hQ hq hs hU h1 h3 hu K hK
theorem order_len (c : Nat → Nat) (n : Nat) : (orderP c n).length ≤ n:=by
  unfold orderP
  rw [(isort_perm _ _).length_eq]
  have:=List.length_filter_le (fun i=>decide (0 < c i)) (List.range n)
  simp at this
  omega
theorem site_len (l : List Lim) (r : List Rec) : (sitesL r).length ≤ r.length:=by
  have:=(sites_inv l r).2.2.2.2
  rw [← sites_names l r,(isort_perm _ _).length_eq]
  exact this
theorem recov_len (l : List Lim) (r : List Rec) : (recovP l r).length ≤ r.length:=by
  unfold recovP
  have h1:=List.length_filter_le (recovB l r) (unitsL r)
  have h2:=finL_len l 1 r
  have h3:=congrArg List.length (finL_units l 1 r)
  simp only [List.length_map] at h3
  omega
theorem law_FA (L : List Int) {K : Post} : ACall X f_q03l [AL L] [] K = K (AB true) [] []:=by
  refine rule ?_
  rw [c_q03l rfl]
  obtain ⟨_,a1,⟨b1,b2,l,hl1,hl2,hlb,hlz,rfl⟩,V⟩:=(g_RightLimits (L:=L) (a:=0) (by unfold posN; omega)).hd (l:=[])
  have hl:=limOk_bd hl2 hlb
  have P1 : posN 0 a1:=by unfold posN; omega
  obtain ⟨n1,n2⟩:=rangeV_bd (u:=0) (v:=12) L a1 (by omega) (by omega)
  obtain ⟨n,hn⟩:=Int.eq_ofNat_of_zero_le n1
  obtain ⟨_,a2,⟨b3,b4,r,hr1,hr2,hrz,rfl⟩,R⟩:=(g_RightRecords (L:=L) (a:=a1 + 1) (by unfold posN; omega) l hl1 hl2 hl hlz n (by omega)).hd (l:=[])
  have P2 : posN 0 a2:=by unfold posN; omega
  obtain ⟨m1,m2⟩:=rangeV_bd (u:=1) (v:=3) L a2 (by omega) (by omega)
  have hrn : r.length ≤ 12:=by omega
  generalize hru : rangeV 1 3 L a2 = ru at *
  have ho : ∀ ru : Int,1 ≤ ru ∧ ru ≤ 3 → orL [0,ruleF ru] = 0:=fun ru h=>by
    have : ruleF ru = 0:=by unfold ruleF; rw [if_pos h]
    rw [this]; rfl
  have S1:=fun h K=>s_Pareto (h:=h) (K:=K) l r ru hl (by omega) hr2 hrn
  have S2:=fun h K=>s_lotFinal (h:=h) (K:=K) l r ru hl hr2 hrn
  have S3:=fun h K=>s_Recovered (h:=h) (K:=K) l r hl hr2 hrn
  have S4:=fun h K=>s_BySite (h:=h) (K:=K) l r hl hr2 hrn
  have S5:=fun h K=>s_lotFinal (h:=h) (K:=K) l r 1 hl hr2 hrn
  have S6:=fun h K=>s_lotFinal (h:=h) (K:=K) l r 3 hl hr2 hrn
  have S7:=fun h K=>s_errsK (h:=h) (K:=K) [0,0,0,0,0,0] (by simp)
  have e3 : firstErr [0,0,0,0,0,0] = 0:=rfl
  simp only [AL,List.map_cons,List.map_nil,e3] at S7
  simp only [hrz,ho ru ⟨m1,m2⟩,ho 1 (by omega),ho 3 (by omega),if_true] at S1 S2 S3 S4 S5 S6
  have e9:=@e_q03l_k9
  have hfc:=failed_count hlz ru r
  have htold:=told_eq l ru r fun x _=>fail_lt l x.res (by omega)
  have hbl : ∀ ru',(finalP l ru' r).length ≤ r.length:=fun ru'=>by have:=finL_len l ru' r; unfold finalP; simp; omega
  have hlF:=hbl ru
  have eR : paretoP l ru r = ((orderP (nFail l ru r) l.length).map fun i=>(keyAt l i,nFail l ru r i)).map q3P:=by unfold paretoP; rw [List.map_map]; rfl
  have eQ : siteP l r = ((sitesL r).map fun s=>(s,gSite l r s,nSite r s)).map q4P:=by unfold siteP; rw [List.map_map]; rfl
  have hR1 : ((orderP (nFail l ru r) l.length).map fun i=>(keyAt l i,nFail l ru r i)).length ≤ 1000:=by have:=order_len (nFail l ru r) l.length; simp; omega
  have hR2 : ∀ q ∈ (orderP (nFail l ru r) l.length).map fun i=>(keyAt l i,nFail l ru r i),q.2 ≤ 100:=fun q hq=>by
    obtain ⟨i,_,rfl⟩:=List.mem_map.1 hq
    have:=nFail_le l ru r i
    dsimp only; omega
  have hR3 : (((orderP (nFail l ru r) l.length).map fun i=>(keyAt l i,nFail l ru r i)).map fun q=>q.2).sum = (finalP l ru r).countP (fun p=>decide (p.2 ≠ [49])):=by
    rw [hfc,← htold,List.map_map]; rfl
  have hQ1 : ((sitesL r).map fun s=>(s,gSite l r s,nSite r s)).length ≤ 1000:=by have:=site_len l r; simp; omega
  have hQ2 : ∀ q ∈ (sitesL r).map fun s=>(s,gSite l r s,nSite r s),q.2.1 ≤ 100 ∧ q.2.2 ≤ 100:=fun q hq=>by
    obtain ⟨i,_,rfl⟩:=List.mem_map.1 hq
    have:=gSite_le l r i
    dsimp only; omega
  have hQ3 : (((sitesL r).map fun s=>(s,gSite l r s,nSite r s)).map fun q=>q.2.2).sum = r.length:=by
    rw [← sites_all l r,List.map_map]; rfl
  have hU1:=recov_len l r
  have hu:=recov_law hlz r
  have hF1:=hbl 1
  have hF3:=hbl 3
  rw [eR] at S1
  rw [eQ] at S4
  generalize (orderP (nFail l ru r) l.length).map (fun i=>(keyAt l i,nFail l ru r i)) = RR at *
  generalize (sitesL r).map (fun s=>(s,gSite l r s,nSite r s)) = QQ at *
  generalize recovP l r = U at *
  generalize finalP l 1 r = F1 at *
  generalize finalP l 3 r = F3 at *
  generalize finalP l ru r = F at *
  have k9:=fun h K hK=>fa_k9 (h:=h) r (F.countP (fun p=>decide (p.2 ≠ [49]))) U F1 F3 RR hR1 hR2 hR3 QQ hQ1 hQ2 hQ3 (by omega) (by omega) (by omega) hu K hK
  simp only [d_q03l,go_sem,↓V,V,P1,hn,↓R,R,P2,hru,↓S1,S1,↓S2,S2,↓S3,S3,↓S4,S4,↓S5,S5,↓S6,S6,↓S7,S7]
  refine N_loop (fun k : Nat=>⟨[(5,ARec r),(7,ASS (RR.map q3P)),(11,AStr U),(13,ASS (QQ.map q4P)),(15,ASS F1),(17,ASS F3),(19,AI ((F.take k).countP (fun p=>decide (p.2 ≠ [49])) : Nat)),(20,AI 0),(96,ASS F),(97,AI F.length),(98,AI k)],[strm L (a2 + 1)],[]⟩) (fun k=>k ≤ F.length) (fun k=>F.length - k) 0 rfl (by omega) ?_
  intro k hk
  rcases Nat.lt_or_ge k F.length with hlt | hge
  · have hg := map_get ssPv hlt
    have w2 : IntKind.i64.wrap ((k : Int) + 1) = ((k + 1 : Nat) : Int):=i64_wrap _ (by omega) (by omega)
    have hct:=countP_take_succ (fun p : SS=>decide (p.2 ≠ [49])) F k hlt
    have hol : (F.take k).countP (fun p : SS=>decide (p.2 ≠ [49])) ≤ (F.take k).length:=List.countP_le_length
    simp only [List.length_take] at hol
    generalize F[k] = y at *
    obtain ⟨y1,y2⟩:=y
    simp only [ssPv] at hg
    generalize (F.take k).countP (fun p : SS=>decide (p.2 ≠ [49])) = c at *
    have w1 : IntKind.i64.wrap ((c : Int) + 1) = ((c + 1 : Nat) : Int):=i64_wrap _ (by omega) (by omega)
    by_cases hy : y2 = [49]
    · have hct : (F.take (k + 1)).countP (fun p : SS => decide (p.2 ≠ [49])) = c := by rw [hct]; simp [hy]
      simp only [go_sem,hlt,hg,hy,w1,w2]
      exact ⟨k + 1,by rw [hct],by omega,by omega⟩
    · have hct : (F.take (k + 1)).countP (fun p : SS => decide (p.2 ≠ [49])) = c + 1 := by rw [hct]; simp [hy]
      simp only [go_sem,hlt,hg,hy,w1,w2]
      exact ⟨k + 1,by rw [hct],by omega,by omega⟩
  · have ek : k = F.length := by omega
    subst ek
    rw [List.take_length]
    simp only [go_sem,Nat.lt_irrefl]
    rw [e9]
    simp only [aget,Nat.reduceEqDiff,if_true,if_false]
    refine k9 _ _ fun h y hy=>?_
    subst hy
    simp only [go_sem]
end Go.Am
end
section
/- From a law that is true here to the model's calls at what came in. -/
open Go
namespace Go.Am
variable {P : Program}
theorem law_nil {X : Ctx} (HX : Fits P X) {f : Nat} {F : AFun} (hF : X.fn f = some F) (H : ∀ L : List Int,ACall X f [pints L] [] fun v _ _=>v = .p (.bool true)) (W : World) (hG : GInv X.gl (imm [] [] W)) :
    Calls P f #[.slice none 0 0] W fun e W'=>e = .returned (.bool true) ∧ RowKit.Below W.heap.size W W':=by
  refine (calls_of HX hF (H []) (W:=W) (vs:=[.slice none 0 0]) hG rfl (fun j y v hy hv=>?_)).mono fun e W' he=>?_
  · cases j with
    | zero=>cases hy; cases hv; exact came_nil W
    | succ j=>cases hy
  · cases e with
    | returned r=>
      obtain ⟨⟨v,h,x,μ,hk,hr⟩,hb⟩:=he
      subst hk
      exact ⟨by rw [hr.p_bool],hb⟩
    | panicked _=>exact he.elim
    | outgrown=>exact he.elim
theorem law_ints {X : Ctx} (HX : Fits P X) {f : Nat} {F : AFun} (hF : X.fn f = some F) (H : ∀ L : List Int,ACall X f [pints L] [] fun v _ _=>v = .p (.bool true)) {W : World} (hG : GInv X.gl (imm [] [] W)) {a : Addr} {len cap : Nat} {zs : List Int}
    (hl : len ≤ cap) (hz : len ≤ zs.length) (hc : ∀ i,i < zs.length → W.cell? (a.add i) = some (.int .i64 (zs.getD i 0))) :
    Calls P f #[.slice (some a) len cap] W fun e W'=>e = .returned (.bool true) ∧ RowKit.Below W.heap.size W W':=by
  refine (calls_of HX hF (H (zs.take len)) (W:=W) (vs:=[.slice (some a) len cap]) hG rfl (fun j y v hy hv=>?_)).mono fun e W' he=>?_
  · cases j with
    | zero=>
      cases hy; cases hv
      rcases Nat.eq_zero_or_pos len with h0 | h0
      · subst h0
        exact .p _ _ (.nils _ _ _)
      · exact came_ints (by simpa [Addr.add] using World.cell?_spot (hc 0 (by omega))) hl hz hc
    | succ j=>cases hy
  · cases e with
    | returned r=>
      obtain ⟨⟨v,h,x,μ,hk,hr⟩,hb⟩:=he
      subst hk
      exact ⟨by rw [hr.p_bool],hb⟩
    | panicked _=>exact he.elim
    | outgrown=>exact he.elim
end Go.Am
namespace Go.ChangeShapes
open Go.RowKit Go.WideShapes
section
variable {H : Type} {enc : TypeId × Value → H} {P : Program}
end
end Go.ChangeShapes
end
section
/- The abstract machine,part L2: the kit's contracts asv rows. -/
set_option linter.unusedSimpArgs false
set_option linter.unusedVariables false
namespace Go.Am
variable {P : Program} {gl : Nat → Option PV}
open Go.Shelf
theorem lib_dec : ∀ n : Nat,Go.Lib.decDigits n = decN n:=by
  intro n
  induction n using Nat.strongRecOn with
  | _ n ih=>
    rw [Go.Lib.decDigits,decN]
    split
    · rfl
    · rw [ih _ (by omega)]; rfl
theorem lib_itoa (n : Int) : Go.Lib.itoa n = itoa n:=by
  unfold Go.Lib.itoa itoa
  split
  · rw [lib_dec]
  · rw [lib_dec]; congr 1; omega
theorem tab_of {M : Mem} {w : World} {g : Nat} {name : String} {k : IntKind} {zs : List Int} (hn : P.globalNamed name = some g) (hg : gl g = some (.agg (zs.map (PV.int k)))) (hc : ∀ b o v,M.c b o = some v → w.cell? ⟨b,o,none⟩ = some v) (hb : ∀ b o,M.b b = some o → w.heap[b]? = some o) (hG : GInv gl M) :
    Go.Lib.TabIs P w name k zs:=by
  obtain ⟨hv,cs,t,x,h2,h3⟩:=hG g _ hg
  have h4:=hb _ _ h2
  unfold Go.Lib.TabIs World.var?
  rw [hn]
  simp only [Option.bind_some,h4,Option.some.injEq]
  simp only [PV.cells,List.length_map] at h3
  apply Array.ext
  · simpa using h3
  · intro i hi1 hi2
    have hi : i < zs.length:=by omega
    cases hv with
    | vp _ _ _ f hm hr=>
      have hy : (PV.agg (zs.map (PV.int k))).cells[i]? = some (.int k zs[i]):=by simp [PV.cells,hi]
      have q1:=hc _ _ _ (hm i _ hy)
      have q2:=hr i _ hy
      have q3 : f i = .int k zs[i]:=by
        generalize f i = u at q2
        cases q2; rfl
      rw [q3] at q1
      have q4 : cs[i]? = some (.int k zs[i]):=by simpa [World.cell?,h4] using q1
      rw [Array.getElem?_eq_getElem hi1] at q4
      simpa using q4
theorem ginv_tab {W : World} {g : Nat} {name : String} {k : IntKind} {zs : List Int} {v : PV} (hn : P.globalNamed name = some g) (ht : Go.Lib.TabIs P W name k zs) (hv : v = .agg (zs.map (PV.int k))) : GInv (glOf [(g,v)]) (imm [] [] W):=by
  intro n v' hv'
  unfold glOf at hv'
  cases hq : Nat.beq n g with
  | false=>rw [hq] at hv'; cases hv'
  | true=>
    rw [hq] at hv'
    have e:=Nat.eq_of_beq_eq_true hq
    subst e
    simp only [cond_true,Option.some.injEq] at hv'
    subst hv'
    subst hv
    unfold Go.Lib.TabIs World.var? at ht
    rw [hn] at ht
    simp only [Option.bind_some] at ht
    cases hb : W.heap[n]? with
    | none=>rw [hb] at ht; cases ht
    | some o=>
      rw [hb] at ht
      cases o with
      | cells cs t x=>
        simp only [Option.some.injEq] at ht
        refine ⟨.vp _ n 0 (fun j=>(zs.map fun z=>Value.int k z).getD j undef) (fun j y hy=>?_) (fun j y hy=>?_),cs,t,x,imm0_blk hb,by rw [ht]; simp [PV.cells]⟩
        · have hj : j < zs.length := by have := lt_of_get hy; simpa [PV.cells] using this
          refine imm0_cell ?_
          simp [World.cell?,hb,ht,hj,List.getD_eq_getElem?_getD]
        · have hj : j < zs.length := by have := lt_of_get hy; simpa [PV.cells] using this
          have e1 : y = .int k zs[j]:=by simpa [PV.cells,hj] using hy.symm
          have e2 : (zs.map fun z=>Value.int k z).getD j undef = .int k zs[j]:=by simp [List.getD_eq_getElem?_getD,hj]
          rw [e1,e2]
          exact .int k _
      | _=>cases ht
theorem grow_ext (w : World) (k : Nat) (os : Array Go.Obj) : WExt w (Go.Sort.grow (w.drewN k) os):=by
  refine ⟨?_,fun b hb=>?_,rfl⟩
  · show w.heap.size ≤ (w.heap ++ os).size
    simp
  · show (w.heap ++ os)[b]? = _
    rw [Array.getElem?_append_left hb]
theorem itoaRow {ρ : Ren} (L : Go.Proofs.LaysM.n171 P ρ) (g : Nat) (hn : P.globalNamed "internal/strconv.uint64pow10" = some g) (hg : gl g = some pow10PV) (he : ∀ us w,(callFunc (ρ.f 171) us).run P w = .ok (.enter (ρ.f 171) us) w) : PureRow P gl (ρ.f 171) itoaS where
  enter:=he
  run M w vs r us hc hb hG hl hr hs:=by
    unfold itoaS at hs
    split at hs
    · rename_i n
      match us,hl with
      | [u],_=>
        have q:=hr 0 _ u rfl rfl
        cases q
        cases hbd : (decide (-9223372036854775808 ≤ n) && decide (n ≤ 9223372036854775807)) with
        | false=>rw [hbd] at hs; cases hs
        | true=>
          rw [hbd] at hs
          simp only [cond_true,Option.some.injEq] at hs
          subst hs
          simp only [Bool.and_eq_true,decide_eq_true_eq] at hbd
          have hpw : pow10PV = .agg (Go.Lib.pow10Tab.map (PV.int .u64)):=by unfold pow10PV Go.Lib.pow10Tab; rw [List.map_map]; rfl
          rw [hpw] at hg
          refine (Go.Proofs.Any.strconv_Itoa L n hbd.1 hbd.2 w (tab_of hn hg hc hb hG)).mono fun e w' h=>?_
          obtain ⟨rfl,k,os,rfl⟩:=h
          exact ⟨_,rfl,grow_ext w k os,by rw [lib_itoa]; exact .p _ _ (.str _)⟩
    · cases hs
end Go.Am
end
section
/- The abstract machine,part L3: strconv.Atoi asv a row. -/
set_option linter.all false
namespace Go.Am
variable {P : Program} {gl : Nat → Option PV}
open Go.Shelf
theorem lib_digs : ∀ (l : List UInt8) (acc n k : Nat),digN acc l = some n → acc < 10 ^ k → l.length + k ≤ 18 → Go.Lib.parseUint10 acc l = .ok n ∧ n < 10 ^ (k + l.length)
  | [],acc,n,k,h,ha,hl=>by
    simp only [digN,Option.some.injEq] at h
    subst h
    exact ⟨rfl,by simpa using ha⟩
  | c :: r,acc,n,k,h,ha,hl=>by
    simp only [digN] at h
    split at h
    · rename_i hc
      simp only [List.length_cons] at hl ⊢
      have h18 : 10 ^ (k + 1) ≤ 10 ^ 18:=Nat.pow_le_pow_right (by omega) (by omega)
      have e18 : (10 : Nat) ^ 18 = 1000000000000000000:=rfl
      have hp : acc * 10 + (c.toNat - 48) < 10 ^ (k + 1):=by rw [Nat.pow_succ]; omega
      obtain ⟨q1,q2⟩:=lib_digs r _ n (k + 1) h hp (by omega)
      refine ⟨?_,by rw [show k + (r.length + 1) = k + 1 + r.length by omega]; exact q2⟩
      unfold Go.Lib.parseUint10
      rw [if_pos hc,if_neg (by omega),if_neg (by omega)]
      exact q1
    · cases h
theorem lib_atoi {s : List UInt8} {n : Nat} (h1 : 1 ≤ s.length) (h2 : s.length ≤ 18) (h : digN 0 s = some n) : Go.Lib.atoiAll s = .ok (n : Int):=by
  obtain ⟨q1,q2⟩:=lib_digs s 0 n 0 h (by simp) (by omega)
  have h18 : 10 ^ (0 + s.length) ≤ 10 ^ 18:=Nat.pow_le_pow_right (by omega) (by omega)
  have e18 : (10 : Nat) ^ 18 = 1000000000000000000:=rfl
  cases s with
  | nil=>simp at h1
  | cons c r=>
    have hc : 48 ≤ c.toNat ∧ c.toNat ≤ 57:=by
      simp only [digN] at h
      split at h
      · assumption
      · cases h
    unfold Go.Lib.atoiAll
    dsimp only
    rw [if_neg (by omega)]
    have hm : Go.Lib.parseMag (c :: r) = .ok n:=by unfold Go.Lib.parseMag; rw [if_neg (by simp)]; exact q1
    rw [hm]
    dsimp only
    rw [if_neg (by omega),if_neg (by omega),if_neg (by omega)]
theorem bytes_ext (w : World) (e : TypeId) (t : ByteArray) : WExt w (Go.Lib.bytesWorld w e t):=
  ⟨by rw [Go.Lib.bytesWorld_size]; omega,fun b hb=>Go.Lib.bytesWorld_at_old w e t b hb,by unfold zed Go.Lib.bytesWorld World.freeze; split <;> rfl⟩
theorem atoiRow {ρ : Ren} (L : Go.Proofs.LaysC.n172 P ρ) (he : ∀ us w,(callFunc (ρ.f 172) us).run P w = .ok (.enter (ρ.f 172) us) w) : PureRow P gl (ρ.f 172) atoiS where
  enter:=he
  run M w vs r us hc hb hG hl hr hs:=by
    unfold atoiS at hs
    split at hs
    · rename_i s
      match us,hl with
      | [u],_=>
        have q:=hr 0 _ u rfl rfl
        cases q
        split at hs
        · rename_i hbd
          obtain ⟨n,hn,rfl⟩:=Option.map_eq_some_iff.1 hs
          have hsz : (⟨s.toArray⟩ : ByteArray).size = s.length:=by simp [ByteArray.size]
          refine (Go.Proofs.Any.strconv_Atoi_ok L ⟨s.toArray⟩ (by rw [hsz]; omega) n (lib_atoi hbd.1 hbd.2 hn) w).mono fun e w' h=>?_
          obtain ⟨rfl,h⟩:=h
          refine ⟨_,rfl,?_,?_⟩
          · rcases h with h | ⟨t, h⟩
            · rw [h]; exact WExt.refl _
            · rw [h]; exact bytes_ext _ _ t
          · refine .tup _ [.int .i64 n, .nilIface] rfl (fun j y v h1 h2 => ?_)
            match j with
            | 0=>simp at h1 h2; subst h1; subst h2; exact .p _ _ (.int _ _)
            | 1=>simp at h1 h2; subst h1; subst h2; exact .nili
            | j + 2=>simp at h1
        · cases hs
    · cases hs
end Go.Am
end
