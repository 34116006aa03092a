/- Texts of the proof, laid together: SpFlt6, SpSortO, SpGenF, SpGenA2, SpGenF2, SpDet, SpPath, SpReady, SpKeep, SpLawSA, SpLawFO, SpSeen, SpSeen2, SpLawFR, Bridge, AmL2, AmL4. -/
import Derived.KernelRfl
import Derived.ProofKit
import Derived.Shelf.Strconv.Itoa3
import Derived.Lib.LaidTab
import Derived.Shelf.Strings.Repeat
import Derived.Shelf.Strings.SlTrimAscii
import Derived.Shelf.Spec.TrailingZeros
import Derived.Test.YtigceehkfnbmjaaGreatDoorlawFR6
set_option linter.all false
section
/- Responses,asv the program computes them. -/
open Go
set_option linter.all false
namespace Go.Am
variable {h : Heap} {K : Post}
theorem s_with (f : Flt) (r : List Nat) (hf : NetsIn f.nets r.length) {id : Nat} (hh : h[id]? = some (.row none (r.map eU) 0)) (hr : r.length ≤ 1000000) (hb : ∀ x ∈ r,x < 18446744073709551616) (ones : Nat) :
    ACall X f_q018 [.own id r.length 0 r.length,.p f.pv,.p (eU ones)] h K = K (.tup []) (h.set id (.row none ((fwithN r f ones).map eU) 0)) []:=by
  have:=with_val (h:=h) (K:=K) f r hf (get_lt hh) hr hb ones
  rw [set_self hh] at this
  exact this
theorem toB_map : ∀ s : List UInt8,toBytes (bytesP s) = some s
  | []=>rfl
  | c :: r=>by
    show toBytes (.int .u8 c.toNat :: bytesP r) = _
    unfold toBytes
    have : ((c.toNat : Int)) < 256:=by have:=c.toNat_lt; omega
    rw [if_pos ⟨by omega,this⟩,toB_map r]
    simp
theorem bit48 (b : Bool) : ((bitC b).toNat : Int) = 48 + ((if b = true then 1 else 0 : Nat) : Int):=by cases b <;> rfl
theorem textN_take_succ (k long n : Nat) : textN (k + 1) n = textN k n ++ [bitC (n.testBit k)]:=by
  unfold textN; rw [List.range_succ,List.map_append]; rfl
theorem s_texts (r : List Nat) (long : Nat) (hl : long ≤ 64) (hn : r.length ≤ 1000000) (hb : ∀ x ∈ r,x < 18446744073709551616) :
    ACall X f_q016 [.p (.sl none (r.map eU)),AI long] h K = K (AStr (r.map (textN long))) h []:=by
  refine rule ?_
  rw [c_q016 rfl]
  simp only [d_q016,go_sem]
  refine N_loop (fun k : Nat=>⟨[(1,AI long),(5,.own h.length k 0 k),(10,.p (.sl none (r.map eU))),(11,AI r.length),(12,AI k)],h ++ [.row none (((r.take k).map (textN long)).map PV.str) 0],[]⟩) (fun k=>k ≤ r.length) (fun k=>r.length - k) 0 rfl (by omega) ?_
  intro k hk
  rcases Nat.lt_or_ge k r.length with hlt | hge
  · have hg := map_get eU hlt
    have hx:=hb _ (List.getElem_mem hlt)
    have w2 : IntKind.i64.wrap ((k : Int) + 1) = ((k + 1 : Nat) : Int):=i64_wrap _ (by omega) (by omega)
    have hsn : (r.take (k + 1)).map (textN long) = (r.take k).map (textN long) ++ [textN long r[k]]:=by rw [List.take_succ_eq_append_getElem hlt,List.map_append]; rfl
    have hlen : (((r.take k).map (textN long)).map PV.str).length = k:=by simp; omega
    generalize ((r.take k).map (textN long)) = T at *
    generalize r[k] = n at *
    have hmx : long ≤ maxSl:=by unfold maxSl; omega
    have hmk : k + 1 ≤ maxSl:=by unfold maxSl; omega
    have hsz : PV.shp none (.int .u8 0) = true:=rfl
    simp only [go_sem,hlt,hg,hmx,hsz]
    refine N_loop (fun i : Nat=>⟨[(1,AI long),(5,.own h.length k 0 k),(7,.p (eU n)),(8,.own (h.length + 1) long 0 long),(10,.p (.sl none (r.map eU))),(11,AI r.length),(12,AI k),(19,AI long),(20,AI i)],h ++ [.row none (T.map PV.str) 0,.row none (bytesP (textN i n) ++ List.replicate (long - i) (.int .u8 0)) 0],[]⟩) (fun i=>i ≤ long) (fun i=>long - i) 0 rfl (by omega) ?_
    intro i hi
    rcases Nat.lt_or_ge i long with hlt2 | hge2
    · have w3 : IntKind.i64.wrap ((i : Int) + 1) = ((i + 1 : Nat) : Int) := i64_wrap _ (by omega) (by omega)
      have e1:=ishr_nat (a:=n) (i:=i) (by omega)
      have hd : n / 2 ^ i < 18446744073709551616:=Nat.lt_of_le_of_lt (Nat.div_le_self _ _) hx
      have e2:=iand_nat (a:=n / 2 ^ i) (b:=1) hd (by omega)
      rw [and_one] at e2
      have e3 : IntKind.u64.wrap (48 + ((if n.testBit i = true then 1 else 0 : Nat) : Int)) = ((bitC (n.testBit i)).toNat : Int):=by
        rw [← bit48]; cases n.testBit i <;> rfl
      have e4 : IntKind.u8.wrap ((bitC (n.testBit i)).toNat : Int) = ((bitC (n.testBit i)).toNat : Int):=by cases n.testBit i <;> rfl
      have hneg : ¬ ((i : Int) < 0):=by omega
      have hbl : (bytesP (textN i n)).length = i:=by simp [bytesP,textN]
      have hlr : (bytesP (textN i n) ++ List.replicate (long - i) (PV.int .u8 0)).length = long:=by rw [List.length_append,hbl,List.length_replicate]; omega
      have hgr : (bytesP (textN i n) ++ List.replicate (long - i) (PV.int .u8 0))[i]? = some (.int .u8 0):=by
        rw [List.getElem?_append_right (by omega),hbl,Nat.sub_self,List.getElem?_replicate]
        simp; omega
      have hst : (bytesP (textN i n) ++ List.replicate (long - i) (PV.int .u8 0)).set i (.int .u8 (bitC (n.testBit i)).toNat) = bytesP (textN (i + 1) n) ++ List.replicate (long - (i + 1)) (PV.int .u8 0):=by
        rw [List.set_append_right _ _ (by omega),hbl,Nat.sub_self]
        obtain ⟨m,hm⟩ : ∃ m,long - i = m + 1:=⟨long - i - 1,by omega⟩
        rw [hm,List.replicate_succ,List.set_cons_zero,show long - (i + 1) = m by omega,textN_take_succ i long n]
        simp [bytesP]
      rw [show ((1 : Nat) : Int) = 1 from rfl] at e2
      simp only [go_sem,hlt2,e1,hneg,e2,e3,e4,hlr,hgr,w3,hst]
      exact ⟨i + 1,rfl,by omega,by omega⟩
    · have ei : i = long := by omega
      subst ei
      have hbl : (bytesP (textN i n)).length = i:=by simp [bytesP,textN]
      have hwf : win (bytesP (textN i n)) 0 i = bytesP (textN i n):=win_full (by omega)
      have tb:=toB_map (textN i n)
      simp only [go_sem,Nat.lt_irrefl,Nat.sub_self,List.replicate_zero,List.append_nil,rd,hbl,hwf,tb,aconv,rds,hmk,hlen,w2]
      refine ⟨k + 1,?_,by omega,by omega⟩
      rw [hsn]
      simp
  · have ek : k = r.length := by omega
    subst ek
    simp only [go_sem,Nat.lt_irrefl,List.take_length]
    rw [win_full (by simp)]
theorem s_textsOwn (r : List Nat) (long : Nat) (hl : long ≤ 64) (hn : r.length ≤ 1000000) (hb : ∀ x ∈ r,x < 18446744073709551616) {id : Nat} (hh : h[id]? = some (.row none (r.map eU) 0)) :
    ACall X f_q016 [.own id r.length 0 r.length,AI long] h K = K (AStr (r.map (textN long))) (frz h id r.length) []:=by
  have e:=arg_pur (X:=X) (f:=f_q016) (F:=a_q016) (a:=[.own id r.length 0 r.length,AI long]) (vs:=[.sl none (r.map eU),.int .i64 long]) (h:=h) (h1:=frz h id r.length) (P:=K) x_q016 rfl
    (by
      have : win (r.map eU) 0 r.length = r.map eU:=win_full (by simp)
      simp [puras,pur,rd,hh,this]) rfl rfl frz_len
  rw [e]
  exact s_texts r long hl hn hb
theorem fltF_ok {n : Int} {f : Flt} (h : fltF n f = 0) : f.nets ≠ [] ∧ f.nets.length ≤ 6 ∧ (∀ x ∈ f.nets,0 ≤ x ∧ x < n) ∧ 1 ≤ f.kind ∧ f.kind ≤ 6 ∧ shortK f.kind = decide (1 < f.nets.length):=by
  unfold fltF at h
  split at h
  · cases h
  split at h
  · cases h
  split at h
  · cases h
  split at h
  · cases h
  split at h
  · cases h
  split at h
  · cases h
  rename_i h1 h2 h3 h4 h5 h6
  refine ⟨fun e=>h3 (by rw [e]; rfl),by omega,fun x hx=>?_,by omega,by omega,Decidable.not_not.1 h6⟩
  have : outN n x = false:=by
    cases hq : outN n x with
    | false=>rfl
    | true=>exact absurd (List.any_eq_true.2 ⟨x,hx,hq⟩) h5
  unfold outN at this
  rw [Bool.or_eq_false_iff,decide_eq_false_iff_not,decide_eq_false_iff_not] at this
  omega
theorem fltF_in {n : Nat} {f : Flt} (h : fltF n f = 0) : NetsIn f.nets n:=by
  obtain ⟨h1,h2,h3,_⟩:=fltF_ok h
  exact ⟨h1,by omega,h3⟩
theorem fltsF_ok {n : Int} : ∀ {l : List Flt},fltsF n l = 0 → ∀ f ∈ l,fltF n f = 0
  | [],_,f,hf=>by cases hf
  | g :: r,h,f,hf=>by
    unfold fltsF at h
    split at h
    · rename_i h1; exact absurd h h1
    · rename_i h1
      rcases List.mem_cons.1 hf with rfl | hf
      · exact Decidable.not_not.1 h1
      · exact fltsF_ok h f hf
def foldN (lg : Nat) (r : List Nat) (l : List Flt) : List Nat:=l.foldl (fun r f=>fwithN r f (2 ^ lg - 1)) r
theorem foldN_len (lg : Nat) : ∀ (l : List Flt) (r : List Nat),(foldN lg r l).length = r.length
  | [],r=>rfl
  | f :: l,r=>by
    unfold foldN
    rw [List.foldl_cons]
    exact (foldN_len lg l _).trans (fwithN_len _ _ _)
theorem ones_lt (lg : Nat) : 2 ^ lg - 1 < 2 ^ lg:=by have:=Nat.two_pow_pos lg; omega
theorem foldN_lt {lg : Nat} : ∀ (l : List Flt) (r : List Nat),(∀ x ∈ r,x < 2 ^ lg) → ∀ x ∈ foldN lg r l,x < 2 ^ lg
  | [],r,h=>h
  | f :: l,r,h=>by
    unfold foldN
    rw [List.foldl_cons]
    exact foldN_lt l _ (fwithN_lt h (ones_lt lg))
theorem foldN_take {lg : Nat} {r : List Nat} {l : List Flt} {k : Nat} (hk : k < l.length) : foldN lg r (l.take (k + 1)) = fwithN (foldN lg r (l.take k)) l[k] (2 ^ lg - 1):=by
  unfold foldN
  rw [List.take_succ_eq_append_getElem hk,List.foldl_append]; rfl
def combT (t : List (List UInt8)) (l : List Flt) : List (List UInt8):=(foldN (t.headD []).length (t.map rowN) l).map (textN (t.headD []).length)
def combV (t : List (List UInt8)) (l : List Flt) : AV:=if allF t l ≠ 0 then .tup [.p (.sl none []),AI (allF t l)] else .tup [AStr (combT t l),AI 0]
theorem le64 {lg : Nat} (h : lg ≤ 64) : 2 ^ lg ≤ 18446744073709551616:=by rw [← pow64]; exact Nat.pow_le_pow_right (by omega) h
theorem rows_lt {t : List (List UInt8)} {lg : Nat} (T : TestOk t lg) : ∀ x ∈ t.map rowN,x < 2 ^ lg:=by
  intro x hx
  obtain ⟨s,hs,rfl⟩:=List.mem_map.1 hx
  have:=rowN_lt s (T.b s hs)
  rwa [T.e s hs] at this
theorem s_Combined (t : List (List UInt8)) (l : List Flt) (hb : ∀ s ∈ t,s.length ≤ 1000000) (ht : t.length ≤ 1000000) (hf : ∀ f ∈ l,f.nets.length ≤ 1000000) (hn : l.length ≤ 1000000) :
    ACall X f_q00x [AStr t,AFlt l] h K = K (combV t l) h []:=by
  refine rule ?_
  rw [c_q00x rfl]
  have c:=fun h K=>s_faultsFault (h:=h) (K:=K) t l hb ht hf hn
  unfold combV
  by_cases h1 : allF t l = 0
  case neg=>simp only [d_q00x,go_sem,c,h1]
  have hT : testF t = 0:=by unfold allF at h1; split at h1 <;> simp_all
  have hF : fltsF t.length l = 0:=by unfold allF at h1; rw [if_neg (by simp [hT])] at h1; exact h1
  have T:=testF_ok hT
  have F:=fltsF_ok hF
  unfold combT
  generalize hlg : (t.headD []).length = lg at *
  have R:=fun h K=>s_rows (h:=h) (K:=K) t T.b (fun s hs=>by rw [T.e s hs]; exact T.l) (by have:=T.n1; omega)
  have r0:=rows_lt T
  have hz : (t.map PV.str)[0]? = some (.str (t.headD [])):=by
    cases t with
    | nil=>exact absurd T.n0 (by simp)
    | cons a r=>rfl
  have wh:=fun h K=>s_whole (h:=h) (K:=K) lg T.l
  have l64:=le64 T.l
  simp only [d_q00x,go_sem,c,h1,R]
  have hfl : ∀ k,((foldN lg (t.map rowN) (l.take k)).length = t.length):=fun k=>by rw [foldN_len,List.length_map]
  refine N_loop (fun k : Nat=>⟨[(0,AStr t),(7,.own h.length t.length 0 t.length),(18,AFlt l),(19,AI l.length),(20,AI k)],h ++ [.row none ((foldN lg (t.map rowN) (l.take k)).map eU) 0],[]⟩) (fun k=>k ≤ l.length) (fun k=>l.length - k) 0 rfl (by omega) ?_
  intro k hk
  rcases Nat.lt_or_ge k l.length with hlt | hge
  · have hg := map_get Flt.pv hlt
    have w2 : IntKind.i64.wrap ((k : Int) + 1) = ((k + 1 : Nat) : Int):=i64_wrap _ (by omega) (by omega)
    have cx:=flt_cut (f:=l[k])
    have rl:=hfl k
    have rb:=foldN_lt (l.take k) _ r0
    have hs:=foldN_take (lg:=lg) (r:=t.map rowN) hlt
    have hni:=fltF_in (F _ (List.getElem_mem hlt))
    generalize foldN lg (t.map rowN) (l.take k) = r at *
    have W:=fun (g : Heap) (K : Post)=>s_with (h:=h ++ .row none (r.map eU) 0 :: g) (K:=K) l[k] r (by rw [rl]; exact hni) (id:=h.length) (by rw [app_get0]; rfl) (by have:=T.n1; omega) (fun x hx=>Nat.lt_of_lt_of_le (rb x hx) l64) (2 ^ lg - 1)
    rw [rl] at W
    generalize l[k] = f at *
    simp only [Flt.pv] at hg cx W
    simp only [go_sem,hlt,hg,cx,hz,hlg,wh,w2,W]
    exact ⟨k + 1,by rw [hs],by omega,by omega⟩
  · have ek : k = l.length := by omega
    subst ek
    simp only [go_sem,Nat.lt_irrefl,List.take_length]
    have rl:=hfl l.length
    have rb:=foldN_lt l _ r0
    rw [List.take_length] at rl
    generalize foldN lg (t.map rowN) l = r at *
    have q:=fun K=>s_textsOwn (h:=h ++ [.row none (r.map eU) 0]) (K:=K) r lg T.l (by have:=T.n1; omega) (fun x hx=>Nat.lt_of_lt_of_le (rb x hx) l64) (id:=h.length) (by rw [app_get0]; rfl)
    rw [rl] at q
    simp only [go_sem,hz,hlg,q]
theorem s_Response (t : List (List UInt8)) (f : Flt) (hb : ∀ s ∈ t,s.length ≤ 1000000) (ht : t.length ≤ 1000000) (hf : f.nets.length ≤ 1000000) :
    ACall X f_q010 [AStr t,.p f.pv] h K = K (combV t [f]) h []:=by
  refine rule ?_
  rw [c_q010 rfl]
  have e:=fun h K=>s_Combined (h:=h) (K:=K) t [f] hb ht (fun g hg=>by rw [List.mem_singleton.1 hg]; exact hf) (by simp)
  simp only [AFlt,List.map_cons,List.map_nil,Flt.pv] at e
  have ev : ∃ a b,combV t [f] = .tup [.p a,.p b]:=by unfold combV; split <;> exact ⟨_,_,rfl⟩
  obtain ⟨a,b,ev⟩:=ev
  rw [ev] at e ⊢
  simp only [d_q010,Flt.pv,go_sem,e]
end Go.Am
end
section
/- Sorting the middle of a row: printed by program. -/
open Go
set_option linter.unusedSimpArgs false
namespace Go.Am
attribute [-go_sem] PV.cells splice
variable {h : Heap} {K : Post}
theorem insOrdO_int (id n o : Nat) (pre l tl : List PV) (ho : pre.length = o) (hn : n = o + (l.length + tl.length)) (hs : shps none l) (hl : l.length ≤ 1000) (hh : h[id]? = some (.row none (pre ++ (l ++ tl)) 0)) {lt : PV → PV → Bool} (hc : ∀ x ∈ l,∀ y ∈ l,∀ (h : Heap) (K : Post),ACall X f_q00s [.p x,.p y] h K = K (AB (lt x y)) h []) :
    ACall X f_q03c [.own id n o l.length,AI 0,AI l.length] h K = K (.tup []) (h.set id (.row none (pre ++ (isort lt l ++ tl)) 0)) []:=by
  refine rule ?_
  rw [c_q03c]
  have hid:=get_lt hh
  have hst : ∀ o,(h.set id o)[id]? = some o:=fun o=>set_get' hid
  have pg : ∀ (r : List PV) k,(pre ++ r)[o + k]? = r[k]?:=fun r k=>by rw [← ho,app_get]
  have ps : ∀ (r : List PV) k v,(pre ++ r).set (o + k) v = pre ++ r.set k v:=fun r k v=>by rw [← ho,app_set]
  simp only [d_q03c,go_sem,show IntKind.i64.wrap 1 = 1 from rfl]
  refine N_loop (fun i : Nat=>⟨[(0,.own id n o l.length),(1,AI 0),(2,AI l.length),(6,AI i)],h.set id (.row none (pre ++ ((isortR lt (l.take i)).reverse ++ (l.drop i ++ tl))) 0),[]⟩) (fun i=>1 ≤ i ∧ (i ≤ l.length ∨ i = 1)) (fun i=>l.length - i) 1 ?_ (by simp) ?_
  · have : (isortR lt (l.take 1)).reverse ++ (l.drop 1 ++ tl) = l ++ tl := by cases l <;> rfl
    rw [this,set_self hh]; rfl
  rintro i ⟨hi1,hi2⟩
  rcases Nat.lt_or_ge i l.length with hlt | hge
  · simp only [go_sem, hlt]
    have hxl : l[i] ∈ l:=List.getElem_mem hlt
    generalize hx : l[i] = x at *
    generalize hR : isortR lt (l.take i) = R
    have hRl : R.length = i:=by rw [← hR,isortR_len]; simp; omega
    have hRm : ∀ z ∈ R,z ∈ l:=fun z hz=>List.mem_of_mem_take ((isortR_perm lt (l.take i)).mem_iff.1 (by rw [hR]; exact hz))
    have hdrop : l.drop i = x :: l.drop (i + 1):=by rw [← hx]; exact List.drop_eq_getElem_cons hlt
    have hnext : isortR lt (l.take (i + 1)) = insR lt x R:=by rw [isortR_take_succ _ _ _ hlt,hR,hx]
    refine N_loop (fun t : List PV × List PV=>⟨[(0,.own id n o l.length),(1,AI 0),(2,AI l.length),(6,AI i),(7,AI t.1.length)],h.set id (.row none (pre ++ (t.1.reverse ++ x :: t.2)) 0),[]⟩)
      (fun t=>∃ B,R = B ++ t.1 ∧ t.2 = B.reverse ++ (l.drop (i + 1) ++ tl) ∧ ∀ b ∈ B,lt x b = true) (fun t=>t.1.length) (R,l.drop (i + 1) ++ tl) (by rw [hdrop,hRl]; rfl) ⟨[],rfl,rfl,by simp⟩ ?_
    rintro ⟨A,C⟩ ⟨B,q1,q2,q3⟩
    dsimp only at q1 q2 q3
    have hlen : (pre ++ (A.reverse ++ x :: C)).length = n:=by
      have : R.length = B.length + A.length:=by rw [q1]; simp
      rw [q2]; simp; omega
    have hBA : B.length + A.length < l.length:=by
      have : R.length = B.length + A.length:=by rw [q1]; simp
      omega
    have hln : o + l.length ≤ n:=by omega
    have w1 : IntKind.i64.wrap ((i : Int) + 1) = ((i + 1 : Nat) : Int):=i64_wrap _ (by omega) (by omega)
    cases A with
    | nil=>
      have hd : insR lt x R = B ++ [x]:=by rw [q1]; exact ins_done lt x [] B q3 (fun y r h=>by cases h)
      simp only [go_sem,Int.lt_irrefl,w1]
      refine ⟨i + 1,?_,by omega,by omega⟩
      simp only [hnext,hd,q2,List.reverse_append,List.reverse_nil,List.nil_append,List.reverse_cons,List.append_assoc,List.cons_append]
    | cons y A=>
      have hyl : y ∈ l:=hRm y (by rw [q1]; simp)
      have g1:=ins_get (y :: A) C x
      have g2:=ins_get1 A C x y
      have sw:=ins_swap A C x y
      simp only [List.length_cons] at hBA
      generalize hrow : (y :: A).reverse ++ x :: C = row at *
      have hsl : ∀ k v,(pre ++ row.set k v).length = n:=fun k v=>by rw [← hlen]; simp
      simp only [List.length_cons] at g1
      have w2 : IntKind.i64.wrap (((A.length + 1 : Nat) : Int) - 1) = (A.length : Int):=by rw [i64_wrap _ (by omega) (by omega)]; omega
      have p1 : (0 : Int) < ((A.length + 1 : Nat) : Int):=by omega
      have b1 : A.length + 1 < l.length:=by omega
      have b2 : A.length < l.length:=by omega
      have cx:=shp_cut (hs x hxl)
      have cy:=shp_cut (hs y hyl)
      have hcc:=fun h K=>hc x hxl y hyl h K
      cases hxy : lt x y with
      | false=>
        have hd : insR lt x R = B ++ x :: y :: A:=by rw [q1]; exact ins_done lt x (y :: A) B q3 (fun z r h=>by cases h; exact hxy)
        simp only [go_sem,hst,p1,hlen,pg,ps,g1,g2,w2,b1,b2,hln,cx,cy,hcc,hxy,w1]
        refine ⟨i + 1,?_,by omega,by omega⟩
        simp only [hnext,hd,← hrow,q2,List.reverse_append,List.reverse_cons,List.append_assoc,List.cons_append,List.nil_append]
      | true=>
        have g3 : (row.set (A.length + 1) y)[A.length]? = some y:=by rw [List.getElem?_set_ne (by omega),g2]
        have lx:=shp_len (hs x hxl)
        have ly:=shp_len (hs y hyl)
        have sx:=shp_all (hs x hxl)
        have sy:=shp_all (hs y hyl)
        simp only [shSize] at lx ly
        have t1:=fun i xs h1=>shp_st (hs x hxl) (hs y hyl) id i 0 xs h1
        have t2:=fun i xs h1=>shp_st (hs y hyl) (hs x hxl) id i 0 xs h1
        simp only [go_sem,hst,p1,hlen,hsl,pg,ps,g1,g2,g3,w2,b1,b2,hln,cx,cy,hcc,hxy,lx,ly,sx,sy,t1,t2,sw]
        refine ⟨(A,y :: C),rfl,⟨B ++ [y],by simp [q1],by simp [q2],fun b hb=>?_⟩,by simp⟩
        rw [List.mem_append,List.mem_singleton] at hb
        rcases hb with hb | rfl
        · exact q3 b hb
        · exact hxy
  · have hge' : ¬ i < l.length := by omega
    have e1 : l.take i = l:=List.take_of_length_le hge
    have e2 : l.drop i = []:=List.drop_of_length_le hge
    simp only [go_sem,hge',e1,e2]
    rfl
theorem SortO_int (id n o : Nat) (pre l tl : List PV) (ho : pre.length = o) (hn : n = o + (l.length + tl.length)) (hs : shps none l) (hl : l.length ≤ 12) (hh : h[id]? = some (.row none (pre ++ (l ++ tl)) 0)) {lt : PV → PV → Bool} (hc : ∀ x ∈ l,∀ y ∈ l,∀ (h : Heap) (K : Post),ACall X f_q00s [.p x,.p y] h K = K (AB (lt x y)) h []) :
    ACall X f_q038 [.own id n o l.length] h K = K (.tup []) (h.set id (.row none (pre ++ (isort lt l ++ tl)) 0)) []:=by
  refine rule ?_
  rw [c_q038]
  have w0 : IntKind.u64.wrap (l.length : Int) = l.length:=u64_wrap _ (by omega) (by omega)
  obtain ⟨m,hm⟩:=len_any (l.length : Int) (by omega) (by omega)
  have is:=fun h' (hq : h' = h) K=>insOrdO_int (h:=h) (K:=K) id n o pre l tl ho hn hs (by omega) hh hc
  have key : ∀ K : Post,ACall X f_q03k [.own id n o l.length,AI 0,AI l.length,AI m] h K = K (.tup []) (h.set id (.row none (pre ++ (isort lt l ++ tl)) 0)) []:=by
    intro K
    refine rule ?_
    rw [c_q03k]
    simp only [d_q03k,go_sem]
    refine N_loop (fun _ : Unit=>⟨[(0,.own id n o l.length),(1,AI 0),(2,AI l.length),(3,AI m),(8,AB true),(9,AB true)],h,[]⟩) (fun _=>True) (fun _=>0) () rfl trivial ?_
    intro _ _
    have w1 : IntKind.i64.wrap ((l.length : Int) - 0) = l.length:=by rw [i64_wrap _ (by omega) (by omega)]; omega
    have b1 : ((l.length : Int) ≤ 12):=by omega
    simp only [go_sem,w1,b1,is _ rfl]
  simp only [d_q038,go_sem,w0,hm,key]
end Go.Am
end
section
/- What is drawn: orders,tests. -/
open Go
set_option linter.all false
namespace Go.Am
variable {L : List Int} {a : Int} {h l : Heap} {id : Nat} {K : Post}
def GenK (f : Nat) (args : List AV) (L : List Int) (a : Int) (sh : Sh) (Q : List PV → Int → Prop) : Prop:=∀ (h : Heap) (id : Nat),h[id]? = some (strm L a) → ∃ xs a2,Q xs a2 ∧ ∀ K : Post,ACall X f (.ref id 0 :: args) h K = K (.own h.length xs.length 0 xs.length) (h.set id (strm L a2) ++ [.row sh xs 0]) []
theorem GenK.of {f : Nat} {args : List AV} {L : List Int} {a : Int} {sh : Sh} {Q : List PV → Int → Prop} (H : ∀ (h : Heap) (id : Nat),id < h.length → ACall X f (.ref id 0 :: args) (h.set id (strm L a)) fun v1 h1 x1=>∃ xs a2,Q xs a2 ∧ v1 = .own h.length xs.length 0 xs.length ∧ h1 = h.set id (strm L a2) ++ [.row sh xs 0] ∧ x1 = []) : GenK f args L a sh Q:=by
  intro h id hh
  have hid:=get_lt hh
  have k:=H h id hid
  rw [set_self hh] at k
  obtain ⟨v,h',x,⟨xs,a2,q,e0,e1,e2⟩,r⟩:=ACall.one X_noNext k
  subst e0; subst e1; subst e2
  exact ⟨xs,a2,q,r⟩
theorem swap_perm (l : List Int) (i k : Nat) (hi : i < l.length) (hk : k < l.length) : ((l.set i l[k]).set k l[i]).Perm l:=by
  have h:=Array.swap_perm (xs:=l.toArray) (i:=i) (j:=k) (by simpa using hi) (by simpa using hk)
  rw [Array.perm_iff_toList_perm] at h
  simpa [Array.swap_def] using h
def upI (n : Nat) : List Int:=(List.range n).map fun (k : Nat)=>(k : Int)
theorem upI_succ (n : Nat) : upI (n + 1) = upI n ++ [(n : Int)]:=by unfold upI; rw [List.range_succ,List.map_append]; rfl
theorem upI_len (n : Nat) : (upI n).length = n:=by simp [upI]
theorem upI_mem {n : Nat} {x : Int} : x ∈ upI n ↔ 0 ≤ x ∧ x < n:=by
  unfold upI
  simp only [List.mem_map,List.mem_range]
  constructor
  · rintro ⟨k,hk,rfl⟩; omega
  · intro ⟨h1,h2⟩; exact ⟨x.toNat,by omega,by omega⟩
theorem g_Order (n : Nat) (hn : n ≤ 1000) (hp : posN 2000 a) : GenK f_q027 [AI n] L a none (fun xs a2=>a ≤ a2 ∧ a2 ≤ a + n ∧ ∃ l : List Int,l.Perm (upI n) ∧ xs = l.map eI):=by
  refine GenK.of fun h id hid=>?_
  rw [c_q027 rfl]
  have hid' : id ≤ h.length:=by omega
  simp only [d_q027,go_sem,hid]
  refine N_loop (fun k : Nat=>⟨[(0,.ref id 0),(1,AI n),(5,.own h.length k 0 k),(9,AI n),(10,AI k)],h.set id (strm L a) ++ [.row none ((upI k).map eI) 0],[]⟩) (fun k=>k ≤ n) (fun k=>n - k) 0 rfl (by omega) ?_
  intro k hk
  have hkl : ((upI k).map eI).length = k:=by rw [List.length_map,upI_len]
  rcases Nat.lt_or_ge k n with hlt | hge
  · have w2 : IntKind.i64.wrap ((k : Int) + 1) = ((k + 1 : Nat) : Int) := i64_wrap _ (by omega) (by omega)
    have hmx : k + 1 ≤ maxSl:=by unfold maxSl; omega
    simp only [go_sem,hid,hid',hlt,hkl,hmx,w2]
    refine ⟨k + 1,?_,by omega,by omega⟩
    rw [upI_succ,List.map_append]; rfl
  · have ek : k = n := by omega
    subst ek
    have w3 : IntKind.i64.wrap ((k : Int) - 1) = (k : Int) - 1:=i64_wrap _ (by omega) (by omega)
    simp only [go_sem,hid,hid',Nat.lt_irrefl,w3]
    refine N_loop (fun t : List Int × Int × Int=>⟨[(0,.ref id 0),(5,.own h.length k 0 k),(7,AI t.2.1)],h.set id (strm L t.2.2) ++ [.row none (t.1.map eI) 0],[]⟩)
      (fun t=>t.1.Perm (upI k) ∧ -1 ≤ t.2.1 ∧ t.2.1 < k ∧ a ≤ t.2.2 ∧ t.2.2 + t.2.1 + 1 ≤ a + k) (fun t=>t.2.1.toNat) (upI k,(k : Int) - 1,a) rfl ⟨List.Perm.refl _,by simp; omega,by simp; omega,by simp,by simp; omega⟩ ?_
    rintro ⟨l,i,b⟩ ⟨q1,q2,q3,q4,q5⟩
    dsimp only at q1 q2 q3 q4 q5 ⊢
    have hll : l.length = k:=by rw [q1.length_eq,upI_len]
    have hlm : (l.map eI).length = k:=by rw [List.length_map,hll]
    by_cases hi : 0 < i
    · have pb := posN_le (n := 0) hp q4 (by omega)
      obtain ⟨n1,n2⟩:=nextV_bd L b (i + 1) (by omega) (by omega)
      have w4 : IntKind.i64.wrap (i + 1) = i + 1:=i64_wrap _ (by omega) (by omega)
      have w5 : IntKind.i64.wrap (i - 1) = i - 1:=i64_wrap _ (by omega) (by omega)
      have e1:=natOf_int (k:=.i64) n1
      have e2:=natOf_int (k:=.i64) (show 0 ≤ i by omega)
      obtain ⟨c,hc⟩ : ∃ c,nextV L b (i + 1) = c:=⟨_,rfl⟩
      rw [hc] at n1 n2 e1
      have b1 : c.toNat < k:=by omega
      have b2 : i.toNat < k:=by omega
      have g1:=map_get eI (l:=l) (k:=c.toNat) (by omega)
      have g2:=map_get eI (l:=l) (k:=i.toNat) (by omega)
      have hsw:=swap_perm l i.toNat c.toNat (by omega) (by omega)
      have g3 : ((l.set i.toNat l[c.toNat]).map eI)[c.toNat]? = some (eI ((l.set i.toNat l[c.toNat])[c.toNat]'(by simp; omega))):=map_get eI (by simp; omega)
      have m1 : (l.map eI).set i.toNat (eI l[c.toNat]) = (l.set i.toNat l[c.toNat]).map eI:=by rw [List.map_set]
      have m2 : ((l.set i.toNat l[c.toNat]).map eI).set c.toNat (eI l[i.toNat]) = ((l.set i.toNat l[c.toNat]).set c.toNat l[i.toNat]).map eI:=List.map_set.symm
      have hl2 : ((l.set i.toNat l[c.toNat]).map eI).length = k:=by simp [hll]
      simp only [go_sem,hid,hid',hi,w4,pb,hc,e1,e2,hlm,b1,b2,g1,g2,m1,g3,m2,hl2,w5]
      exact ⟨((l.set i.toNat l[c.toNat]).set c.toNat l[i.toNat],i - 1,b + 1),rfl,⟨hsw.trans q1,by dsimp only; omega,by dsimp only; omega,by dsimp only; omega,by dsimp only; omega⟩,by dsimp only; omega⟩
    · simp only [go_sem, hi]
      refine ⟨l.map eI,b,⟨q4,by omega,l,q1,rfl⟩,by rw [hlm],?_⟩
      exact List.take_of_length_le (by simp)
def SmallT (t : List (List UInt8)) : Prop:=t.length ≤ 5 ∧ ∀ s ∈ t,s.length ≤ 1000
theorem s_Repeat (s : List UInt8) (c : Int) (h0 : 0 ≤ c) (hc : s.length * c.toNat ≤ 1000000) (h1 : c ≤ 1000000) : ACall X f_q04f [AS s,AI c] h K = K (AS (repL s c.toNat)) h []:=by
  refine lib_call (X:=X) (by kernel_rfl) ?_
  rw [X_ex2]
  exact libF_pure (vs:=[.str s,.int .i64 c]) (by kernel_rfl) (s:=repeatS) (by kernel_rfl) rfl (by simp only [repeatS]; rw [if_pos ⟨h0,hc,h1⟩])
theorem repL_len (s : List UInt8) : ∀ c,(repL s c).length = c * s.length
  | 0=>by simp [repL]
  | c + 1=>by rw [repL,List.length_append,repL_len s c,Nat.add_mul,Nat.one_mul,Nat.add_comm]
theorem g_ATest (hp : posN 200 a) : GenE f_q022 [] L a (fun v a2=>a ≤ a2 ∧ a2 ≤ a + 60 ∧ ∃ t : List (List UInt8),SmallT t ∧ v = AStr t):=by
  refine GenE.of fun h id hid=>?_
  rw [c_q022 rfl]
  have hid' : id ≤ h.length:=by omega
  have p0:=posN_le (n:=0) hp (Int.le_refl a) (by omega)
  have p1:=posN_le (n:=0) hp (show a ≤ a + 1 by omega) (by omega)
  have pl:=pickV_mem (l:=[0,1,2,3,4,5]) (L:=L) (a:=a) (by simp) (by simp)
  obtain ⟨lg,hlg⟩ : ∃ n,pickV [0,1,2,3,4,5] L a = n:=⟨_,rfl⟩
  rw [hlg] at pl
  have hlg0 : 0 ≤ lg ∧ lg ≤ 5:=by simp only [List.mem_cons,List.not_mem_nil,or_false] at pl; omega
  obtain ⟨long,rfl⟩:=Int.eq_ofNat_of_zero_le hlg0.1
  obtain ⟨n1,n2⟩:=rangeV_bd (u:=1) (v:=5) L (a + 1) (by omega) (by omega)
  obtain ⟨n,hn⟩:=Int.eq_ofNat_of_zero_le (show 0 ≤ rangeV 1 5 L (a + 1) by omega)
  rw [hn] at n1 n2
  simp only [d_q022,go_sem,hid,p0,p1,hlg,hn]
  refine N_loop (fun t : List (List UInt8) × Int=>⟨[(0,.ref id 0),(3,.own h.length t.1.length 0 t.1.length),(4,AI long),(11,AI n),(12,AI t.1.length)],h.set id (strm L t.2) ++ [.row none (t.1.map PV.str) 0],[]⟩)
    (fun t=>t.1.length ≤ n ∧ (∀ s ∈ t.1,s.length ≤ 5) ∧ a ≤ t.2 ∧ t.2 ≤ a + 2 + 5 * t.1.length) (fun t=>n - t.1.length) ([],a + 1 + 1) rfl ⟨by simp,by simp,by simp; omega,by simp; omega⟩ ?_
  rintro ⟨t,b⟩ ⟨q1,q2,q3,q4⟩
  dsimp only at q1 q2 q3 q4 ⊢
  rcases Nat.lt_or_ge t.length n with hlt | hge
  · have w2 : IntKind.i64.wrap ((t.length : Int) + 1) = ((t.length + 1 : Nat) : Int) := i64_wrap _ (by omega) (by omega)
    simp only [go_sem,hid,hlt]
    refine N_loop (fun u : List UInt8 × Int=>⟨[(0,.ref id 0),(3,.own h.length t.length 0 t.length),(4,AI long),(5,AS u.1),(11,AI n),(12,AI t.length),(14,AI long),(15,AI u.1.length)],h.set id (strm L u.2) ++ [.row none (t.map PV.str) 0],[]⟩)
      (fun u=>u.1.length ≤ long ∧ b ≤ u.2 ∧ u.2 ≤ b + u.1.length) (fun u=>long - u.1.length) ([],b) rfl ⟨by simp,by simp,by simp⟩ ?_
    rintro ⟨s,c⟩ ⟨r1,r2,r3⟩
    dsimp only at r1 r2 r3 ⊢
    rcases Nat.lt_or_ge s.length long with hlt2 | hge2
    · have pc := posN_le (n := 0) hp (show a ≤ c by omega) (by omega)
      have w3 : IntKind.i64.wrap ((s.length : Int) + 1) = ((s.length + 1 : Nat) : Int):=i64_wrap _ (by omega) (by omega)
      have ps:=pickS_mem (l:=[[48],[49]]) (L:=L) (a:=c) (by simp) (by simp)
      have hs1 : (pickS [[48],[49]] L c).length = 1:=by
        simp only [List.mem_cons,List.not_mem_nil,or_false] at ps
        rcases ps with e | e <;> rw [e] <;> rfl
      obtain ⟨z,hz⟩ : ∃ z,pickS [[48],[49]] L c = z:=⟨_,rfl⟩
      rw [hz] at hs1
      have hmx : s.length + 1 ≤ maxStr:=by unfold maxStr; omega
      simp only [go_sem,hid,hlt2,pc,hz,hs1,hmx,w3]
      exact ⟨(s ++ z,c + 1),by simp [hs1],⟨by simp [hs1]; omega,by dsimp only; omega,by simp [hs1]; omega⟩,by simp [hs1]; omega⟩
    · have hge2' : ¬ s.length < long := by omega
      have hmx : t.length + 1 ≤ maxSl:=by unfold maxSl; omega
      simp only [go_sem,hid,hid',hge2',hmx,w2]
      refine ⟨(t ++ [s],c),by simp,⟨by simp; omega,fun z hz=>?_,by dsimp only; omega,by simp; omega⟩,by simp; omega⟩
      rcases List.mem_append.1 hz with hz | hz
      · exact q2 z hz
      · rw [List.mem_singleton.1 hz]; omega
  · have hge' : ¬ t.length < n := by omega
    have pb:=posAll (posN_le hp q3 (show b + 14 ≤ a + 200 by omega))
    have hq2 : ∀ s ∈ t,s.length ≤ 1000:=fun s hs=>by have:=q2 s hs; omega
    by_cases f1 : nextV L b 20 = 0
    · obtain ⟨m1, m2⟩ := nextV_bd L (b + 1) t.length (by omega) (by omega)
      obtain ⟨m,hm⟩:=Int.eq_ofNat_of_zero_le m1
      rw [hm] at m2
      have hml : m < t.length:=by omega
      have gm:=map_get PV.str hml
      have ps:=pickS_mem (l:=[[48],[120]]) (L:=L) (a:=b + 1 + 1) (by simp) (by simp)
      have hs1 : (pickS [[48],[120]] L (b + 1 + 1)).length = 1:=by
        simp only [List.mem_cons,List.not_mem_nil,or_false] at ps
        rcases ps with e | e <;> rw [e] <;> rfl
      obtain ⟨z,hz⟩ : ∃ z,pickS [[48],[120]] L (b + 1 + 1) = z:=⟨_,rfl⟩
      rw [hz] at hs1
      have htm:=q2 _ (List.getElem_mem hml)
      have hmx : t[m].length + 1 ≤ maxStr:=by unfold maxStr; omega
      simp only [go_sem,hid,hid',hge',pb,f1,hm,hml,gm,hz,hs1,hmx]
      refine ⟨b + 1 + 1 + 1,⟨by omega,by omega,t.set m (t[m] ++ z),⟨by simp; omega,fun x hx=>?_⟩,?_⟩,rfl⟩
      · rcases List.mem_or_eq_of_mem_set hx with hx | rfl
        · exact hq2 x hx
        · simp [hs1]; omega
      · have em : (t.map PV.str).set m (PV.str (t[m] ++ z)) = (t.set m (t[m] ++ z)).map PV.str := List.map_set.symm
        rw [em,win_full (by simp)]
    · by_cases f2 : nextV L (b + 1) 40 = 0
      · simp only [go_sem, hid, hid', hge', pb, f1, f2]
        exact ⟨b + 1 + 1,⟨by omega,by omega,[],⟨by simp,by simp⟩,rfl⟩,rfl⟩
      · by_cases f3 : nextV L (b + 1 + 1) 40 = 0
        · simp only [go_sem, hid, hid', hge', pb, f1, f2, f3]
          refine N_loop (fun u : List (List UInt8) × Nat × Int=>⟨[(0,.ref id 0),(3,.own h.length t.length 0 t.length),(50,AI t.length),(51,AI u.2.1)],h.set id (strm L u.2.2) ++ [.row none (u.1.map PV.str) 0],[]⟩)
            (fun u=>u.1.length = t.length ∧ (∀ s ∈ u.1,s.length ≤ 1000) ∧ u.2.1 ≤ t.length ∧ b + 3 ≤ u.2.2 ∧ u.2.2 ≤ b + 3 + 3 * u.2.1) (fun u=>t.length - u.2.1) (t,0,b + 1 + 1 + 1) rfl ⟨rfl,hq2,by simp,by simp; omega,by simp; omega⟩ ?_
          rintro ⟨u,j,c⟩ ⟨u1,u2,u3,u4,u5⟩
          dsimp only at u1 u2 u3 u4 u5 ⊢
          rcases Nat.lt_or_ge j t.length with hlt | hge
          · have pc := posAll (posN_le hp (show a ≤ c by omega) (show c + 14 ≤ a + 200 by omega))
            have w2 : IntKind.i64.wrap ((j : Int) + 1) = ((j + 1 : Nat) : Int):=i64_wrap _ (by omega) (by omega)
            have ps:=pickS_mem (l:=[[48],[49],[48,49]]) (L:=L) (a:=c) (by simp) (by simp)
            have hs1 : (pickS [[48],[49],[48,49]] L c).length ≤ 2:=by
              simp only [List.mem_cons,List.not_mem_nil,or_false] at ps
              rcases ps with e | e | e <;> rw [e] <;> decide
            obtain ⟨z,hz⟩ : ∃ z,pickS [[48],[49],[48,49]] L c = z:=⟨_,rfl⟩
            rw [hz] at hs1
            obtain ⟨v1,v2⟩:=rangeV_bd (u:=0) (v:=1) L (c + 1) (by omega) (by omega)
            obtain ⟨x1,x2⟩:=rangeV_bd (u:=0) (v:=32) L (c + 1 + 1) (by omega) (by omega)
            obtain ⟨d,hd⟩ : ∃ z,rangeV 0 1 L (c + 1) = z:=⟨_,rfl⟩
            obtain ⟨e,he⟩ : ∃ z,rangeV 0 32 L (c + 1 + 1) = z:=⟨_,rfl⟩
            rw [hd] at v1 v2
            rw [he] at x1 x2
            have w5 : IntKind.i64.wrap (32 + d) = 32 + d:=i64_wrap _ (by omega) (by omega)
            have hm1 : z.length * (32 + d).toNat ≤ 2 * 33:=Nat.mul_le_mul hs1 (by omega)
            have R1:=fun h K=>s_Repeat (h:=h) (K:=K) z (32 + d) (by omega) (by omega) (by omega)
            have R2:=fun h K=>s_Repeat (h:=h) (K:=K) [49] e (by omega) (by simp; omega) (by omega)
            have l1 : (repL z (32 + d).toNat).length ≤ 66:=by rw [repL_len,Nat.mul_comm]; exact hm1
            have l2 : (repL [49] e.toNat).length ≤ 32:=by rw [repL_len]; simp; omega
            generalize repL z (32 + d).toNat = A at *
            generalize repL [49] e.toNat = B at *
            have hmx : A.length + B.length ≤ maxStr:=by unfold maxStr; omega
            have gu:=map_get PV.str (l:=u) (k:=j) (by omega)
            have hul : (u.map PV.str).length = t.length:=by rw [List.length_map,u1]
            simp only [go_sem,hid,hid',hlt,pc,hz,hd,he,w5,R1,R2,hmx,hul,gu,w2]
            refine ⟨(u.set j (A ++ B),j + 1,c + 1 + 1 + 1),?_,⟨by simp [u1],fun x hx=>?_,by dsimp only; omega,by dsimp only; omega,by dsimp only; omega⟩,by dsimp only; omega⟩
            · rw [List.map_set]
            · rcases List.mem_or_eq_of_mem_set hx with hx | rfl
              · exact u2 x hx
              · simp; omega
          · have hge2 : ¬ j < t.length := by omega
            simp only [go_sem,hid,hid',hge2,u1]
            refine ⟨c,⟨by omega,by omega,u,⟨by omega,u2⟩,?_⟩,rfl⟩
            rw [win_full (by simp [u1])]
        · simp only [go_sem, hid, hid', hge', pb, f1, f2, f3]
          refine ⟨b + 1 + 1 + 1,⟨by omega,by omega,t,⟨by omega,hq2⟩,?_⟩,rfl⟩
          rw [win_full (by simp)]
theorem head_str {t : List (List UInt8)} (h : 0 < t.length) : (t.map PV.str)[0]? = some (.str (t.headD [])):=by
  cases t with
  | nil=>cases h
  | cons a r=>rfl
end Go.Am
end
section
/- What is drawn: faults. -/
open Go
set_option linter.all false
namespace Go.Am
variable {L : List Int} {a : Int} {h l : Heap} {id : Nat} {K : Post}
def SmallF (f : Flt) : Prop:=f.nets.length ≤ 8 ∧ (∀ x ∈ f.nets,-1152921504606846976 ≤ x ∧ x ≤ 1152921504606846976) ∧ -1152921504606846976 ≤ f.kind ∧ f.kind ≤ 1152921504606846976
theorem win_pre {α : Type} (xs : List α) (n : Nat) : win xs 0 n = xs.take n:=by simp [win]
theorem af_ret {kd : Int} {w : AV} {ns : List Int} {b2 : Int} {t : Heap} {x : Esc} {K0 : Post} (hw : reif h.length (h.set id (strm L b2) ++ t) w = some (.p (.sl none (ns.map eI)))) (hx : ∀ y ∈ x,h.length ≤ y.1)
    (hK : K0 (.p (Flt.pv ⟨kd,ns⟩)) (h.set id (strm L b2)) []) : retK false h.length K0 (some [.agg [AI kd,w]]) (h.set id (strm L b2) ++ t) x:=by
  have hr : reif h.length (h.set id (strm L b2) ++ t) (oneOf [.agg [AI kd,w]]) = some (.p (Flt.pv ⟨kd,ns⟩)):=by
    simp only [oneOf,reif_agg,reifs_cons,reif_p,hw,reifs_nil]
    rfl
  rw [retK_out hx hr (Nat.zero_le _),set_app_take]
  exact hK
theorem af_retP {v : PV} {b2 : Int} {t : Heap} {x : Esc} {K0 : Post} (hx : ∀ y ∈ x,h.length ≤ y.1)
    (hK : K0 (.p v) (h.set id (strm L b2)) []) : retK false h.length K0 (some [.p v]) (h.set id (strm L b2) ++ t) x:=by
  rw [retK_out hx (v:=.p v) (by rfl) (Nat.zero_le _),set_app_take]
  exact hK
theorem reif_row {b2 : Int} {t : Heap} {j n m : Nat} {R : List PV} {fz : Nat} (ht : t[j]? = some (.row none R fz)) (hR : R.length = n) (hm : m ≤ n) : reif h.length (h.set id (strm L b2) ++ t) (.own (h.length + j) n 0 m) = some (.p (.sl none (R.take m))):=by
  have : (h.set id (strm L b2) ++ t)[h.length + j]? = some (.row none R fz):=by
    have e : h.length = (h.set id (strm L b2)).length:=by simp
    rw [e,app_get]; exact ht
  simp [reif_own,rd,this,hR,hm,win_pre]
theorem esc_if {n m : Nat} {x : Esc} {p : Prop} [Decidable p] (hn : n ≤ m) (hx : ∀ y ∈ x,n ≤ y.1) {t : Nat} : ∀ y ∈ (if p then [(m,t)] else []) ++ x,n ≤ y.1:=by
  intro y hy
  rcases List.mem_append.1 hy with hy | hy
  · split at hy
    · rw [List.mem_singleton.1 hy]; exact hn
    · cases hy
  · exact hx y hy
theorem af_k2 (kd : Int) (hkd : 1 ≤ kd ∧ kd ≤ 6) (R : List Int) (n m : Nat) (hR : R.length = n) (hm1 : 1 ≤ m) (hmn : m ≤ n) (hm3 : m ≤ 3) (hx : ∀ x ∈ R,0 ≤ x ∧ x ≤ 1000) (v1 : Int) (hv1 : -1000 ≤ v1 ∧ v1 ≤ 1000) (b : Int) (hp : posN 20 b) (hid : id < h.length) (x : Esc) (hxe : ∀ y ∈ x,h.length ≤ y.1) (K0 : Post)
    (hK : ∀ (f : Flt) (b2 : Int),SmallF f → b ≤ b2 → b2 ≤ b + 6 → K0 (.p f.pv) (h.set id (strm L b2)) []) :
    d_q021_k2 (ACall X) X.gl p_q021_k1 (.ref id 0) (AI v1) (.ref h.length 0) (.ref (h.length + 1) 0)
      (h.set id (strm L b) ++ [.box [AI 0,.sl0 none],.box [AI kd,.own (h.length + 2) n 0 m],.row none (R.map eI) 0]) x (finR [.cell 4 (some 2)] false h.length K0):=by
  have hid' : id ≤ h.length:=by omega
  have P:=posAll (posN_le hp (Int.le_refl b) (by omega))
  have hRl : (R.map eI).length = n:=by rw [List.length_map,hR]
  by_cases f1 : nextV L b 30 = 0
  · by_cases f2 : nextV L (b + 1) 4 = 0
    · obtain ⟨kv, a3, o1, o2, o3, o4, O⟩ := g_Odd (L := L) (a := b + 1 + 1) (posN_le hp (by omega) (by omega)) 1 6 (by omega) (by omega) (by omega)
      have O':=fun l K=>O.app (h:=h) (id:=id) (l:=l) (K:=K) hid
      simp only [d_q021_k2,go_sem,hid,hid',P,f1,f2,↓O',O',hRl,hmn,escOf]
      refine af_ret (ns:=R.take m) (by rw [reif_row (j:=2) (fz:=0) rfl hRl hmn,List.map_take]) (esc_if (Nat.le_refl _) (esc_if (by omega) hxe)) ?_
      exact hK ⟨kv,R.take m⟩ a3 ⟨by simp; omega,fun z hz=>by have:=hx z (List.mem_of_mem_take hz); omega,by dsimp only; omega,by dsimp only; omega⟩ (by omega) (by omega)
    · by_cases f3 : nextV L (b + 1) 4 = 1
      · have hR0 : 0 < R.length := by omega
        have g0:=head_get hR0
        have hhd : R.headD 0 ∈ R:=by
          cases R with
          | nil=>cases hR0
          | cons z r=>simp
        have hb0:=hx _ hhd
        have pm:=pickV_mem (l:=[0,1,-1,v1,R.headD 0]) (L:=L) (a:=b + 1 + 1) (by simp) (by simp)
        obtain ⟨c,hc⟩ : ∃ c,pickV [0,1,-1,v1,R.headD 0] L (b + 1 + 1) = c:=⟨_,rfl⟩
        rw [hc] at pm
        have hcb : -1000 ≤ c ∧ c ≤ 1000:=by simp only [List.mem_cons,List.not_mem_nil,or_false] at pm; omega
        have hms : m + 1 ≤ maxSl:=by unfold maxSl; omega
        have hall : (R.map eI).all PV.intP = true:=by rw [List.all_eq_true]; intro z hz; obtain ⟨q,_,rfl⟩:=List.mem_map.1 hz; rfl
        by_cases hmn2 : m = n
        · simp only [d_q021_k2, go_sem, hid, hid', P, f1, f2, f3, hc, hRl, hmn, hmn2, g0, hm1, escOf, hms]
          have hns : n + 1 ≤ maxSl:=by unfold maxSl; omega
          rw [if_pos (by omega),if_pos hns]
          refine af_ret (ns:=R ++ [c]) ?_ (esc_if (Nat.le_refl _) (esc_if (by omega) hxe)) ?_
          · rw [reif_row (j:=2) (fz:=0) rfl (by simp [hR]) (Nat.le_refl _),List.take_of_length_le (by simp [hR]),List.map_append]; rfl
          · refine hK ⟨kd, R ++ [c]⟩ (b + 1 + 1 + 1) ⟨by simp; omega, fun z hz => ?_, by dsimp only; omega, by dsimp only; omega⟩ (by omega) (by omega)
            rcases List.mem_append.1 hz with hz | hz
            · have:=hx z hz; omega
            · rw [List.mem_singleton.1 hz]; omega
        · simp only [d_q021_k2, go_sem, hid, hid', P, f1, f2, f3, hc, hRl, hmn, hmn2, g0, hm1, escOf, hms, hall]
          rw [if_pos (by omega),if_pos ⟨by omega,rfl⟩]
          refine af_retP (esc_if (Nat.le_refl _) (esc_if (by omega) hxe)) ?_
          have hw : win (R.map eI) 0 m ++ [PV.int IntKind.i64 c] = (R.take m ++ [c]).map eI:=by rw [win_pre,List.map_append,List.map_take]; rfl
          rw [hw]
          refine hK ⟨kd,R.take m ++ [c]⟩ (b + 1 + 1 + 1) ⟨by simp; omega,fun z hz=>?_,by dsimp only; omega,by dsimp only; omega⟩ (by omega) (by omega)
          rcases List.mem_append.1 hz with hz | hz
          · have:=hx z (List.mem_of_mem_take hz); omega
          · rw [List.mem_singleton.1 hz]; omega
      · by_cases f4 : nextV L (b + 1) 4 = 2
        · simp only [d_q021_k2, go_sem, hid, hid', P, f1, f2, f3, f4, hRl, hmn, escOf]
          refine af_retP (esc_if (Nat.le_refl _) (esc_if (by omega) hxe)) ?_
          exact hK ⟨kd,[]⟩ (b + 1 + 1) ⟨by simp,fun z hz=>by simp at hz,by dsimp only; omega,by dsimp only; omega⟩ (by omega) (by omega)
        · obtain ⟨r1, r2⟩ := rangeV_bd (u := 5) (v := 7) L (b + 1 + 1) (by omega) (by omega)
          obtain ⟨c,hc⟩:=Int.eq_ofNat_of_zero_le (show 0 ≤ rangeV 5 7 L (b + 1 + 1) by omega)
          rw [hc] at r1 r2
          have hc7 : c ≤ 7:=by omega
          simp only [d_q021_k2,go_sem,hid,hid',P,f1,f2,f3,f4,hc,hc7,hRl,hmn,escOf]
          refine af_retP (esc_if (Nat.le_refl _) (esc_if (by omega) hxe)) ?_
          have hw : win [PV.int IntKind.i64 0,PV.int IntKind.i64 1,PV.int IntKind.i64 2,PV.int IntKind.i64 3,PV.int IntKind.i64 4,PV.int IntKind.i64 5,PV.int IntKind.i64 6] 0 c = (([0,1,2,3,4,5,6] : List Int).take c).map eI:=by rw [List.map_take]; rfl
          rw [hw]
          refine hK ⟨kd,([0,1,2,3,4,5,6] : List Int).take c⟩ (b + 1 + 1 + 1) ⟨by simp; omega,fun z hz=>?_,by dsimp only; omega,by dsimp only; omega⟩ (by omega) (by omega)
          have:=List.mem_of_mem_take hz
          simp only [List.mem_cons,List.not_mem_nil,or_false] at this
          omega
  · simp only [d_q021_k2, go_sem, hid, hid', P, f1, hRl, hmn, escOf]
    refine af_ret (ns:=R.take m) (by rw [reif_row (j:=2) (fz:=0) rfl hRl hmn,List.map_take]) (esc_if (Nat.le_refl _) hxe) ?_
    exact hK ⟨kd,R.take m⟩ (b + 1) ⟨by simp; omega,fun z hz=>by have:=hx z (List.mem_of_mem_take hz); omega,by dsimp only; omega,by dsimp only; omega⟩ (by omega) (by omega)
attribute [-go_sem] d_q021_k2
theorem isort_eI (l : List Int) : isort ltP (l.map eI) = (isort ltI l).map eI:=isort_map eI (fun a b=>rfl) l
theorem esc_if1 {n m : Nat} {p : Prop} [Decidable p] (hn : n ≤ m) {t : Nat} : ∀ y ∈ (if p then [(m,t)] else ([] : Esc)),n ≤ y.1:=by
  intro y hy
  split at hy
  · rw [List.mem_singleton.1 hy]; exact hn
  · cases hy
theorem sort_at {l0 : List Int} (o m N : Nat) (hl : l0.length = N) (hom : o + m ≤ N) (hm : m ≤ 12) (x y : Obj) (b : Int) : ∃ R : List Int,R.length = N ∧ (∀ z ∈ R,z ∈ l0) ∧ ∀ K : Post,ACall X f_q038 [.own (h.length + 2) N o m] (h.set id (strm L b) ++ [x,y,.row none (l0.map eI) 0]) K = K (.tup []) (h.set id (strm L b) ++ [x,y,.row none (R.map eI) 0]) []:=by
  have hsp : l0 = l0.take o ++ ((l0.drop o).take m ++ l0.drop (o + m)):=by
    rw [← List.drop_drop,List.take_append_drop,List.take_append_drop]
  have hl1 : ((l0.drop o).take m).length = m:=by simp; omega
  have hg : (h.set id (strm L b) ++ [x,y,.row none (l0.map eI) 0])[h.length + 2]? = some (.row none (((l0.take o).map eI) ++ (((l0.drop o).take m).map eI ++ (l0.drop (o + m)).map eI)) 0):=by
    have e : h.length = (h.set id (strm L b)).length:=by simp
    rw [e,app_get]
    show some (Obj.row none (l0.map eI) 0) = _
    rw [← List.map_append,← List.map_append,← hsp]
  refine ⟨l0.take o ++ (isort ltI ((l0.drop o).take m) ++ l0.drop (o + m)),?_,fun z hz=>?_,fun K=>?_⟩
  · rw [List.length_append,List.length_append,isort_len,hl1]; simp; omega
  · rw [hsp]
    rcases List.mem_append.1 hz with hz | hz
    · exact List.mem_append_left _ hz
    · rcases List.mem_append.1 hz with hz | hz
      · exact List.mem_append_right _ (List.mem_append_left _ (isort_mem.1 hz))
      · exact List.mem_append_right _ (List.mem_append_right _ hz)
  · have := SortO_int (K := K) (h.length + 2) N o ((l0.take o).map eI) (((l0.drop o).take m).map eI) ((l0.drop (o + m)).map eI) (by simp; omega) (by rw [List.length_map, hl1]; simp; omega) shps_eI (by rw [List.length_map, hl1]; exact hm) hg (lt := ltP) less_eI
    rw [List.length_map,hl1] at this
    rw [this,isort_eI,← List.map_append,← List.map_append]
    congr 1
    have e : h.length + 2 = (h.set id (strm L b)).length + 2:=by simp
    rw [e,app_set]; rfl
theorem g_AFault (n : Nat) (hn : n ≤ 100) (hp : posN 3000 a) : GenE f_q021 [AI n] L a (fun v a2=>a ≤ a2 ∧ a2 ≤ a + 120 ∧ ∃ f : Flt,SmallF f ∧ v = .p f.pv):=by
  refine GenE.of fun h id hid=>?_
  rw [c_q021 rfl]
  have hid' : id ≤ h.length:=by omega
  have p0:=posN_le (n:=0) hp (Int.le_refl a) (by omega)
  obtain ⟨k1,k2⟩:=rangeV_bd (u:=1) (v:=6) L a (by omega) (by omega)
  obtain ⟨kd,hkd⟩ : ∃ k,rangeV 1 6 L a = k:=⟨_,rfl⟩
  rw [hkd] at k1 k2
  obtain ⟨N,hN⟩ : ∃ N : Nat,max (n : Int) 1 = (N : Int):=⟨max n 1,by omega⟩
  have hN1 : 1 ≤ N ∧ N ≤ 100:=by omega
  have hg : ∀ t : Heap,(h.set id (strm L (a + 1)) ++ t)[id]? = some (strm L (a + 1)):=fun t=>set_app_get hid _
  obtain ⟨xs,a3,⟨d1,d2,l,hl,rfl⟩,V⟩:=g_Order (L:=L) (a:=a + 1) N (by omega) (posN_le hp (by omega) (by omega)) (h.set id (strm L (a + 1)) ++ [.box [AI 0,.sl0 none],.box [AI kd,.sl0 none]]) id (hg _)
  have hll : l.length = N:=by rw [hl.length_eq,upI_len]
  have hb2 : (h.set id (strm L (a + 1)) ++ [Obj.box [AI 0,.sl0 none],.box [AI kd,.sl0 none]]).length = h.length + 2:=by simp
  rw [List.length_map,hll,hb2] at V
  simp only [set_app_set hid,List.append_assoc,List.cons_append,List.nil_append] at V
  have hlm : ∀ x ∈ l,0 ≤ x ∧ x ≤ 1000:=fun x hx=>by have:=upI_mem.1 (hl.mem_iff.1 hx); omega
  have P3:=posAll (posN_le hp (show a ≤ a3 by omega) (show a3 + 14 ≤ a + 3000 by omega))
  by_cases hk : 3 ≤ kd ∧ kd ≤ 5
  · have pm := pickV_mem (l := [2, 2, 3]) (L := L) (a := a3) (by simp) (by simp)
    obtain ⟨c,hc⟩ : ∃ c,pickV [2,2,3] L a3 = c:=⟨_,rfl⟩
    rw [hc] at pm
    have hc3 : 2 ≤ c ∧ c ≤ 3:=by simp only [List.mem_cons,List.not_mem_nil,or_false] at pm; omega
    obtain ⟨m,hm⟩ : ∃ m : Nat,min c (N : Int) = (m : Int):=⟨(min c (N : Int)).toNat,by omega⟩
    have hm2 : 1 ≤ m ∧ m ≤ N ∧ m ≤ 3:=by omega
    have hm0 : ¬ m = 0:=by omega
    have hpos : posN 20 (a3 + 1):=posN_le hp (by omega) (by omega)
    by_cases h5 : kd = 5
    · subst h5
      simp only [d_q021,go_sem,hid,hid',p0,hkd,hN,V,P3,hk.1,hk.2,hc,hm,hll,hm2,hm0,escOf]
      obtain ⟨R,r1,r2,r3⟩:=sort_at (h:=h) (id:=id) (L:=L) (l0:=l) 1 (m - 1) N hll (by omega) (by omega) (.box [AI 0,AV.sl0 none]) (.box [AI 5,AV.own (h.length + 2) N 0 m]) (a3 + 1)
      rw [r3]
      refine af_k2 5 (by omega) R N m r1 (by omega) (by omega) (by omega) (fun z hz=>hlm z (r2 z hz)) n (by omega) (a3 + 1) hpos hid _ ?_ _ ?_
      · rw [List.nil_append]
        exact esc_if (by omega) (esc_if1 (by omega))
      · intro f b2 q1 q2 q3
        exact ⟨b2,⟨by omega,by omega,f,q1,rfl⟩,rfl,rfl⟩
    · have h5' : ¬ (kd = 5) := h5
      simp only [d_q021,go_sem,hid,hid',p0,hkd,hN,V,P3,hk.1,hk.2,hc,hm,h5',hll,hm2,hm0,escOf]
      obtain ⟨R,r1,r2,r3⟩:=sort_at (h:=h) (id:=id) (L:=L) (l0:=l) 0 m N hll (by omega) (by omega) (.box [AI 0,AV.sl0 none]) (.box [AI kd,AV.own (h.length + 2) N 0 m]) (a3 + 1)
      rw [r3]
      refine af_k2 kd (by omega) R N m r1 (by omega) (by omega) (by omega) (fun z hz=>hlm z (r2 z hz)) n (by omega) (a3 + 1) hpos hid _ ?_ _ ?_
      · rw [List.nil_append]
        exact esc_if (by omega) (esc_if1 (by omega))
      · intro f b2 q1 q2 q3
        exact ⟨b2,⟨by omega,by omega,f,q1,rfl⟩,rfl,rfl⟩
  · have h5 : ¬ kd = 5 := by omega
    have hpos : posN 20 a3:=posN_le hp (by omega) (by omega)
    have fin : ∀ (y : Esc),(∀ z ∈ y,h.length ≤ z.1) → (ACall X f_q038 [.own (h.length + 2) N 0 1] (h.set id (strm L a3) ++ [.box [AI 0,AV.sl0 none],.box [AI kd,AV.own (h.length + 2) N 0 1],.row none (l.map eI) 0])
        fun t12 h13 y14=>d_q021_k2 (ACall X) X.gl p_q021_k1 (.ref id 0) (AI n) (.ref h.length 0) (.ref (h.length + 1) 0) h13 (y14 ++ y)
          (finR [.cell 4 (some 2)] false h.length fun v1 h1 x1=>∃ a2,(a ≤ a2 ∧ a2 ≤ a + 120 ∧ ∃ f : Flt,SmallF f ∧ v1 = .p f.pv) ∧ h1 = h.set id (strm L a2) ∧ x1 = [])):=by
      intro y hy
      obtain ⟨R,r1,r2,r3⟩:=sort_at (h:=h) (id:=id) (L:=L) (l0:=l) 0 1 N hll (by omega) (by omega) (.box [AI 0,AV.sl0 none]) (.box [AI kd,AV.own (h.length + 2) N 0 1]) a3
      rw [r3]
      refine af_k2 kd (by omega) R N 1 r1 (by omega) (by omega) (by omega) (fun z hz=>hlm z (r2 z hz)) n (by omega) a3 hpos hid _ ?_ _ ?_
      · rw [List.nil_append]; exact hy
      · intro f b2 q1 q2 q3
        exact ⟨b2,⟨by omega,by omega,f,q1,rfl⟩,rfl,rfl⟩
    by_cases h3 : 3 ≤ kd
    · have h6 : ¬ kd ≤ 5 := by omega
      simp only [d_q021,go_sem,hid,hid',p0,hkd,hN,V,h3,h6,h5,hll,hN1.1,escOf]
      refine fin _ ?_
      exact esc_if (by omega) (esc_if1 (by omega))
    · simp only [d_q021, go_sem, hid, hid', p0, hkd, hN, V, h3, h5, hll, hN1.1, escOf]
      refine fin _ ?_
      exact esc_if (by omega) (esc_if1 (by omega))
end Go.Am
end
section
/- What is drawn: lists of faults. -/
open Go
set_option linter.all false
namespace Go.Am
variable {L : List Int} {a : Int} {h l : Heap} {id : Nat} {K : Post}
theorem s_CloneIP (l : List PV) (hl : l.length ≤ 1000000) : ACall X f_q02t [.p (.sl none l)] h K = K (.own h.length l.length 0 l.length) (h ++ [.row none l 0]) []:=by
  refine rule ?_
  rw [c_q02t rfl]
  simp only [d_q02t]
  refine ⟨_,_,_,⟨rfl,rfl,rfl⟩,?_⟩
  cases l with
  | nil=>
    simp only [List.length_nil,go_sem]
    exact List.take_of_length_le (by simp)
  | cons x r=>
    have hm : r.length + 1 ≤ maxSl:=by simp only [List.length_cons] at hl; unfold maxSl; omega
    simp only [List.length_cons,go_sem,hm]
    exact List.take_of_length_le (by simp)
theorem s_CloneSP (l : List PV) (hl : l.length ≤ 1000000) : ACall X f_q02u [.p (.sl none l)] h K = K (.own h.length l.length 0 l.length) (h ++ [.row none l 0]) []:=by
  refine rule ?_
  rw [c_q02u rfl]
  simp only [d_q02u]
  refine ⟨_,_,_,⟨rfl,rfl,rfl⟩,?_⟩
  cases l with
  | nil=>
    simp only [List.length_nil,go_sem]
    exact List.take_of_length_le (by simp)
  | cons x r=>
    have hm : r.length + 1 ≤ maxSl:=by simp only [List.length_cons] at hl; unfold maxSl; omega
    simp only [List.length_cons,go_sem,hm]
    exact List.take_of_length_le (by simp)
theorem s_CloneUP (l : List PV) (hl : l.length ≤ 1000000) : ACall X f_q02v [.p (.sl none l)] h K = K (.own h.length l.length 0 l.length) (h ++ [.row none l 0]) []:=by
  refine rule ?_
  rw [c_q02v rfl]
  simp only [d_q02v]
  refine ⟨_,_,_,⟨rfl,rfl,rfl⟩,?_⟩
  cases l with
  | nil=>
    simp only [List.length_nil,go_sem]
    exact List.take_of_length_le (by simp)
  | cons x r=>
    have hm : r.length + 1 ≤ maxSl:=by simp only [List.length_cons] at hl; unfold maxSl; omega
    simp only [List.length_cons,go_sem,hm]
    exact List.take_of_length_le (by simp)
theorem frzB {o0 o1 : Obj} {sh : Sh} {xs : List PV} {fz k : Nat} : frz [o0,o1,.row sh xs fz] 2 k = [o0,o1,.row sh xs (max fz k)]:=rfl
theorem g_FaultList (n : Nat) (hn : n ≤ 100) (hp : posN 4000 a) : GenE f_q023 [AI n] L a (fun v a2=>a ≤ a2 ∧ a2 ≤ a + 721 ∧ ∃ fs : List Flt,fs.length ≤ 6 ∧ (∀ f ∈ fs,SmallF f) ∧ v = AFlt fs):=by
  refine GenE.of fun h id hid=>?_
  rw [c_q023 rfl]
  have hid' : id ≤ h.length:=by omega
  have p0:=posN_le (n:=0) hp (Int.le_refl a) (by omega)
  obtain ⟨n1,n2⟩:=rangeV_bd (u:=0) (v:=6) L a (by omega) (by omega)
  obtain ⟨m,hm⟩:=Int.eq_ofNat_of_zero_le n1
  rw [hm] at n2
  simp only [d_q023,go_sem,hid,p0,hm]
  refine N_loop (fun t : List Flt × Int=>⟨[(0,.ref id 0),(1,AI n),(5,.own h.length t.1.length 0 t.1.length),(8,AI m),(9,AI t.1.length)],h.set id (strm L t.2) ++ [.row (some 2) (t.1.map Flt.pv) 0],[]⟩)
    (fun t=>t.1.length ≤ m ∧ (∀ f ∈ t.1,SmallF f) ∧ a + 1 ≤ t.2 ∧ t.2 ≤ a + 1 + 120 * t.1.length) (fun t=>m - t.1.length) ([],a + 1) rfl ⟨by simp,by simp,by simp,by simp⟩ ?_
  rintro ⟨fs,b⟩ ⟨q1,q2,q3,q4⟩
  dsimp only at q1 q2 q3 q4 ⊢
  rcases Nat.lt_or_ge fs.length m with hlt | hge
  · have w2 : IntKind.i64.wrap ((fs.length : Int) + 1) = ((fs.length + 1 : Nat) : Int) := i64_wrap _ (by omega) (by omega)
    obtain ⟨_,a3,⟨d1,d2,f,hf,rfl⟩,V⟩:=(g_AFault (L:=L) (a:=b) n hn (posN_le hp (by omega) (by omega))).app (h:=h) (l:=[.row (some 2) (fs.map Flt.pv) 0]) hid
    have C:=fun h K=>s_CloneIP (h:=h) (K:=K) (f.nets.map eI) (by have:=hf.1; simp; omega)
    rw [List.length_map] at C
    have hmx : fs.length + 1 ≤ maxSl:=by unfold maxSl; omega
    have hwf : win (f.nets.map eI) 0 f.nets.length = f.nets.map eI:=win_full (by simp)
    have hz : PV.shp (some 2) (.agg [.int .i64 0,.sl none []]) = true:=rfl
    have hz2 : PV.shp (some 2) (.agg [eI f.kind,.sl none (f.nets.map eI)]) = true:=rfl
    simp only [Flt.pv] at V
    simp only [go_sem,hid,hid',hlt,V,C,escOf,hmx,hwf,hz,hz2,w2,frzB]
    rw [trunc_out (by simp)]
    simp only [go_sem,hid']
    refine ⟨(fs ++ [f],a3),by simp [Flt.pv],⟨by simp; omega,fun g hg=>?_,by dsimp only; omega,by simp; omega⟩,by simp; omega⟩
    rcases List.mem_append.1 hg with hg | hg
    · exact q2 g hg
    · rw [List.mem_singleton.1 hg]; exact hf
  · have hge' : ¬ fs.length < m := by omega
    simp only [go_sem,hid,hid',hge']
    exact ⟨b,⟨by omega,by omega,fs,by omega,q2,by rw [win_full (by simp)]⟩,rfl⟩
end Go.Am
end
section
/- Faults detected,asv the program computes it. -/
open Go
set_option linter.all false
namespace Go.Am
variable {h : Heap} {K : Post}
theorem s_EqualS (l m : List (List UInt8)) (hl : l.length ≤ 1000000000) : ACall X f_q032 [AStr l,AStr m] h K = K (AB (decide (l = m))) h []:=by
  refine rule ?_
  rw [c_q032 rfl]
  by_cases hlen : l.length = m.length
  · simp only [d_q032, go_sem, hlen]
    refine N_loop (fun k : Nat=>⟨[(0,AStr l),(1,AStr m),(12,AI m.length),(13,AI k)],h,[]⟩) (fun k=>k ≤ m.length ∧ l.take k = m.take k) (fun k=>m.length - k) 0 rfl (by simp) ?_
    rintro k ⟨hk,hp⟩
    rcases Nat.lt_or_ge k m.length with hlt | hge
    · have hg1 := map_get PV.str (show k < l.length by omega)
      have hg2:=map_get PV.str hlt
      have w2 : IntKind.i64.wrap ((k : Int) + 1) = ((k + 1 : Nat) : Int):=i64_wrap _ (by omega) (by omega)
      by_cases he : l[k] = m[k]
      · simp only [go_sem, hlt, hg1, hg2, w2, he]
        exact ⟨k + 1,rfl,⟨by omega,by rw [List.take_succ_eq_append_getElem (by omega),List.take_succ_eq_append_getElem hlt,hp,he]⟩,by omega⟩
      · simp only [go_sem, hlt, hg1, hg2, w2, he]
        have : ¬ l = m:=fun h=>he (by simp only [h])
        simp [this]
    · have e1 : k = m.length := by omega
      have e2 : l = m:=by rw [← List.take_length (l:=l),← List.take_length (l:=m),hlen,← e1,hp]
      subst e1
      simp only [go_sem,Nat.lt_irrefl]
      simp [e2]
  · have e1 : ((l.length : Int) = m.length) = False := by simp only [eq_iff_iff, iff_false]; omega
    simp only [d_q032,go_sem,e1]
    have : ¬ l = m:=fun h=>hlen (by rw [h])
    simp [this]
theorem s_respond (r : List Nat) (f : Flt) (lg : Nat) (hl : lg ≤ 64) (hf : NetsIn f.nets r.length) (hr : r.length ≤ 1000000) (hb : ∀ x ∈ r,x < 18446744073709551616) :
    ACall X f_q014 [.p (.sl none (r.map eU)),.p f.pv,AI lg] h K = K (.p (.sl none ((fwithN r f (2 ^ lg - 1)).map eU))) h []:=by
  refine rule ?_
  rw [c_q014 rfl]
  have C:=fun h K=>s_CloneUP (h:=h) (K:=K) (r.map eU) (by simpa using hr)
  rw [List.length_map] at C
  have wh:=fun h K=>s_whole (h:=h) (K:=K) lg hl
  have W:=fun (K : Post)=>s_with (h:=h ++ [.box [AI f.kind,AL f.nets],.row none (r.map eU) 0]) (K:=K) f r hf (id:=h.length + 1) (by rw [app_get]; rfl) hr hb (2 ^ lg - 1)
  have hw : win ((fwithN r f (2 ^ lg - 1)).map eU) 0 r.length = (fwithN r f (2 ^ lg - 1)).map eU:=win_full (by rw [List.length_map,fwithN_len])
  have hl2 : ((fwithN r f (2 ^ lg - 1)).map eU).length = r.length:=by rw [List.length_map,fwithN_len]
  have hl3 : (fwithN r f (2 ^ lg - 1)).length = r.length:=fwithN_len _ _ _
  simp only [Flt.pv] at W
  simp only [d_q014,Flt.pv,go_sem,C,wh,W,hw,hl3]
theorem s_detected (r : List Nat) (f : Flt) (lg : Nat) (hl : lg ≤ 64) (hf : NetsIn f.nets r.length) (hr : r.length ≤ 1000000) (hb : ∀ x ∈ r,x < 2 ^ lg) :
    ACall X f_q011 [.p (.sl none (r.map eU)),.p f.pv,AI lg] h K = K (.p (eU (detN lg r f))) h []:=by
  refine rule ?_
  rw [c_q011 rfl]
  have l64:=le64 hl
  have R:=fun h K=>s_respond (h:=h) (K:=K) r f lg hl hf hr (fun x hx=>Nat.lt_of_lt_of_le (hb x hx) l64)
  have hl3 : (fwithN r f (2 ^ lg - 1)).length = r.length:=fwithN_len _ _ _
  have hb2:=fwithN_lt (f:=f) hb (ones_lt lg)
  simp only [Flt.pv] at R
  simp only [d_q011,Flt.pv,go_sem,R,hl3]
  unfold detN
  generalize fwithN r f (2 ^ lg - 1) = r2 at *
  refine N_loop (fun k : Nat=>⟨[(0,.p (.sl none (r.map eU))),(7,.p (eU (dtK r2 r k))),(13,.p (.sl none (r2.map eU))),(14,AI r.length),(15,AI k)],h ++ [.box [AI f.kind,AL f.nets]],[]⟩) (fun k=>k ≤ r.length) (fun k=>r.length - k) 0 rfl (by omega) ?_
  intro k hk
  rcases Nat.lt_or_ge k r.length with hlt | hge
  · have g1 := map_get eU hlt
    have g2:=map_get eU (show k < r2.length by omega)
    have w2 : IntKind.i64.wrap ((k : Int) + 1) = ((k + 1 : Nat) : Int):=i64_wrap _ (by omega) (by omega)
    have b1:=Nat.lt_of_lt_of_le (hb _ (List.getElem_mem hlt)) l64
    have b2:=Nat.lt_of_lt_of_le (hb2 _ (List.getElem_mem (show k < r2.length by omega))) l64
    have b3:=Nat.lt_of_lt_of_le (dtK_lt hb2 hb k) l64
    have e1:=ixor_nat b2 b1
    have e2:=ior_nat b3 (b:=r2[k] ^^^ r[k]) (by rw [← pow64] at *; exact Nat.xor_lt_two_pow b2 b1)
    have e3 : dtK r2 r (k + 1) = dtK r2 r k ||| (r2[k] ^^^ r[k]):=by
      rw [dtK]; simp [List.getD_eq_getElem?_getD,List.getElem?_eq_getElem hlt,List.getElem?_eq_getElem (show k < r2.length by omega)]
    simp only [go_sem,hlt,g1,g2,e1,e2,w2]
    exact ⟨k + 1,by rw [e3],by omega,by omega⟩
  · have ek : k = r.length := by omega
    subst ek
    simp only [go_sem,Nat.lt_irrefl]
theorem s_detectedOwn (r : List Nat) (f : Flt) (lg : Nat) (hl : lg ≤ 64) (hf : NetsIn f.nets r.length) (hr : r.length ≤ 1000000) (hb : ∀ x ∈ r,x < 2 ^ lg) {id : Nat} (hh : h[id]? = some (.row none (r.map eU) 0)) :
    ACall X f_q011 [.own id r.length 0 r.length,.p f.pv,AI lg] h K = K (.p (eU (detN lg r f))) (frz h id r.length) []:=by
  have e:=arg_pur (X:=X) (f:=f_q011) (F:=a_q011) (a:=[.own id r.length 0 r.length,.p f.pv,AI lg]) (vs:=[.sl none (r.map eU),f.pv,.int .i64 lg]) (h:=h) (h1:=frz h id r.length) (P:=K) x_q011 rfl
    (by
      have : win (r.map eU) 0 r.length = r.map eU:=win_full (by simp)
      simp [puras,pur,rd,hh,this]) rfl rfl frz_len
  rw [e]
  exact s_detected r f lg hl hf hr hb
def detT (t : List (List UInt8)) (f : Flt) : Nat:=detN (t.headD []).length (t.map rowN) f
theorem s_ctz (n : Nat) (hn : n < 18446744073709551616) : ACall X f_q01r [.p (eU n)] h K = K (AI (ctzN n : Nat)) h []:=by
  refine lib_call (X:=X) (by kernel_rfl) ?_
  rw [X_ex2]
  exact libF_pure (vs:=[eU n]) (by kernel_rfl) (s:=ctzS) (by kernel_rfl) rfl (by simp only [ctzS]; rw [if_pos ⟨by omega,by omega⟩]; rfl)
theorem allF_one {t : List (List UInt8)} {f : Flt} (h : allF t [f] = 0) : testF t = 0 ∧ fltF t.length f = 0:=by
  have hT : testF t = 0:=by unfold allF at h; split at h <;> simp_all
  refine ⟨hT,?_⟩
  unfold allF at h
  rw [if_neg (by simp [hT])] at h
  exact fltsF_ok h f (by simp)
theorem s_Detects (t : List (List UInt8)) (f : Flt) (hb : ∀ s ∈ t,s.length ≤ 1000000) (ht : t.length ≤ 1000000) (hf : f.nets.length ≤ 1000000) :
    ACall X f_q00y [AStr t,.p f.pv] h K = K (if allF t [f] ≠ 0 then .tup [AB false,AI (allF t [f])] else .tup [AB (!decide (detT t f = 0)),AI 0]) h []:=by
  refine rule ?_
  rw [c_q00y rfl]
  have c:=fun h K=>s_faultsFault (h:=h) (K:=K) t [f] hb ht (fun g hg=>by rw [List.mem_singleton.1 hg]; exact hf) (by simp)
  simp only [AFlt,List.map_cons,List.map_nil,Flt.pv] at c
  by_cases h1 : allF t [f] = 0
  case neg=>simp only [d_q00y,Flt.pv,go_sem,c,h1]
  obtain ⟨hT,hF⟩:=allF_one h1
  have T:=testF_ok hT
  unfold detT
  obtain ⟨lg,hlg⟩ : ∃ n,(t.headD []).length = n:=⟨_,rfl⟩
  rw [hlg] at T ⊢
  have R:=fun h K=>s_rows (h:=h) (K:=K) t T.b (fun s hs=>by rw [T.e s hs]; exact T.l) (by have:=T.n1; omega)
  have r0:=rows_lt T
  have hz:=head_str T.n0
  have D:=fun (K : Post)=>s_detectedOwn (h:=h ++ [.box [AI f.kind,AL f.nets],.row none ((t.map rowN).map eU) 0]) (K:=K) (t.map rowN) f lg T.l (by rw [List.length_map]; exact fltF_in hF) (by have:=T.n1; simp; omega) r0 (id:=h.length + 1) (by rw [app_get]; rfl)
  rw [List.length_map] at D
  simp only [Flt.pv] at D
  have e0 : ((detN lg (t.map rowN) f : Nat) : Int) = 0 ↔ detN lg (t.map rowN) f = 0:=by omega
  simp only [d_q00y,Flt.pv,go_sem,c,h1,R,hz,hlg,D,e0]
theorem s_First (t : List (List UInt8)) (f : Flt) (hb : ∀ s ∈ t,s.length ≤ 1000000) (ht : t.length ≤ 1000000) (hf : f.nets.length ≤ 1000000) :
    ACall X f_q00z [AStr t,.p f.pv] h K = K (if allF t [f] ≠ 0 then .tup [AI 0,AB false,AI (allF t [f])] else if detT t f = 0 then .tup [AI 0,AB false,AI 0] else .tup [AI (ctzN (detT t f) : Nat),AB true,AI 0]) h []:=by
  refine rule ?_
  rw [c_q00z rfl]
  have c:=fun h K=>s_faultsFault (h:=h) (K:=K) t [f] hb ht (fun g hg=>by rw [List.mem_singleton.1 hg]; exact hf) (by simp)
  simp only [AFlt,List.map_cons,List.map_nil,Flt.pv] at c
  by_cases h1 : allF t [f] = 0
  case neg=>simp only [d_q00z,Flt.pv,go_sem,c,h1]
  obtain ⟨hT,hF⟩:=allF_one h1
  have T:=testF_ok hT
  unfold detT
  obtain ⟨lg,hlg⟩ : ∃ n,(t.headD []).length = n:=⟨_,rfl⟩
  rw [hlg] at T ⊢
  have R:=fun h K=>s_rows (h:=h) (K:=K) t T.b (fun s hs=>by rw [T.e s hs]; exact T.l) (by have:=T.n1; omega)
  have r0:=rows_lt T
  have hz:=head_str T.n0
  have D:=fun (K : Post)=>s_detectedOwn (h:=h ++ [.box [AI f.kind,AL f.nets],.row none ((t.map rowN).map eU) 0]) (K:=K) (t.map rowN) f lg T.l (by rw [List.length_map]; exact fltF_in hF) (by have:=T.n1; simp; omega) r0 (id:=h.length + 1) (by rw [app_get]; rfl)
  rw [List.length_map] at D
  simp only [Flt.pv] at D
  have hd:=Nat.lt_of_lt_of_le (detN_lt (f:=f) r0) (le64 T.l)
  have Z:=fun h K=>s_ctz (h:=h) (K:=K) (detN lg (t.map rowN) f) hd
  by_cases h0 : detN lg (t.map rowN) f = 0
  · have e0 : ((detN lg (t.map rowN) f : Nat) : Int) = 0 := by omega
    simp only [d_q00z,Flt.pv,go_sem,c,h1,R,hz,hlg,D,e0,h0]
  · have e0 : ¬ ((detN lg (t.map rowN) f : Nat) : Int) = 0 := by omega
    simp only [d_q00z,Flt.pv,go_sem,c,h1,R,hz,hlg,D,e0,h0,Z]
end Go.Am
end
section
/- The shortest way between two states of a test access port: a search over a queue. -/
open Go
set_option linter.all false
namespace Go.Am
variable {h : Heap} {K : Post}
attribute [-go_sem] oLook oMupd oMentry oMrange
end Go.Am
end
section
/- ready: a closed call,computed. -/
open Go
set_option linter.all false
namespace Go.Am
end Go.Am
end
section
/- What all laws of the keep package use. -/
open Go
set_option linter.all false
namespace Go.Am
variable {h : Heap} {K : Post}
end Go.Am
end
section
/- ShortsAreAlike returns true. -/
open Go
set_option linter.all false
namespace Go.Am
variable {h : Heap} {K : Post}
theorem combT_eq {t : List (List UInt8)} {lg : Nat} {f : Flt} (e : (t.headD []).length = lg) (hf : NetsIn f.nets t.length) : combT t [f] = (List.range t.length).map fun i=>textN lg (resp (t.map rowN) (2 ^ lg - 1) f i):=by
  unfold combT
  rw [e]
  apply List.ext_getElem?
  intro i
  rw [List.getElem?_map,List.getElem?_map]
  show Option.map (textN lg) (fwithN (t.map rowN) f (2 ^ lg - 1))[i]? = _
  unfold fwithN
  rw [setNs_get _ _ _ _ (fun n hn=>(hf.2.2 n hn).1),List.length_map]
  by_cases hi : i < t.length
  · rw [List.getElem?_range hi, Option.map_some]
    unfold resp
    by_cases hm : (i : Int) ∈ f.nets
    · rw [if_pos ⟨hm,hi⟩,if_pos hm]; rfl
    · rw [if_neg (fun q=>hm q.1),if_neg hm,List.getElem?_eq_getElem (by simpa using hi),List.getD_eq_getElem?_getD,List.getElem?_eq_getElem (by simpa using hi)]; rfl
  · rw [if_neg (fun q=>hi q.2),List.getElem?_eq_none (by simpa using hi),List.getElem?_eq_none (by simpa using hi)]; rfl
end Go.Am
end
section
/- FaultsAreOnes returns true. -/
open Go
set_option linter.all false
namespace Go.Am
variable {h : Heap} {K : Post}
theorem rows_text {t : List (List UInt8)} {lg : Nat} (T : TestOk t lg) : (t.map rowN).map (textN lg) = t:=by
  rw [List.map_map]
  conv=>rhs; rw [← List.map_id t]
  apply List.map_congr_left
  intro s hs
  show textN lg (rowN s) = s
  rw [← T.e s hs]
  exact textN_row (T.b s hs)
end Go.Am
end
section
/- Responses,the reference's way. -/
open Go
set_option linter.all false
namespace Go.Am
variable {h : Heap} {K : Post}
theorem rowAt_t {t : List (List UInt8)} {n : Int} (h0 : 0 ≤ n) (h1 : n < t.length) : rowAt (t.map rowN) n = rowN (t[n.toNat]'(by omega)):=by
  unfold rowAt; simp [List.getD_eq_getElem?_getD,List.getElem?_eq_getElem (show n.toNat < t.length by omega)]
theorem s_seenBit (t : List (List UInt8)) (f : Flt) (lg : Nat) (T : TestOk t lg) (hf : fltF t.length f = 0) (n v : Nat) (hn : n < t.length) (hv : v < lg) :
    ACall X f_q02n [AStr t,.p f.pv,AI n,AI v] h K = K (.p (.int .u8 (bitC ((resp (t.map rowN) (2 ^ lg - 1) f n).testBit v)).toNat)) h []:=by
  refine rule ?_
  rw [c_q02n rfl]
  have ok:=fltF_ok hf
  have hni:=fltF_in hf
  have CO:=fun h K=>s_ContainsI (h:=h) (K:=K) f.nets n (by have:=ok.2.1; omega)
  have gt:=map_get PV.str hn
  have te:=T.e _ (List.getElem_mem hn)
  have tb:=T.b _ (List.getElem_mem hn)
  unfold resp
  cases hc : f.nets.contains (n : Int) with
  | false=>
    have hc' : ¬ (n : Int) ∈ f.nets:=fun hm=>by rw [List.contains_iff_mem.2 hm] at hc; cases hc
    have hr : (t.map rowN).getD n 0 = rowN t[n]:=by simp [List.getD_eq_getElem?_getD,List.getElem?_eq_getElem hn]
    have gc:=row_char (v:=v) tb (by omega)
    rw [if_neg hc',hr]
    simp only [d_q02n,Flt.pv,go_sem,CO,hc,gt,gc]
  | true=>
    have hc' : (n : Int) ∈ f.nets:=List.contains_iff_mem.1 hc
    rw [if_pos hc',seenV_val hni.1 ⟨ok.2.2.2.1,ok.2.2.2.2.1⟩ hv]
    have h0 : 0 < f.nets.length:=List.length_pos_iff.2 hni.1
    simp only [d_q02n,Flt.pv,go_sem,CO,hc]
    refine N_loop (fun k : Nat=>⟨[(0,AStr t),(3,AI v),(5,.ref h.length 0),(9,AI (onesN (t.map rowN) v (f.nets.take k) : Nat)),(25,AL f.nets),(26,AI f.nets.length),(27,AI k)],h ++ [.box [AI f.kind,AL f.nets]],[]⟩) (fun k=>k ≤ f.nets.length) (fun k=>f.nets.length - k) 0 rfl (by omega) ?_
    intro k hk
    have hon : onesN (t.map rowN) v (f.nets.take k) ≤ k:=Nat.le_trans List.countP_le_length (by simp; omega)
    rcases Nat.lt_or_ge k f.nets.length with hlt | hge
    · have hg := map_get eI hlt
      have hnk:=hni.2.2 _ (List.getElem_mem hlt)
      have e5:=natOf_int (k:=.i64) hnk.1
      have hlt4 : (f.nets[k]).toNat < t.length:=by omega
      have g2:=map_get PV.str hlt4
      have hra:=rowAt_t hnk.1 hnk.2
      have gc:=row_char (v:=v) (T.b _ (List.getElem_mem hlt4)) (by rw [T.e _ (List.getElem_mem hlt4)]; exact hv)
      have hon2:=onesN_take (r:=t.map rowN) (v:=v) hlt
      rw [hra] at hon2
      have w2 : IntKind.i64.wrap ((k : Int) + 1) = ((k + 1 : Nat) : Int):=i64_wrap _ (by have:=ok.2.1; omega) (by have:=ok.2.1; omega)
      have e1 : ∀ b : Bool,IntKind.u8.wrap (((bitC b).toNat : Int) - 48) = ((if b = true then 1 else 0 : Nat) : Int):=fun b=>by cases b <;> rfl
      have e2 : ∀ b : Bool,IntKind.i64.wrap ((if b = true then 1 else 0 : Nat) : Int) = ((if b = true then 1 else 0 : Nat) : Int):=fun b=>by cases b <;> rfl
      generalize f.nets[k] = m at *
      generalize (rowN t[m.toNat]).testBit v = b at *
      have e3 : IntKind.i64.wrap ((onesN (t.map rowN) v (f.nets.take k) : Nat) + ((if b = true then 1 else 0 : Nat) : Int)) = ((onesN (t.map rowN) v (f.nets.take (k + 1)) : Nat) : Int):=by
        rw [hon2,i64_wrap _ (by split <;> omega) (by have:=ok.2.1; split <;> omega)]
        exact (Int.natCast_add _ _).symm
      simp only [go_sem,hlt,hg,e5,g2,gc,e1,e2,e3,w2]
      exact ⟨k + 1,rfl,by omega,by omega⟩
    · have ek : k = f.nets.length := by omega
      subst ek
      rw [List.take_length] at hon ⊢
      have g0:=head_get h0
      have hhd:=hni.2.2 _ (head_mem hni.1)
      have e5:=natOf_int (k:=.i64) hhd.1
      have hlt4 : (f.nets.headD 0).toNat < t.length:=by omega
      have g2:=map_get PV.str hlt4
      have hra:=rowAt_t hhd.1 hhd.2
      have gc:=row_char (v:=v) (T.b _ (List.getElem_mem hlt4)) (by rw [T.e _ (List.getElem_mem hlt4)]; exact hv)
      have ei : ((onesN (t.map rowN) v f.nets : Nat) : Int) = (f.nets.length : Int) ↔ onesN (t.map rowN) v f.nets = f.nets.length:=by omega
      have ep : (0 : Int) < ((onesN (t.map rowN) v f.nets : Nat) : Int) ↔ 0 < onesN (t.map rowN) v f.nets:=by omega
      unfold seenV
      by_cases k2 : f.kind = 2
      · simp only [go_sem, Nat.lt_irrefl, k2]
        rfl
      by_cases k6 : f.kind = 6
      · simp only [go_sem, Nat.lt_irrefl, k6]
        rfl
      by_cases k3 : f.kind = 3
      · by_cases hq : onesN (t.map rowN) v f.nets = f.nets.length
        · simp only [go_sem, Nat.lt_irrefl, k3, ei, hq]
          rfl
        · simp only [go_sem, Nat.lt_irrefl, k3, ei, hq]
          rfl
      by_cases k4 : f.kind = 4
      · by_cases hq : 0 < onesN (t.map rowN) v f.nets
        · simp only [go_sem, Nat.lt_irrefl, k4, ep, hq]
          rfl
        · simp only [go_sem, Nat.lt_irrefl, k4, ep, hq]
          rfl
      by_cases k5 : f.kind = 5
      · simp only [go_sem, Nat.lt_irrefl, k5, g0, e5, g2, gc, hra]
        rfl
      · simp only [go_sem, Nat.lt_irrefl, k2, k3, k4, k5, k6]
        rfl
end Go.Am
end
section
/- Responses of tests,the reference's way. -/
open Go
set_option linter.all false
namespace Go.Am
variable {h : Heap} {K : Post}
def respT (t : List (List UInt8)) (f : Flt) (lg n : Nat) : List UInt8:=textN lg (resp (t.map rowN) (2 ^ lg - 1) f n)
theorem range_snoc {α : Type} (g : Nat → α) (k : Nat) : (List.range (k + 1)).map g = (List.range k).map g ++ [g k]:=by rw [List.range_succ,List.map_append]; rfl
theorem s_ResponseOf (t : List (List UInt8)) (f : Flt) (lg : Nat) (T : TestOk t lg) (hlg : (t.headD []).length = lg) (hf : fltF t.length f = 0) :
    ACall X f_q02i [AStr t,.p f.pv] h K = K (AStr (combT t [f])) h []:=by
  refine rule ?_
  rw [c_q02i rfl]
  have hce:=combT_eq hlg (fltF_in hf)
  have hce' : combT t [f] = (List.range t.length).map (respT t f lg):=hce
  rw [hce']
  have hn:=T.n1
  have hl:=T.l
  simp only [d_q02i,Flt.pv,go_sem]
  refine N_loop (fun k : Nat=>⟨[(0,AStr t),(3,.ref h.length 0),(5,.own (h.length + 1) k 0 k),(10,AI t.length),(11,AI k)],h ++ [.box [AI f.kind,AL f.nets],.row none (((List.range k).map (respT t f lg)).map PV.str) 0],[]⟩) (fun k=>k ≤ t.length) (fun k=>t.length - k) 0 rfl (by omega) ?_
  intro k hk
  have hkl : (((List.range k).map (respT t f lg)).map PV.str).length = k:=by simp
  have hsn:=range_snoc (respT t f lg) k
  rcases Nat.lt_or_ge k t.length with hlt | hge
  · have gt := map_get PV.str hlt
    have te:=T.e _ (List.getElem_mem hlt)
    have w2 : IntKind.i64.wrap ((k : Int) + 1) = ((k + 1 : Nat) : Int):=i64_wrap _ (by omega) (by omega)
    generalize (List.range k).map (respT t f lg) = R at *
    have hmk : k + 1 ≤ maxSl:=by unfold maxSl; omega
    simp only [go_sem,hlt,gt,te]
    refine N_loop (fun v : Nat=>⟨[(0,AStr t),(3,.ref h.length 0),(5,.own (h.length + 1) k 0 k),(6,AI k),(7,.own (h.length + 2) v 0 v),(10,AI t.length),(11,AI k),(18,AI lg),(19,AI v)],h ++ [.box [AI f.kind,AL f.nets],.row none (R.map PV.str) 0,.row none (bytesP (textN v (resp (t.map rowN) (2 ^ lg - 1) f k))) 0],[]⟩) (fun v=>v ≤ lg) (fun v=>lg - v) 0 rfl (by omega) ?_
    intro v hv
    have hbl : (bytesP (textN v (resp (t.map rowN) (2 ^ lg - 1) f k))).length = v:=by simp [bytesP,textN]
    rcases Nat.lt_or_ge v lg with hlt2 | hge2
    · have S := fun h K => s_seenBit (h := h) (K := K) t f lg T hf k v hlt hlt2
      simp only [Flt.pv] at S
      have w3 : IntKind.i64.wrap ((v : Int) + 1) = ((v + 1 : Nat) : Int):=i64_wrap _ (by omega) (by omega)
      have hmv : v + 1 ≤ maxSl:=by unfold maxSl; omega
      have ets:=textN_take_succ v lg (resp (t.map rowN) (2 ^ lg - 1) f k)
      have hps : PV.shp none (.int .u8 0) = true:=rfl
      simp only [go_sem,hlt2,S,w3,hmv,hbl,hps]
      refine ⟨v + 1,?_,by omega,by omega⟩
      rw [ets]; simp [bytesP]
    · have ev : v = lg := by omega
      subst ev
      have hwf : win (bytesP (textN v (resp (t.map rowN) (2 ^ v - 1) f k))) 0 v = bytesP (textN v (resp (t.map rowN) (2 ^ v - 1) f k)):=win_full (by omega)
      have tb:=toB_map (textN v (resp (t.map rowN) (2 ^ v - 1) f k))
      simp only [go_sem,Nat.lt_irrefl,rd,rds,hbl,hwf,tb,aconv,hmk,hkl,w2]
      refine ⟨k + 1,?_,by omega,by omega⟩
      rw [hsn]
      simp [respT]
  · have ek : k = t.length := by omega
    subst ek
    simp only [go_sem,Nat.lt_irrefl]
    rw [win_full (by simp)]
theorem comb_rows {t : List (List UInt8)} {l : List Flt} {lg : Nat} (T : TestOk t lg) (e : (t.headD []).length = lg) : (combT t l).map rowN = foldN lg (t.map rowN) l:=by
  unfold combT
  rw [e,List.map_map]
  conv=>rhs; rw [← List.map_id (foldN lg (t.map rowN) l)]
  apply List.map_congr_left
  intro x hx
  exact rowN_text (foldN_lt l _ (rows_lt T) x hx)
theorem comb_ok {t : List (List UInt8)} {l : List Flt} {lg : Nat} (T : TestOk t lg) (e : (t.headD []).length = lg) : TestOk (combT t l) lg ∧ ((combT t l).headD []).length = lg ∧ (combT t l).length = t.length:=by
  have hl : (combT t l).length = t.length:=by unfold combT; rw [List.length_map,foldN_len,List.length_map]
  have hb : ∀ s ∈ combT t l,bitsB s = true ∧ s.length = lg:=by
    intro s hs
    unfold combT at hs
    rw [e] at hs
    obtain ⟨x,_,rfl⟩:=List.mem_map.1 hs
    exact ⟨textN_bits _ _,textN_len _ _⟩
  refine ⟨⟨by rw [hl]; exact T.n0,by rw [hl]; exact T.n1,T.l,fun s hs=>(hb s hs).1,fun s hs=>(hb s hs).2⟩,?_,hl⟩
  have h0 : 0 < (combT t l).length:=by rw [hl]; exact T.n0
  cases hq : combT t l with
  | nil=>rw [hq] at h0; cases h0
  | cons a r=>exact (hb a (by rw [hq]; simp)).2
theorem comb_step {t : List (List UInt8)} {l : List Flt} {lg : Nat} (T : TestOk t lg) (e : (t.headD []).length = lg) {k : Nat} (hk : k < l.length) : combT (combT t (l.take k)) [l[k]] = combT t (l.take (k + 1)):=by
  obtain ⟨_,e2,_⟩:=comb_ok (l:=l.take k) T e
  have hr:=comb_rows (l:=l.take k) T e
  unfold combT at hr e2 ⊢
  rw [e] at hr e2 ⊢
  rw [e2,hr,foldN_take hk]
  rfl
theorem comb_nil {t : List (List UInt8)} {lg : Nat} (T : TestOk t lg) (e : (t.headD []).length = lg) : combT t [] = t:=by
  unfold combT; rw [e]; exact rows_text T
theorem s_RespOfOwn (t : List (List UInt8)) (f : Flt) (lg : Nat) (T : TestOk t lg) (hlg : (t.headD []).length = lg) (hf : fltF t.length f = 0) {id : Nat} (hh : h[id]? = some (.row none (t.map PV.str) 0)) :
    ACall X f_q02i [.own id t.length 0 t.length,.p f.pv] h K = K (AStr (combT t [f])) (frz h id t.length) []:=by
  have e:=arg_pur (X:=X) (f:=f_q02i) (F:=a_q02i) (a:=[.own id t.length 0 t.length,.p f.pv]) (vs:=[.sl none (t.map PV.str),f.pv]) (h:=h) (h1:=frz h id t.length) (P:=K) x_q02i rfl
    (by
      have : win (t.map PV.str) 0 t.length = t.map PV.str:=win_full (by simp)
      simp [puras,pur,rd,hh,this]) rfl rfl frz_len
  rw [e]
  exact s_ResponseOf t f lg T hlg hf
theorem s_CombinedOf (t : List (List UInt8)) (l : List Flt) (lg : Nat) (T : TestOk t lg) (hlg : (t.headD []).length = lg) (hf : ∀ f ∈ l,fltF t.length f = 0) (hn : l.length ≤ 1000000) :
    ACall X f_q02d [AStr t,AFlt l] h K = K (AStr (combT t l)) h []:=by
  refine rule ?_
  rw [c_q02d rfl]
  have C:=fun h K=>s_CloneSP (h:=h) (K:=K) (t.map PV.str) (by have:=T.n1; simp; omega)
  rw [List.length_map] at C
  simp only [d_q02d,go_sem,C]
  refine N_loop (fun k : Nat=>match k with
      | 0=>⟨[(5,.own h.length t.length 0 t.length),(10,AFlt l),(11,AI l.length),(12,AI 0)],h ++ [.row none (t.map PV.str) 0],[]⟩
      | k + 1=>⟨[(5,AStr (combT t (l.take (k + 1)))),(10,AFlt l),(11,AI l.length),(12,AI ((k + 1 : Nat) : Int))],h ++ [.row none (t.map PV.str) t.length],[]⟩) (fun k=>k ≤ l.length) (fun k=>l.length - k) 0 rfl (by omega) ?_
  intro k hk
  cases k with
  | zero=>
    rcases Nat.lt_or_ge 0 l.length with hlt | hge
    · have hg := map_get Flt.pv hlt
      have hlt0 : (0 : Int) < (l.length : Int):=by omega
      have cx:=flt_cut (f:=l[0])
      have R:=fun (g : Heap) (K : Post)=>s_RespOfOwn (h:=h ++ .row none (t.map PV.str) 0 :: g) (K:=K) t l[0] lg T hlg (hf _ (List.getElem_mem hlt)) (id:=h.length) (by rw [app_get0]; rfl)
      have hst : combT t [l[0]] = combT t (l.take 1):=by
        have:=comb_step (l:=l) T hlg hlt
        rw [List.take_zero,comb_nil T hlg] at this
        exact this
      rw [hst] at R
      simp only [Flt.pv] at hg cx R
      have fz : ∀ g : Heap,frz (.row none (t.map PV.str) 0 :: g) 0 t.length = .row none (t.map PV.str) t.length :: g:=fun g=>by simp [frz]
      simp only [go_sem,hlt0,hg,cx,R,fz,show IntKind.i64.wrap 1 = 1 from rfl]
      exact ⟨1,rfl,by omega,by omega⟩
    · have e0 : l = [] := List.length_eq_zero_iff.1 (by omega)
      subst e0
      simp only [go_sem,List.length_nil,Int.lt_irrefl,comb_nil T hlg,List.length_map]
      rw [win_full (by simp)]
  | succ k=>
    rcases Nat.lt_or_ge (k + 1) l.length with hlt | hge
    · have hg := map_get Flt.pv hlt
      have w2 : IntKind.i64.wrap (((k + 1 : Nat) : Int) + 1) = ((k + 1 + 1 : Nat) : Int):=i64_wrap _ (by omega) (by omega)
      have cx:=flt_cut (f:=l[k + 1])
      obtain ⟨T2,e2,l2⟩:=comb_ok (l:=l.take (k + 1)) T hlg
      have R:=fun h K=>s_ResponseOf (h:=h) (K:=K) (combT t (l.take (k + 1))) l[k + 1] lg T2 e2 (by rw [l2]; exact hf _ (List.getElem_mem hlt))
      rw [comb_step T hlg hlt] at R
      simp only [Flt.pv] at hg cx R
      simp only [go_sem,hlt,hg,cx,R,w2]
      exact ⟨k + 1 + 1,rfl,by omega,by omega⟩
    · have ek : ¬ k + 1 < l.length := by omega
      have et : l.take (k + 1) = l:=List.take_of_length_le (by omega)
      simp only [go_sem,ek,et]
theorem respT_bit {t : List (List UInt8)} {f : Flt} {lg n : Nat} (v : Nat) (hv : v < lg) : (respT t f lg n)[v]? = some (bitC ((resp (t.map rowN) (2 ^ lg - 1) f n).testBit v)):=textN_get hv
theorem bitC_inj {a b : Bool} : ((bitC a).toNat : Int) = ((bitC b).toNat : Int) ↔ a = b:=by cases a <;> cases b <;> simp [bitC]
theorem det_bit {t : List (List UInt8)} {f : Flt} {lg : Nat} (e : (t.headD []).length = lg) (hf : NetsIn f.nets t.length) (v : Nat) : (detT t f).testBit v = true ↔ ∃ n,n < t.length ∧ (resp (t.map rowN) (2 ^ lg - 1) f n).testBit v ≠ (rowN (t.getD n [])).testBit v:=by
  unfold detT detN
  rw [e,dtK_bit,List.length_map]
  have hq : ∀ n,n < t.length → (fwithN (t.map rowN) f (2 ^ lg - 1)).getD n 0 = resp (t.map rowN) (2 ^ lg - 1) f n:=by
    intro k hk
    unfold fwithN resp
    rw [List.getD_eq_getElem?_getD,setNs_get _ _ _ _ (fun n hn=>(hf.2.2 n hn).1),List.length_map]
    by_cases hm : (k : Int) ∈ f.nets
    · rw [if_pos ⟨hm,hk⟩,if_pos hm]; rfl
    · rw [if_neg (fun q=>hm q.1),if_neg hm,List.getD_eq_getElem?_getD]
  have hr : ∀ n,n < t.length → (t.map rowN).getD n 0 = rowN (t.getD n []):=fun n hn=>by simp [List.getD_eq_getElem?_getD,List.getElem?_eq_getElem hn]
  constructor
  · rintro ⟨n,h1,h2⟩; exact ⟨n,h1,by rw [← hq n h1,← hr n h1]; exact h2⟩
  · rintro ⟨n,h1,h2⟩; exact ⟨n,h1,by rw [hq n h1,hr n h1]; exact h2⟩
def caughtL (t : List (List UInt8)) (f : Flt) (lg : Nat) : List Int:=(caughtN lg (detT t f)).map fun (n : Nat)=>(n : Int)
theorem caughtN_succ (k d : Nat) : caughtN (k + 1) d = caughtN k d ++ if d.testBit k = true then [k] else []:=by
  unfold caughtN
  rw [List.range_succ,List.filter_append]
  cases hq : d.testBit k <;> simp [hq]
theorem s_caught (t : List (List UInt8)) (f : Flt) (lg : Nat) (T : TestOk t lg) (hlg : (t.headD []).length = lg) (hf : fltF t.length f = 0) :
    ACall X f_q02k [AStr t,.p f.pv] h K = K (AL (caughtL t f lg)) h []:=by
  refine rule ?_
  rw [c_q02k rfl]
  have R:=fun h K=>s_ResponseOf (h:=h) (K:=K) t f lg T hlg hf
  have hce' : combT t [f] = (List.range t.length).map (respT t f lg):=combT_eq hlg (fltF_in hf)
  rw [hce'] at R
  have hn:=T.n1
  have hl:=T.l
  have hz:=head_str T.n0
  have hdb:=det_bit (lg:=lg) hlg (fltF_in hf)
  simp only [Flt.pv] at R
  simp only [d_q02k,Flt.pv,go_sem,R,hz,hlg]
  have rg : ∀ i,i < t.length → (((List.range t.length).map (respT t f lg)).map PV.str)[i]? = some (.str (respT t f lg i)):=fun i hi=>by
    rw [List.getElem?_map,List.getElem?_map,List.getElem?_range hi]; rfl
  unfold caughtL
  generalize detT t f = d at *
  refine N_loop (fun v : Nat=>⟨[(0,AStr t),(5,AStr ((List.range t.length).map (respT t f lg))),(6,.own (h.length + 1) (caughtN v d).length 0 (caughtN v d).length),(15,AI lg),(16,AI v)],h ++ [.box [AI f.kind,AL f.nets],.row none (((caughtN v d).map fun (n : Nat)=>(n : Int)).map eI) 0],[]⟩) (fun v=>v ≤ lg) (fun v=>lg - v) 0 rfl (by omega) ?_
  intro v hv
  have hcl : (caughtN v d).length ≤ v:=Nat.le_trans (List.length_filter_le _ _) (by simp)
  have hsc:=caughtN_succ v d
  rcases Nat.lt_or_ge v lg with hlt | hge
  · have w2 : IntKind.i64.wrap ((v : Int) + 1) = ((v + 1 : Nat) : Int) := i64_wrap _ (by omega) (by omega)
    generalize hC : caughtN v d = C at *
    have hmx : C.length + 1 ≤ maxSl:=by unfold maxSl; omega
    simp only [go_sem,hlt]
    refine N_loop (fun n : Nat=>⟨[(0,AStr t),(5,AStr ((List.range t.length).map (respT t f lg))),(6,.own (h.length + 1) C.length 0 C.length),(7,AI v),(15,AI lg),(16,AI v),(20,AI t.length),(21,AI n)],h ++ [.box [AI f.kind,AL f.nets],.row none ((C.map fun (n : Nat)=>(n : Int)).map eI) 0],[]⟩)
      (fun n=>n ≤ t.length ∧ ∀ i,i < n → (resp (t.map rowN) (2 ^ lg - 1) f i).testBit v = (rowN (t.getD i [])).testBit v) (fun n=>t.length - n) 0 rfl ⟨by omega,fun i hi=>by omega⟩ ?_
    rintro n ⟨hn1,hn2⟩
    rcases Nat.lt_or_ge n t.length with hlt2 | hge2
    · have w3 : IntKind.i64.wrap ((n : Int) + 1) = ((n + 1 : Nat) : Int) := i64_wrap _ (by omega) (by omega)
      have gr:=rg n hlt2
      have gb:=respT_bit (t:=t) (f:=f) (n:=n) v hlt
      have gt:=map_get PV.str hlt2
      have gc:=row_char (v:=v) (T.b _ (List.getElem_mem hlt2)) (by rw [T.e _ (List.getElem_mem hlt2)]; exact hlt)
      have hgd : t.getD n [] = t[n]:=by simp [List.getD_eq_getElem?_getD,List.getElem?_eq_getElem hlt2]
      by_cases hq : (resp (t.map rowN) (2 ^ lg - 1) f n).testBit v = (rowN t[n]).testBit v
      · simp only [go_sem, hlt2, gr, gb, gt, gc, bitC_inj, hq, w3]
        refine ⟨n + 1,rfl,⟨by omega,fun i hi=>?_⟩,by omega⟩
        by_cases hin : i = n
        · subst hin; rw [hgd]; exact hq
        · exact hn2 i (by omega)
      · have hdt : d.testBit v = true := (hdb v).2 ⟨n, hlt2, by rw [hgd]; exact hq⟩
        rw [if_pos hdt] at hsc
        simp only [go_sem,hlt2,gr,gb,gt,gc,bitC_inj,hq,hmx,w2]
        refine ⟨v + 1,?_,by omega,by omega⟩
        rw [hsc]; simp
    · have en : n = t.length := by omega
      subst en
      have hdt : ¬ d.testBit v = true:=fun hd=>by
        obtain ⟨i,h1,h2⟩:=(hdb v).1 hd
        exact h2 (hn2 i h1)
      rw [if_neg hdt,List.append_nil] at hsc
      simp only [go_sem,Nat.lt_irrefl,w2]
      exact ⟨v + 1,by rw [hsc],by omega,by omega⟩
  · have ev : v = lg := by omega
    subst ev
    simp only [go_sem,Nat.lt_irrefl]
    rw [win_full (by simp)]
theorem s_FirstOf (t : List (List UInt8)) (f : Flt) (lg : Nat) (T : TestOk t lg) (hlg : (t.headD []).length = lg) (hf : fltF t.length f = 0) :
    ACall X f_q02h [AStr t,.p f.pv] h K = K (if detT t f = 0 then .tup [AI 0,AB false] else .tup [AI (ctzN (detT t f) : Nat),AB true]) h []:=by
  refine rule ?_
  rw [c_q02h rfl]
  have C:=fun h K=>s_caught (h:=h) (K:=K) t f lg T hlg hf
  have hd : detT t f < 2 ^ lg:=by unfold detT; rw [hlg]; exact detN_lt (rows_lt T)
  have hh:=caught_head hd T.l
  have hnl:=caught_nil hd T.l
  have hcl : (caughtN lg (detT t f)).length ≤ lg:=Nat.le_trans (List.length_filter_le _ _) (by simp)
  simp only [Flt.pv] at C
  unfold caughtL at C
  by_cases h0 : detT t f = 0
  · rw [if_pos h0]
    have hz : caughtN lg (detT t f) = []:=List.length_eq_zero_iff.1 (hnl.2 h0)
    rw [hz] at C
    simp only [List.map_nil] at C
    simp only [d_q02h,Flt.pv,go_sem,C,List.length_nil]
  · rw [if_neg h0]
    rw [if_neg h0] at hh
    have hne : ¬ (((caughtN lg (detT t f)).length : Int) = 0):=fun e=>h0 (hnl.1 (by omega))
    have g0 : (((caughtN lg (detT t f)).map fun (n : Nat)=>(n : Int)).map eI)[0]? = some (eI (ctzN (detT t f) : Nat)):=by
      cases hq : caughtN lg (detT t f) with
      | nil=>rw [hq] at hh; cases hh
      | cons a r=>rw [hq] at hh; simp at hh; simp [hh]
    simp only [d_q02h,Flt.pv,go_sem,C,List.length_map,hne,g0]
end Go.Am
end
section
/- FaultsRespond returns true. -/
open Go
set_option linter.all false
namespace Go.Am
variable {h : Heap} {K : Post}
theorem comb_faulted : combV [[48,49]] [⟨2,[0]⟩] = .tup [AStr [[49,49]],AI 0]:=by kernel_rfl
theorem s_faulted : ACall X f_q01y [] h K = K (AB true) h []:=by
  refine rule ?_
  rw [c_q01y rfl]
  have R:=fun h K=>s_Response (h:=h) (K:=K) [[48,49]] ⟨2,[0]⟩ (by simp) (by simp) (by simp)
  rw [comb_faulted] at R
  simp only [AStr,Flt.pv,List.map_cons,List.map_nil] at R
  simp only [d_q01y,go_sem,R]
theorem fltsF_take {n : Int} : ∀ (l : List Flt) (k : Nat) (hk : k < l.length),fltsF n (l.take (k + 1)) = if fltsF n (l.take k) = 0 then fltF n l[k] else fltsF n (l.take k)
  | [],k,hk=>by simp at hk
  | f :: l,0,hk=>by
    simp only [List.take_zero,List.take_succ_cons,fltsF,List.getElem_cons_zero,if_true]
    split
    · rfl
    · rename_i h; exact (Decidable.not_not.1 h).symm
  | f :: l,k + 1,hk=>by
    simp only [List.take_succ_cons,fltsF,List.getElem_cons_succ]
    by_cases h : fltF n f = 0
    · have h1 : ¬ (fltF n f ≠ 0) := by simp [h]
      rw [if_neg h1,if_neg h1]
      exact fltsF_take l k (by simpa using hk)
    · rw [if_pos h,if_pos h,if_neg h]
def allK (t : List (List UInt8)) (l : List Flt) (k : Nat) : Int:=if testF t ≠ 0 then testF t else fltsF t.length (l.take k)
theorem allK_end (t : List (List UInt8)) (l : List Flt) : allK t l l.length = allF t l:=by unfold allK allF; rw [List.take_length]
theorem allK_zero (t : List (List UInt8)) (l : List Flt) : allK t l 0 = testF t:=by
  unfold allK; rw [List.take_zero]
  split
  · rfl
  · rename_i h; simp only [ne_eq,Decidable.not_not] at h; rw [h]; rfl
theorem allK_succ (t : List (List UInt8)) (l : List Flt) (k : Nat) (hk : k < l.length) : allK t l (k + 1) = if allK t l k = 0 then fltF t.length l[k] else allK t l k:=by
  unfold allK
  by_cases h : testF t = 0
  · have h1 : ¬ (testF t ≠ 0) := by simp [h]
    rw [if_neg h1,if_neg h1]
    exact fltsF_take l k hk
  · rw [if_pos h,if_pos h,if_neg h]
theorem allF_parts {t : List (List UInt8)} {l : List Flt} (h : allF t l = 0) : testF t = 0 ∧ ∀ f ∈ l,fltF t.length f = 0:=by
  have hT : testF t = 0:=by unfold allF at h; split at h <;> simp_all
  refine ⟨hT,?_⟩
  unfold allF at h
  rw [if_neg (by simp [hT])] at h
  exact fltsF_ok h
set_option maxHeartbeats 8000000 in
theorem law_FR (L : List Int) {K : Post} : ACall X f_q01x [AL L] [] K = K (AB true) [] []:=by
  refine rule ?_
  rw [c_q01x rfl]
  have p0 : posN 200 0:=by unfold posN; omega
  obtain ⟨_,a2,⟨c1,c2,t,ts,rfl⟩,V⟩:=(g_ATest (L:=L) (a:=0) p0).hd (l:=[])
  have p1 : posN 0 a2:=by unfold posN; omega
  have hp2 : posN 3000 (a2 + 1):=by unfold posN; omega
  obtain ⟨_,a3,⟨d1,d2,f,sf,rfl⟩,V2⟩:=(g_AFault (L:=L) (a:=a2 + 1) t.length (by have:=ts.1; omega) hp2).hd (l:=[])
  have hp3 : posN 4000 a3:=by unfold posN; omega
  obtain ⟨_,a4,⟨e1,e2,x,xl,xs,rfl⟩,V3⟩:=(g_FaultList (L:=L) (a:=a3) t.length (by have:=ts.1; omega) hp3).hd (l:=[])
  have hb : ∀ s ∈ t,s.length ≤ 1000000:=fun s hs=>by have:=ts.2 s hs; omega
  have ht : t.length ≤ 1000000:=by have:=ts.1; omega
  have hfl : f.nets.length ≤ 1000000:=by have:=sf.1; omega
  have hxl : ∀ g ∈ x,g.nets.length ≤ 1000000:=fun g hg=>by have:=(xs g hg).1; omega
  have hxn : x.length ≤ 20000:=by omega
  have pm:=pickV_mem (l:=[(t.length : Int),t.length,t.length,3,0,100,101]) (L:=L) (a:=a2) (by simp) (by simp)
  obtain ⟨nets,hnets⟩ : ∃ n,pickV [(t.length : Int),t.length,t.length,3,0,100,101] L a2 = n:=⟨_,rfl⟩
  rw [hnets] at pm
  have hnb : 0 ≤ nets:=by simp only [List.mem_cons,List.not_mem_nil,or_false] at pm; omega
  -- both sides of each question
  obtain ⟨one,hone⟩ : ∃ e,allF t [f] = e:=⟨_,rfl⟩
  obtain ⟨two,htwo⟩ : ∃ e,allF t x = e:=⟨_,rfl⟩
  obtain ⟨lg,hlg⟩ : ∃ n,(t.headD []).length = n:=⟨_,rfl⟩
  obtain ⟨r1,RS,RQ⟩ : ∃ r1,(∀ (h : Heap) (K : Post),ACall X f_q010 [AStr t,.p (.agg [eI f.kind,.sl none (f.nets.map eI)])] h K = K (.tup [AStr r1,AI one]) h []) ∧ (r1.length ≤ 1000 ∧ if one = 0 then ∀ (h : Heap) (K : Post),ACall X f_q02i [AStr t,.p (.agg [eI f.kind,.sl none (f.nets.map eI)])] h K = K (AStr r1) h [] else r1 = []):=by
    have R:=fun h K=>s_Response (h:=h) (K:=K) t f hb ht hfl
    unfold combV at R
    rw [hone] at R
    by_cases h0 : one = 0
    · obtain ⟨q1, q2⟩ := allF_parts (hone.trans h0)
      have T:=testF_ok q1
      rw [hlg] at T
      rw [if_neg (by simp [h0])] at R
      refine ⟨combT t [f],by rw [h0]; exact R,?_⟩
      rw [if_pos h0]
      exact ⟨by rw [(comb_ok T hlg).2.2]; have:=ts.1; omega,fun h K=>s_ResponseOf t f lg T hlg (q2 f (by simp))⟩
    · rw [if_pos h0] at R
      exact ⟨[],R,by rw [if_neg h0]; exact ⟨by simp,rfl⟩⟩
  obtain ⟨r2,CS,CQ⟩ : ∃ r2,(∀ (h : Heap) (K : Post),ACall X f_q00x [AStr t,AFlt x] h K = K (.tup [AStr r2,AI two]) h []) ∧ (r2.length ≤ 1000 ∧ if two = 0 then ∀ (h : Heap) (K : Post),ACall X f_q02d [AStr t,AFlt x] h K = K (AStr r2) h [] else r2 = []):=by
    have R:=fun h K=>s_Combined (h:=h) (K:=K) t x hb ht hxl (by omega)
    unfold combV at R
    rw [htwo] at R
    by_cases h0 : two = 0
    · obtain ⟨q1, q2⟩ := allF_parts (htwo.trans h0)
      have T:=testF_ok q1
      rw [hlg] at T
      rw [if_neg (by simp [h0])] at R
      refine ⟨combT t x,by rw [h0]; exact R,?_⟩
      rw [if_pos h0]
      exact ⟨by rw [(comb_ok T hlg).2.2]; have:=ts.1; omega,fun h K=>s_CombinedOf t x lg T hlg q2 (by omega)⟩
    · rw [if_pos h0] at R
      exact ⟨[],R,by rw [if_neg h0]; exact ⟨by simp,rfl⟩⟩
  obtain ⟨rn,ro,DT,FI,FQ⟩ : ∃ (rn : Int) (ro : Bool),(∀ (h : Heap) (K : Post),ACall X f_q00y [AStr t,.p (.agg [eI f.kind,.sl none (f.nets.map eI)])] h K = K (.tup [AB ro,AI one]) h []) ∧ (∀ (h : Heap) (K : Post),ACall X f_q00z [AStr t,.p (.agg [eI f.kind,.sl none (f.nets.map eI)])] h K = K (.tup [AI rn,AB ro,AI one]) h []) ∧
      (if one = 0 then ∀ (h : Heap) (K : Post),ACall X f_q02h [AStr t,.p (.agg [eI f.kind,.sl none (f.nets.map eI)])] h K = K (.tup [AI rn,AB ro]) h [] else rn = 0 ∧ ro = false):=by
    have D:=fun h K=>s_Detects (h:=h) (K:=K) t f hb ht hfl
    have F:=fun h K=>s_First (h:=h) (K:=K) t f hb ht hfl
    rw [hone] at D F
    by_cases h0 : one = 0
    · obtain ⟨q1, q2⟩ := allF_parts (hone.trans h0)
      have T:=testF_ok q1
      rw [hlg] at T
      have Q:=fun h K=>s_FirstOf (h:=h) (K:=K) t f lg T hlg (q2 f (by simp))
      rw [if_neg (by simp [h0])] at D F
      by_cases hd : detT t f = 0
      · simp only [hd, if_true, decide_true, Bool.not_true] at D F Q
        exact ⟨0,false,by rw [h0]; exact D,by rw [h0]; exact F,by rw [if_pos h0]; exact Q⟩
      · simp only [hd, if_false, decide_false, Bool.not_false] at D F Q
        exact ⟨_,true,by rw [h0]; exact D,by rw [h0]; exact F,by rw [if_pos h0]; exact Q⟩
    · rw [if_pos h0] at D F
      exact ⟨0,false,D,F,by rw [if_neg h0]; exact ⟨rfl,rfl⟩⟩
  have LF:=fun h K=>s_listFault (h:=h) (K:=K) t [f] hb ht (fun g hg=>by rw [List.mem_singleton.1 hg]; exact hfl) (by simp)
  have TF:=fun h K=>s_TestFault (h:=h) (K:=K) t hb ht
  have CT:=fun h K=>s_CheckTest (h:=h) (K:=K) t hb ht
  have CF:=fun h K=>s_CheckFault (h:=h) (K:=K) nets f (by omega) hfl
  have FF:=fun h K=>s_FaultFault (h:=h) (K:=K) nets f (by omega) hfl
  rw [hone] at LF
  simp only [AFlt,List.map_cons,List.map_nil,Flt.pv] at LF
  simp only [Flt.pv] at V2 CF FF
  have hz : PV.shp (some 2) (.agg [.int .i64 0,.sl none []]) = true:=rfl
  have hz2 : PV.shp (some 2) (.agg [eI f.kind,.sl none (f.nets.map eI)]) = true:=rfl
  simp only [d_q01x,go_sem,V,p1,hnets,V2,V3,RS,CS,DT,FI,LF,TF,hz,hz2]
  have E0 : ∀ (h : Heap) (K : Post),ACall X f_q032 [AStr [],.p (.sl none [])] h K = K (AB true) h []:=fun h K=>s_EqualS [] [] (by simp)
  have Eq1:=fun h K=>s_EqualS (h:=h) (K:=K) r1 r1 (by have:=RQ.1; omega)
  have Eq2:=fun h K=>s_EqualS (h:=h) (K:=K) r2 r2 (by have:=CQ.1; omega)
  refine N_loop (fun k : Nat=>⟨[(4,AStr t),(5,AI nets),(6,.ref 1 0),(7,AFlt x),(8,AStr r1),(9,AI one),(10,AStr r2),(11,AI two),(12,AB ro),(13,AI one),(14,AI rn),(15,AB ro),(16,AI one),(17,AI one),(18,AI (allK t x k)),(78,AFlt x),(79,AI x.length),(80,AI k)],[strm L a4,.box [AI f.kind,AL f.nets]],[]⟩) (fun k=>k ≤ x.length) (fun k=>x.length - k) 0 (by rw [allK_zero]; rfl) (by omega) ?_
  intro k hk
  rcases Nat.lt_or_ge k x.length with hlt | hge
  · have hg := map_get Flt.pv hlt
    have cx:=flt_cut (f:=x[k])
    have w2 : IntKind.i64.wrap ((k : Int) + 1) = ((k + 1 : Nat) : Int):=i64_wrap _ (by omega) (by omega)
    have F:=fun h K=>s_FaultFault (h:=h) (K:=K) (t.length : Int) x[k] (by omega) (hxl _ (List.getElem_mem hlt))
    have hs:=allK_succ t x k hlt
    simp only [Flt.pv] at hg cx F
    by_cases h0 : allK t x k = 0
    · rw [if_pos h0] at hs
      simp only [go_sem,hlt,hg,cx,h0,F,w2]
      exact ⟨k + 1,by rw [hs],by omega,by omega⟩
    · rw [if_neg h0] at hs
      simp only [go_sem,hlt,hg,cx,h0,w2]
      exact ⟨k + 1,by rw [hs],by omega,by omega⟩
  · have hge' : ¬ k < x.length := by omega
    have ek : k = x.length:=by omega
    have ea : allK t x k = two:=by rw [ek,allK_end,htwo]
    rw [ea]
    by_cases h1 : one = 0
    · have RQ2 := RQ.2
      rw [if_pos h1] at RQ2 FQ
      by_cases h2 : two = 0
      · have CQ2 := CQ.2
        rw [if_pos h2] at CQ2
        simp only [go_sem,hge',h1,h2,RQ2,FQ,CQ2,CT,TF,CF,FF,Eq1,Eq2,E0,s_faulted]
      · have CQ2 := CQ.2
        rw [if_neg h2] at CQ2
        subst CQ2
        simp only [go_sem,hge',h1,h2,RQ2,FQ,CT,TF,CF,FF,Eq1,Eq2,E0,s_faulted]
    · have RQ2 := RQ.2
      rw [if_neg h1] at RQ2 FQ
      obtain ⟨rfl,rfl⟩:=FQ
      subst RQ2
      by_cases h2 : two = 0
      · have CQ2 := CQ.2
        rw [if_pos h2] at CQ2
        simp only [go_sem,hge',h1,h2,CQ2,CT,TF,CF,FF,Eq1,Eq2,E0,s_faulted]
      · have CQ2 := CQ.2
        rw [if_neg h2] at CQ2
        subst CQ2
        simp only [go_sem,hge',h1,h2,CT,TF,CF,FF,Eq1,Eq2,E0,s_faulted]
end Go.Am
end
section
/- From a law that is true here to the model's calls at what came in. -/
open Go
namespace Go.Am
variable {P : Program}
theorem law_nil {X : Ctx} (HX : Fits P X) {f : Nat} {F : AFun} (hF : X.fn f = some F) (H : ∀ L : List Int,ACall X f [pints L] [] fun v _ _=>v = .p (.bool true)) (W : World) (hG : GInv X.gl (imm [] [] W)) :
    Calls P f #[.slice none 0 0] W fun e W'=>e = .returned (.bool true) ∧ RowKit.Below W.heap.size W W':=by
  refine (calls_of HX hF (H []) (W:=W) (vs:=[.slice none 0 0]) hG rfl (fun j y v hy hv=>?_)).mono fun e W' he=>?_
  · cases j with
    | zero=>cases hy; cases hv; exact came_nil W
    | succ j=>cases hy
  · cases e with
    | returned r=>
      obtain ⟨⟨v,h,x,μ,hk,hr⟩,hb⟩:=he
      subst hk
      exact ⟨by rw [hr.p_bool],hb⟩
    | panicked _=>exact he.elim
    | outgrown=>exact he.elim
theorem law_ints {X : Ctx} (HX : Fits P X) {f : Nat} {F : AFun} (hF : X.fn f = some F) (H : ∀ L : List Int,ACall X f [pints L] [] fun v _ _=>v = .p (.bool true)) {W : World} (hG : GInv X.gl (imm [] [] W)) {a : Addr} {len cap : Nat} {zs : List Int}
    (hl : len ≤ cap) (hz : len ≤ zs.length) (hc : ∀ i,i < zs.length → W.cell? (a.add i) = some (.int .i64 (zs.getD i 0))) :
    Calls P f #[.slice (some a) len cap] W fun e W'=>e = .returned (.bool true) ∧ RowKit.Below W.heap.size W W':=by
  refine (calls_of HX hF (H (zs.take len)) (W:=W) (vs:=[.slice (some a) len cap]) hG rfl (fun j y v hy hv=>?_)).mono fun e W' he=>?_
  · cases j with
    | zero=>
      cases hy; cases hv
      rcases Nat.eq_zero_or_pos len with h0 | h0
      · subst h0
        exact .p _ _ (.nils _ _ _)
      · exact came_ints (by simpa [Addr.add] using World.cell?_spot (hc 0 (by omega))) hl hz hc
    | succ j=>cases hy
  · cases e with
    | returned r=>
      obtain ⟨⟨v,h,x,μ,hk,hr⟩,hb⟩:=he
      subst hk
      exact ⟨by rw [hr.p_bool],hb⟩
    | panicked _=>exact he.elim
    | outgrown=>exact he.elim
end Go.Am
namespace Go.ChangeShapes
open Go.RowKit Go.WideShapes
section
variable {H : Type} {enc : TypeId × Value → H} {P : Program}
end
end Go.ChangeShapes
end
section
/- The abstract machine,part L2: the kit's contracts asv rows. -/
set_option linter.unusedSimpArgs false
set_option linter.unusedVariables false
namespace Go.Am
variable {P : Program} {gl : Nat → Option PV}
open Go.Shelf
theorem ginv_tab {W : World} {g : Nat} {name : String} {k : IntKind} {zs : List Int} {v : PV} (hn : P.globalNamed name = some g) (ht : Go.Lib.TabIs P W name k zs) (hv : v = .agg (zs.map (PV.int k))) : GInv (glOf [(g,v)]) (imm [] [] W):=by
  intro n v' hv'
  unfold glOf at hv'
  cases hq : Nat.beq n g with
  | false=>rw [hq] at hv'; cases hv'
  | true=>
    rw [hq] at hv'
    have e:=Nat.eq_of_beq_eq_true hq
    subst e
    simp only [cond_true,Option.some.injEq] at hv'
    subst hv'
    subst hv
    unfold Go.Lib.TabIs World.var? at ht
    rw [hn] at ht
    simp only [Option.bind_some] at ht
    cases hb : W.heap[n]? with
    | none=>rw [hb] at ht; cases ht
    | some o=>
      rw [hb] at ht
      cases o with
      | cells cs t x=>
        simp only [Option.some.injEq] at ht
        refine ⟨.vp _ n 0 (fun j=>(zs.map fun z=>Value.int k z).getD j undef) (fun j y hy=>?_) (fun j y hy=>?_),cs,t,x,imm0_blk hb,by rw [ht]; simp [PV.cells]⟩
        · have hj : j < zs.length := by have := lt_of_get hy; simpa [PV.cells] using this
          refine imm0_cell ?_
          simp [World.cell?,hb,ht,hj,List.getD_eq_getElem?_getD]
        · have hj : j < zs.length := by have := lt_of_get hy; simpa [PV.cells] using this
          have e1 : y = .int k zs[j]:=by simpa [PV.cells,hj] using hy.symm
          have e2 : (zs.map fun z=>Value.int k z).getD j undef = .int k zs[j]:=by simp [List.getD_eq_getElem?_getD,hj]
          rw [e1,e2]
          exact .int k _
      | _=>cases ht
end Go.Am
end
section
/- The abstract machine,part L4: strings.Repeat,strings.Trim,math/bits.TrailingZeros64 asv rows. -/
set_option linter.all false
namespace Go.Am
variable {P : Program} {gl : Nat → Option PV}
open Go.Shelf
theorem below_ext {w w' : World} (h : Go.RowKit.Below w.heap.size w w') : WExt w w':=⟨h.size,fun b hb=>h.block b hb,by unfold zed; rw [h.os,h.tape,h.output]⟩
theorem lib_rep (s : List UInt8) : ∀ c,Go.Lib.repeatL s c = repL s c
  | 0=>rfl
  | c + 1=>by rw [Go.Lib.repeatL,repL,lib_rep s c]
theorem repeatRow {ρ : Ren} (L : Go.Proofs.Lays.n105 P ρ) (E : Go.Proofs.Builder.Extra P ρ) (he : ∀ us w,(callFunc (ρ.f 105) us).run P w = .ok (.enter (ρ.f 105) us) w) : PureRow P gl (ρ.f 105) repeatS where
  enter:=he
  run M w vs r us hc hb hG hl hr hs:=by
    unfold repeatS at hs
    split at hs
    · rename_i s c
      split at hs
      · rename_i hbd
        match us,hl with
        | [u,v],_=>
          have q:=hr 0 _ u rfl rfl
          cases q
          have q2:=hr 1 _ v rfl rfl
          cases q2
          simp only [Option.some.injEq] at hs
          subst hs
          obtain ⟨n,rfl⟩:=Int.eq_ofNat_of_zero_le hbd.1
          have hsz : (⟨s.toArray⟩ : ByteArray).size = s.length:=by simp [ByteArray.size]
          simp only [Int.toNat_natCast] at hbd ⊢
          refine (Go.Proofs.Any.strings_Repeat L E ⟨s.toArray⟩ n w (by omega) (by rw [hsz]; omega)).mono fun e w' h=>?_
          obtain ⟨rfl,h⟩:=h
          exact ⟨_,rfl,below_ext h,by rw [lib_rep]; exact .p _ _ (.str _)⟩
      · cases hs
    · cases hs
theorem lib_trim (s cs : List UInt8) : Go.Lib.trimS s cs = trimL s cs:=rfl
theorem trimRow {ρ : Ren} (L : Go.Proofs.Lays.n160 P ρ) (h116 : (P.info? (ρ.t 116)).map (fun i=>(i.zero,i.size)) = some (some (.agg (Array.replicate 256 (.bool false))),256)) (he : ∀ us w,(callFunc (ρ.f 160) us).run P w = .ok (.enter (ρ.f 160) us) w) : PureRow P gl (ρ.f 160) trimS where
  enter:=he
  run M w vs r us hc hb hG hl hr hs:=by
    unfold trimS at hs
    split at hs
    · rename_i s cs
      split at hs
      · rename_i hbd
        match us,hl with
        | [u,v],_=>
          have q:=hr 0 _ u rfl rfl
          cases q
          have q2:=hr 1 _ v rfl rfl
          cases q2
          simp only [Option.some.injEq] at hs
          subst hs
          have hsz : ∀ l : List UInt8,(⟨l.toArray⟩ : ByteArray).size = l.length:=fun l=>by simp [ByteArray.size]
          refine (Go.Proofs.Any.strings_Trim_laid L h116 ⟨s.toArray⟩ ⟨cs.toArray⟩ w (by rw [hsz]; omega) (by rw [hsz]; omega) (Go.Proofs.ascii_of_all hbd.2.2)).mono fun e w' h=>?_
          obtain ⟨rfl,h⟩:=h
          exact ⟨_,rfl,below_ext h,by rw [← lib_trim]; exact .p _ _ (.str _)⟩
      · cases hs
    · cases hs
theorem lib_ctzF : ∀ f x,Go.Lib.ctzFrom f x = ctzF f x
  | 0,_=>rfl
  | f + 1,x=>by rw [Go.Lib.ctzFrom,ctzF,lib_ctzF f]
theorem lib_ctz (x : Nat) : Go.Lib.ctz 64 x = ctzN x:=by unfold Go.Lib.ctz ctzN; rw [lib_ctzF]
theorem bruijn_tab : bruijnL = Go.Lib.deBruijn64tab:=by decide
theorem ctzRow {ρ : Ren} (L : Go.Proofs.Lays7.n29 P ρ) (hg : gl (ρ.g 1) = some bruijnPV) (he : ∀ us w,(callFunc (ρ.f 29) us).run P w = .ok (.enter (ρ.f 29) us) w) : PureRow P gl (ρ.f 29) ctzS where
  enter:=he
  run M w vs r us hc hb hG hl hr hs:=by
    unfold ctzS at hs
    split at hs
    · rename_i n
      split at hs
      · rename_i hbd
        match us,hl with
        | [u],_=>
          have q:=hr 0 _ u rfl rfl
          cases q
          simp only [Option.some.injEq] at hs
          subst hs
          obtain ⟨n,rfl⟩:=Int.eq_ofNat_of_zero_le hbd.1
          have hT : Go.Proofs.TabAt (ρ.g 1) Go.Lib.deBruijn64tab w:=by
            rw [← bruijn_tab]
            intro j hj
            obtain ⟨h1,cs,t,x,h2,h3⟩:=hG _ _ hg
            cases h1 with
            | vp _ _ _ f hm hr=>
              have hy : bruijnPV.cells[j]? = some (.int .u8 (bruijnL.getD j 0 : Nat)):=by
                simp [bruijnPV,PV.cells,List.getD_eq_getElem?_getD,hj]
              have q1:=hc _ _ _ (hm j _ hy)
              have q2:=hr j _ hy
              generalize f j = z at *
              cases q2
              simpa using q1
          refine (Go.Proofs.Any7.bits_TrailingZeros64 L n (by omega) w (fun _=>hT)).mono fun e w' h=>?_
          obtain ⟨rfl,rfl⟩:=h
          exact ⟨_,rfl,WExt.refl _,by rw [lib_ctz]; simp only [Int.toNat_natCast]; exact .p _ _ (.int _ _)⟩
      · cases hs
    · cases hs
end Go.Am
end
