/- Texts of the proof, laid together: SpNum, SpNums, SpQNum, SpFlt1, SpFlt2, SpWords, SpJoin, SpBld, PBits, SpFlt3, SpFlt4, SpFlt5, SpArg, SpFlt6, SpFltT, SpEach, SpFltR, SpFltR2, SpFltR3, SpSortO, SpGenF. -/
import Derived.Test.YtanoolccohkfmaaGreatDoorlawFT7
set_option linter.all false
section
/- Numbers read. -/
open Go
set_option linter.all false
namespace Go.Am
variable {h : Heap} {K : Post}
theorem s_AtoiN {s : List UInt8} (h1 : noMin s ≠ []) (h2 : (noMin s).length ≤ 17) (h3 : (noMin s).all digB = true) : ACall X f_q07p [AS s] h K = K (.tup [AI (numV s),.nili]) h []:=by
  refine lib_call (X:=X) (by kernel_rfl) ?_
  rw [X_ex2]
  exact libF_pure (vs:=[.str s]) (by kernel_rfl) (s:=atoiS) rfl rfl (atoi_num h1 h2 h3)
theorem loop_Number {K' : Ex → St → Prop} (s d : List UInt8) (hd : d.length ≤ 1000000) (h1 : d.all digB = false → K' .ret ⟨[(4,AI 0),(5,AB false)],h,[]⟩)
    (h2 : d.all digB = true → K' (.exit 0) ⟨[(0,AS s),(6,AS d),(38,AI d.length),(39,AI d.length),(40,AB false)],h,[]⟩) :
    NLoop (ACall X) X.gl p_q008_k1 K' [(0,AS s),(6,AS d),(38,AI d.length),(39,AI 0)] h []:=by
  refine N_loop (fun k : Nat=>⟨[(0,AS s),(6,AS d),(38,AI d.length),(39,AI k)],h,[]⟩) (fun k=>k ≤ d.length ∧ (d.take k).all digB = true) (fun k=>d.length - k) 0 rfl ⟨by omega,by simp⟩ ?_
  rintro k ⟨hk,hp⟩
  rcases Nat.lt_or_ge k d.length with hlt | hge
  · have hlt' : (k : Int) < (d.length : Int) := by omega
    have hg : d[k]? = some d[k]:=List.getElem?_eq_getElem hlt
    have wk : IntKind.i64.wrap ((k : Int) + 1) = ((k + 1 : Nat) : Int):=i64_wrap _ (by omega) (by omega)
    have hnot : digB d[k] = false → d.all digB = false:=fun e=>by
      rw [← Bool.not_eq_true,List.all_eq_true]
      intro ha
      have:=ha d[k] (List.getElem_mem hlt)
      rw [e] at this
      cases this
    by_cases c1 : d[k].toNat < 48
    · have c1' : (d[k].toNat : Int) < 48 := by omega
      have:=h1 (hnot (by simp [digB]; omega))
      simp only [go_sem,hlt',hg,c1',this]
    · have c1' : ¬ (d[k].toNat : Int) < 48 := by omega
      by_cases c2 : 57 < d[k].toNat
      · have c2' : (57 : Int) < (d[k].toNat : Int) := by omega
        have:=h1 (hnot (by simp [digB]; omega))
        simp only [go_sem,hlt',hg,c1',c2',this]
      · have c2' : ¬ (57 : Int) < (d[k].toNat : Int) := by omega
        simp only [go_sem,hlt',hg,c1',c2',wk]
        refine ⟨k + 1,rfl,⟨by omega,?_⟩,by omega⟩
        rw [List.take_succ,hg,List.all_append,hp]
        simp [digB]
        omega
  · have hk' : k = d.length := by omega
    have hlt' : ¬ (k : Int) < (d.length : Int):=by omega
    have:=h2 (by rw [← hp,hk',List.take_length])
    subst hk'
    simp only [go_sem,Nat.lt_irrefl,decide_false,this]
attribute [-go_sem] e_q008_k2
theorem s_NumberB (s : List UInt8) (dg : Nat) (hd : dg ≤ 17) (hs : s.length ≤ 1000000) : ACall X f_q008 [AS s,AI dg] h K = K (.tup [AI (if numF dg s then numV s else 0),AB (numF dg s)]) h []:=by
  refine rule ?_
  rw [c_q008 rfl]
  have q:=fun h K=>s_TrimPrefix (h:=h) (K:=K) s [45] hs (by simp)
  have eq : (if s.take ([45] : List UInt8).length = [45] then s.drop ([45] : List UInt8).length else s) = noMin s:=rfl
  rw [eq] at q
  obtain ⟨d,hdd⟩ : ∃ d,noMin s = d:=⟨_,rfl⟩
  have hsl : d.length ≤ s.length:=by rw [← hdd]; unfold noMin; split <;> simp
  have nF : numF dg s = (!d.isEmpty && decide (d.length ≤ dg) && !(decide (d.head? = some 48) && (decide (1 < d.length) || decide (d.length < s.length))) && d.all digB):=by unfold numF; rw [hdd]
  rw [hdd] at q
  by_cases h0 : d = []
  · subst h0
    have e : numF dg s = false:=by rw [nF]; rfl
    simp only [d_q008,go_sem,↓q,q,e]
  by_cases h1 : dg < d.length
  · have h1' : (dg : Int) < (d.length : Int) := by omega
    have e : numF dg s = false:=by
      have a3 : decide (d.length ≤ dg) = false:=by simpa using h1
      rw [nF,a3]; simp
    simp only [d_q008,go_sem,↓q,q,e,h0,h1']
  have h1' : ¬ (dg : Int) < (d.length : Int):=by omega
  obtain ⟨c,r,rfl⟩ : ∃ c r,d = c :: r:=by cases d with | nil=>exact absurd rfl h0 | cons c r=>exact ⟨c,r,rfl⟩
  have h1n : ¬ dg < r.length + 1:=h1
  have h1i : ¬ (dg : Int) < ((r.length + 1 : Nat) : Int):=by omega
  have hl6 : (c :: r).length ≤ 1000000:=by omega
  have fin : ∀ (e : numF dg s = (c :: r).all digB) (hb : (c :: r).all digB = true) (h : Heap) (K : Post),ACall X f_q07p [AS s] h K = K (.tup [AI (numV s),.nili]) h []:=fun e hb h K=>s_AtoiN (by rw [hdd]; simp) (by rw [hdd]; omega) (by rw [hdd]; exact hb)
  by_cases hc : c = 48
  · have hc' : (c.toNat : Int) = 48 := by subst hc; rfl
    by_cases h3 : 1 < r.length + 1
    · have h3' : (1 : Int) < ((r.length + 1 : Nat) : Int) := by omega
      have e : numF dg s = false:=by
        have a1 : decide (1 < (c :: r).length) = true:=by simpa using h3
        have a4 : decide ((c :: r).head? = some 48) = true:=by simp [hc]
        rw [nF,a1,a4]; simp
      simp only [d_q008,go_sem,↓q,q,h0,h1',h1n,h1i,hc',h3',e]
    have h3' : ¬ (1 : Int) < ((r.length + 1 : Nat) : Int):=by omega
    by_cases h4 : r.length + 1 < s.length
    · have h4' : ((r.length + 1 : Nat) : Int) < (s.length : Int) := by omega
      have e : numF dg s = false:=by
        have a1 : decide ((c :: r).length < s.length) = true:=by simpa using h4
        have a4 : decide ((c :: r).head? = some 48) = true:=by simp [hc]
        rw [nF,a1,a4]; simp
      simp only [d_q008,go_sem,↓q,q,h0,h1',h1n,h1i,hc',h3',h4',e]
    have h4' : ¬ ((r.length + 1 : Nat) : Int) < (s.length : Int):=by omega
    have e : numF dg s = (c :: r).all digB:=by
      rw [nF]
      have a1 : decide (1 < (c :: r).length) = false:=by simpa using h3
      have a2 : decide ((c :: r).length < s.length) = false:=by simpa using h4
      have a3 : decide ((c :: r).length ≤ dg) = true:=by simpa using h1n
      rw [a1,a2,a3]
      simp
    simp only [d_q008,go_sem,↓q,q,h0,h1',h1n,h1i,hc',h3',h4']
    refine loop_Number s (c :: r) hl6 (fun hb=>?_) (fun hb=>?_)
    · rw [hb] at e
      simp only [go_sem,e]
    · have ea := fin e hb
      rw [hb] at e
      rw [blockN_same,seqN_normal,e_q008_k2]
      simp only [d_q008_k2,go_sem,↓ea,ea,e]
  · have hc' : ¬ (c.toNat : Int) = 48:=by
      intro q
      apply hc
      apply UInt8.toNat_inj.1
      exact Int.ofNat_inj.1 q
    have e : numF dg s = (c :: r).all digB:=by
      rw [nF]
      have a3 : decide ((c :: r).length ≤ dg) = true:=by simpa using h1n
      rw [a3]
      simp [hc]
    simp only [d_q008,go_sem,↓q,q,h0,h1',h1n,h1i,hc']
    refine loop_Number s (c :: r) hl6 (fun hb=>?_) (fun hb=>?_)
    · rw [hb] at e
      simp only [go_sem,e]
    · have ea := fin e hb
      rw [hb] at e
      rw [blockN_same,seqN_normal,e_q008_k2]
      simp only [d_q008_k2,go_sem,↓ea,ea,e]
end Go.Am
end
section
/- Several numbers read. -/
open Go
set_option linter.all false
namespace Go.Am
variable {h : Heap} {K : Post}
attribute [-go_sem] e_q009_k2
theorem s_NumbersB (ws : List (List UInt8)) (dg : Nat) (hd : dg ≤ 17) (hs : ∀ s ∈ ws,s.length ≤ 1000000) (hl : ws.length ≤ 1000000) : ACall X f_q009 [AStr ws,AI dg] h K = K (.tup [AL (if ws.all (numF dg) then ws.map numV else []),AB (ws.all (numF dg))]) h []:=by
  refine rule ?_
  rw [c_q009 rfl]
  simp only [d_q009,go_sem]
  refine N_loop (fun k : Nat=>⟨[(1,AI dg),(6,.own h.length k 0 k),(11,AStr ws),(12,AI ws.length),(13,AI k)],h ++ [.row none ((ws.take k).map fun s=>eI (numV s)) 0],[]⟩) (fun k=>k ≤ ws.length ∧ (ws.take k).all (numF dg) = true) (fun k=>ws.length - k) 0 (by simp) ⟨by omega,by simp⟩ ?_
  rintro k ⟨hk,hp⟩
  have hrl : ((ws.take k).map fun s=>eI (numV s)).length = k:=by simp; omega
  rcases Nat.lt_or_ge k ws.length with hlt | hge
  · have hlt' : (k : Int) < (ws.length : Int) := by omega
    have hg:=map_get PV.str hlt
    have cz : cutP none 0 (PV.str ws[k]) = some (PV.str ws[k]):=rfl
    have wk : IntKind.i64.wrap ((k : Int) + 1) = ((k + 1 : Nat) : Int):=i64_wrap _ (by omega) (by omega)
    have q:=fun h K=>s_NumberB (h:=h) (K:=K) ws[k] dg hd (hs _ (List.getElem_mem hlt))
    cases e : numF dg ws[k] with
    | false=>
      have ea : ws.all (numF dg) = false:=by
        rw [← Bool.not_eq_true,List.all_eq_true]
        intro ha
        have:=ha _ (List.getElem_mem hlt)
        rw [e] at this
        cases this
      rw [e] at q
      simp only [go_sem,hlt',hlt,hg,cz,↓q,q,ea]
      rfl
    | true=>
      rw [e] at q
      have hm : k + 1 ≤ maxSl:=by unfold maxSl; omega
      simp only [go_sem,hlt',hlt,hg,cz,↓q,q,hrl,hm,wk]
      refine ⟨k + 1,?_,⟨by omega,?_⟩,by omega⟩
      · rw [List.take_succ, List.getElem?_eq_getElem hlt, List.map_append]
        rfl
      · rw [List.take_succ, List.getElem?_eq_getElem hlt, List.all_append, hp]
        simp [e]
  · have hk' : k = ws.length := by omega
    subst hk'
    rw [List.take_length] at hp hrl
    rw [List.take_length]
    have hlt' : ¬ (ws.length : Int) < (ws.length : Int):=by omega
    simp only [go_sem,Nat.lt_irrefl,decide_false,hrl,hp]
    rw [e_q009_k2]
    simp only [d_q009_k2,go_sem,hrl]
    rw [show win (ws.map fun s=>eI (numV s)) 0 ws.length = (ws.map numV).map eI from by unfold win; rw [List.drop_zero,List.take_of_length_le (by simp),List.map_map]; rfl]
end Go.Am
end
section
/- Numbers read,the reference's way. -/
open Go
set_option linter.all false
namespace Go.Am
variable {h : Heap} {K : Post}
set_option maxRecDepth 100000 in
theorem dig_contains (c : UInt8) : ([48,49,50,51,52,53,54,55,56,57] : List UInt8).contains c = digB c:=by
  have : ∀ n : Fin 256,([48,49,50,51,52,53,54,55,56,57] : List UInt8).contains (UInt8.ofNat n.val) = digB (UInt8.ofNat n.val):=by decide
  simpa using this ⟨c.toNat,c.toNat_lt⟩
theorem s_ItoaQ (n : Int) (h1 : -1000000000000000000 ≤ n) (h2 : n ≤ 1000000000000000000) : ACall X f_q07q [AI n] h K = K (AS (itoa n)) h []:=by
  refine lib_call (X:=X) (by kernel_rfl) ?_
  rw [X_ex2]
  exact libF_pure (vs:=[.int .i64 n]) (by kernel_rfl) (s:=itoaS) (by kernel_rfl) rfl (by
    unfold itoaS
    have a1 : decide (-9223372036854775808 ≤ n) = true:=by simp; omega
    have a2 : decide (n ≤ 9223372036854775807) = true:=by simp; omega
    show (bif decide (-9223372036854775808 ≤ n) && decide (n ≤ 9223372036854775807) then some (AV.p (PV.str (itoa n))) else none) = _
    rw [a1,a2]
    rfl)
theorem digN_bd : ∀ (d : List UInt8) (acc n k : Nat),acc < 10 ^ k → digN acc d = some n → n < 10 ^ (k + d.length)
  | [],acc,n,k,ha,h=>by simp only [digN,Option.some.injEq] at h; subst h; simpa using ha
  | c :: r,acc,n,k,ha,h=>by
    unfold digN at h
    split at h
    · rename_i hc
      have:=digN_bd r (acc * 10 + (c.toNat - 48)) n (k + 1) (by rw [Nat.pow_succ]; omega) h
      rw [List.length_cons,show k + (r.length + 1) = k + 1 + r.length by omega]
      exact this
    · cases h
theorem numV_bd {s : List UInt8} (h2 : (noMin s).length ≤ 17) (h : (noMin s).all digB = true) : -1000000000000000000 ≤ numV s ∧ numV s ≤ 1000000000000000000:=by
  obtain ⟨n,hn⟩:=digN_all (noMin s) 0 h
  have b:=digN_bd _ 0 n 0 (by simp) hn
  have h18 : 10 ^ (0 + (noMin s).length) ≤ 10 ^ 17:=Nat.pow_le_pow_right (by omega) (by omega)
  have e17 : (10 : Nat) ^ 17 = 100000000000000000:=rfl
  unfold numV
  rw [hn]
  simp only [Option.getD_some]
  split <;> omega
theorem s_NumberQ (s : List UInt8) (dg : Nat) (hd : dg ≤ 17) (hs : s.length ≤ 1000000) : ACall X f_q04l [AS s,AI dg] h K = K (.tup [AI (numR dg s),AB (numF dg s)]) h []:=by
  refine rule ?_
  rw [c_q04l rfl]
  have q:=fun h K=>s_TrimPrefix (h:=h) (K:=K) s [45] hs (by simp)
  have eq : (if s.take ([45] : List UInt8).length = [45] then s.drop ([45] : List UInt8).length else s) = noMin s:=rfl
  rw [eq] at q
  have hsl : (noMin s).length ≤ s.length:=by unfold noMin; split <;> simp
  have qo:=fun h K=>s_only (h:=h) (K:=K) (noMin s) [48,49,50,51,52,53,54,55,56,57] (by omega)
  have eo : ((noMin s).all fun c=>([48,49,50,51,52,53,54,55,56,57] : List UInt8).contains c) = (noMin s).all digB:=by congr 1; funext c; exact dig_contains c
  rw [eo] at qo
  by_cases h0 : noMin s = []
  · have e : numF dg s = false := by unfold numF; rw [h0]; rfl
    have e2 : numR dg s = 0:=by unfold numR; rw [if_neg (fun z=>z.1 h0)]
    rw [h0] at q
    simp only [d_q04l,go_sem,↓q,q,e,e2]
  by_cases h1 : dg < (noMin s).length
  · have h1' : (dg : Int) < ((noMin s).length : Int) := by omega
    have e : numF dg s = false:=by
      have a3 : decide ((noMin s).length ≤ dg) = false:=by simpa using h1
      unfold numF; rw [a3]; simp
    have e2 : numR dg s = 0:=by unfold numR; rw [if_neg (fun z=>by omega)]
    simp only [d_q04l,go_sem,↓q,q,e,e2,h0,h1',h1]
  have h1' : ¬ (dg : Int) < ((noMin s).length : Int):=by omega
  cases ha : (noMin s).all digB with
  | false=>
    have e : numF dg s = false:=by unfold numF; rw [ha]; simp
    have e2 : numR dg s = 0:=by unfold numR; rw [if_neg (fun z=>by rw [ha] at z; exact absurd z.2.2 (by simp))]
    rw [ha] at qo
    simp only [d_q04l,go_sem,↓q,q,↓qo,qo,e,e2,h0,h1',h1]
  | true=>
    have e2 : numR dg s = numV s:=by unfold numR; rw [if_pos ⟨h0,by omega,ha⟩]
    have bd:=numV_bd (s:=s) (by omega) ha
    have qa:=fun h K=>s_AtoiN (h:=h) (K:=K) (s:=s) h0 (by omega) ha
    have qi:=fun h K=>s_ItoaQ (h:=h) (K:=K) (numV s) bd.1 bd.2
    have e : numF dg s = decide (itoa (numV s) = s):=by
      rw [itoa_num h0 ha]
      unfold numF
      have a3 : decide ((noMin s).length ≤ dg) = true:=by simpa using h1
      have a4 : (noMin s).isEmpty = false:=by cases hq : noMin s with | nil=>exact absurd hq h0 | cons _ _=>rfl
      rw [a3,a4,ha]
      simp
    rw [ha] at qo
    simp only [d_q04l,go_sem,↓q,q,↓qo,qo,↓qa,qa,↓qi,qi,e,e2,h0,h1',h1]
attribute [-go_sem] e_q04n_k2
theorem s_NumbersInQ (ws : List (List UInt8)) (dg : Nat) (hd : dg ≤ 17) (hs : ∀ s ∈ ws,s.length ≤ 1000000) (hl : ws.length ≤ 1000000) : ACall X f_q04n [AStr ws,AI dg] h K = K (.tup [AL (ws.map (numR dg)),AB (ws.all (numF dg))]) h []:=by
  refine rule ?_
  rw [c_q04n rfl]
  simp only [d_q04n,go_sem]
  refine N_loop (fun k : Nat=>⟨[(1,AI dg),(6,.own h.length k 0 k),(7,AB ((ws.take k).all (numF dg))),(12,AStr ws),(13,AI ws.length),(14,AI k)],h ++ [.row none ((ws.take k).map fun s=>eI (numR dg s)) 0],[]⟩) (fun k=>k ≤ ws.length) (fun k=>ws.length - k) 0 (by simp) (by omega) ?_
  intro k hk
  have hrl : ((ws.take k).map fun s=>eI (numR dg s)).length = k:=by simp; omega
  rcases Nat.lt_or_ge k ws.length with hlt | hge
  · have hlt' : (k : Int) < (ws.length : Int) := by omega
    have hg:=map_get PV.str hlt
    have cz : cutP none 0 (PV.str ws[k]) = some (PV.str ws[k]):=rfl
    have wk : IntKind.i64.wrap ((k : Int) + 1) = ((k + 1 : Nat) : Int):=i64_wrap _ (by omega) (by omega)
    have q:=fun h K=>s_NumberQ (h:=h) (K:=K) ws[k] dg hd (hs _ (List.getElem_mem hlt))
    have hm : k + 1 ≤ maxSl:=by unfold maxSl; omega
    have et : ws.take (k + 1) = ws.take k ++ [ws[k]]:=by rw [List.take_succ,List.getElem?_eq_getElem hlt]; rfl
    have ea : (ws.take (k + 1)).all (numF dg) = ((ws.take k).all (numF dg) && numF dg ws[k]):=by rw [et,List.all_append]; simp
    cases e : (ws.take k).all (numF dg) with
    | false=>
      rw [e,Bool.false_and] at ea
      simp only [go_sem,hlt',hlt,hg,cz,↓q,q,hrl,hm,wk,e]
      refine ⟨k + 1,?_,by omega,by omega⟩
      rw [ea,et,List.map_append]
      rfl
    | true=>
      rw [e,Bool.true_and] at ea
      simp only [go_sem,hlt',hlt,hg,cz,↓q,q,hrl,hm,wk,e]
      refine ⟨k + 1,?_,by omega,by omega⟩
      rw [ea,et,List.map_append]
      rfl
  · have hk' : k = ws.length := by omega
    subst hk'
    rw [List.take_length] at hrl
    rw [List.take_length]
    simp only [go_sem,Nat.lt_irrefl,decide_false,hrl]
    rw [e_q04n_k2]
    simp only [d_q04n_k2,go_sem,hrl]
    rw [show win (ws.map fun s=>eI (numR dg s)) 0 ws.length = (ws.map (numR dg)).map eI from by unfold win; rw [List.drop_zero,List.take_of_length_le (by simp),List.map_map]; rfl]
    try rfl
end Go.Am
end
section
/- Tests and faults: what is wrong with them,both ways. -/
open Go
set_option linter.all false
namespace Go.Am
variable {h : Heap} {K : Post}
theorem s_Trim (s cs : List UInt8) (hs : s.length ≤ 1000000) (hc : cs.length ≤ 1000) (ha : cs.all (fun b=>decide (b.toNat < 128)) = true) : ACall X f_q08f [AS s,AS cs] h K = K (AS (trimL s cs)) h []:=by
  refine lib_call (X:=X) (by kernel_rfl) ?_
  rw [X_ex2]
  exact libF_pure (vs:=[.str s,.str cs]) (by kernel_rfl) (s:=trimS) (by kernel_rfl) rfl (by simp only [trimS]; rw [if_pos ⟨hs,hc,ha⟩])
theorem s_BitsP (s : List UInt8) (hs : s.length ≤ 1000000) : ACall X f_q000 [AS s] h K = K (AB (bitsB s)) h []:=by
  refine rule ?_
  rw [c_q000 rfl]
  have e:=fun h K=>s_Trim (h:=h) (K:=K) s [48,49] hs (by simp) (by decide)
  have b : decide (trimL s [48,49] = []) = bitsB s:=trim_bits s
  simp only [d_q000,go_sem,e,b]
theorem s_CheckTest (t : List (List UInt8)) (hb : ∀ s ∈ t,s.length ≤ 1000000) (hn : t.length ≤ 1000000) : ACall X f_q014 [AStr t] h K = K (AI (testF t)) h []:=by
  refine rule ?_
  rw [c_q014 rfl]
  unfold testF
  by_cases h0 : t.length = 0
  · simp only [d_q014,go_sem,h0]
  have h0' : ¬ ((t.length : Int) = 0):=by omega
  by_cases h1 : 100 < t.length
  · have h1' : (100 : Int) < (t.length : Int) := by omega
    simp only [d_q014,go_sem,h0',h0,h1,h1']
  have h1' : ¬ (100 : Int) < (t.length : Int):=by omega
  simp only [d_q014,go_sem,h0',h0,h1,h1']
  obtain ⟨lg,hlg⟩ : ∃ n,(t.headD []).length = n:=⟨_,rfl⟩
  rw [hlg]
  refine N_loop (fun k : Nat=>⟨[(0,AStr t),(13,AStr t),(14,AI t.length),(15,AI k)],h,[]⟩) (fun k=>k ≤ t.length ∧ testL lg (t.drop k) = testL lg t) (fun k=>t.length - k) 0 rfl ⟨by omega,by simp⟩ ?_
  rintro k ⟨hk,hp⟩
  rcases Nat.lt_or_ge k t.length with hlt | hge
  · have hg := map_get PV.str hlt
    have hg0:=map_get PV.str (show 0 < t.length by omega)
    have cz : cutP none 0 (PV.str t[k]) = some (PV.str t[k]):=rfl
    have hz : t[0].length = lg:=by
      rw [← hlg]
      cases t with
      | nil=>exact absurd rfl h0
      | cons a r=>rfl
    have w2 : IntKind.i64.wrap ((k : Int) + 1) = ((k + 1 : Nat) : Int):=i64_wrap _ (by omega) (by omega)
    have eb:=fun h K=>s_BitsP (h:=h) (K:=K) t[k] (hb _ (List.getElem_mem hlt))
    rw [List.drop_eq_getElem_cons hlt,testL] at hp
    cases hbb : bitsB t[k] with
    | false=>
      rw [hbb] at hp
      simp only [if_true] at hp
      rw [← hp]
      simp only [go_sem,hlt,hg,eb,hbb]
    | true=>
      rw [hbb] at hp
      simp only [Bool.true_eq_false,if_false] at hp
      by_cases h2 : 64 < t[k].length
      · have h2' : (64 : Int) < (t[k].length : Int) := by omega
        rw [if_pos h2] at hp
        rw [← hp]
        simp only [go_sem,hlt,hg,eb,hbb,h2']
      · have h2' : ¬ (64 : Int) < (t[k].length : Int) := by omega
        rw [if_neg h2] at hp
        by_cases h3 : t[k].length = lg
        · have h3' : ((t[k].length : Int) = (lg : Int)) := by omega
          rw [if_neg (by omega)] at hp
          have h2'' : ¬ (64 : Int) < (lg : Int):=by omega
          simp only [go_sem,hlt,hg,hg0,hz,eb,hbb,h2',h2'',h3',w2]
          exact ⟨k + 1,rfl,⟨by omega,hp⟩,by omega⟩
        · have h3' : ¬ ((t[k].length : Int) = (lg : Int)) := by omega
          rw [if_pos h3] at hp
          rw [← hp]
          simp only [go_sem,hlt,hg,hg0,hz,eb,hbb,h2',h3']
  · have e1 : k = t.length := by omega
    subst e1
    rw [List.drop_length] at hp
    rw [← hp]
    simp only [go_sem,Nat.lt_irrefl]
    rfl
end Go.Am
end
section
/- Faults: what is wrong with them,both ways. -/
open Go
set_option linter.all false
namespace Go.Am
variable {h : Heap} {K : Post}
def Flt.pv (f : Flt) : PV:=.agg [eI f.kind,.sl none (f.nets.map eI)]
abbrev AFlt (l : List Flt) : AV:=.p (.sl (some 2) (l.map Flt.pv))
theorem IndexI {v : AV} (l : List Int) (hv : Shows none v (l.map eI) h) (x : Int) (hl : l.length ≤ 1000000) : ACall X f_q066 [v,AI x] h K = K (AI (if l.findIdx (fun y=>decide (y = x)) < l.length then (l.findIdx (fun y=>decide (y = x)) : Int) else -1)) h []:=by
  refine rule ?_
  rw [c_q066]
  have vl:=hv.len
  rw [List.length_map] at vl
  simp only [d_q066,go_sem,vl]
  refine N_loop (fun k : Nat=>⟨[(0,v),(1,AI x),(7,AI l.length),(8,AI k)],h,[]⟩) (fun k=>k ≤ l.length ∧ ∀ y ∈ l.take k,decide (y = x) = false) (fun k=>l.length - k) 0 rfl (by simp) ?_
  rintro k ⟨hk,hn⟩
  rcases Nat.lt_or_ge k l.length with hlt | hge
  · obtain ⟨a, ha, hb⟩ := hv.get k (by simpa using hlt)
    rw [List.getElem_map] at hb
    have w2 : IntKind.i64.wrap ((k : Int) + 1) = ((k + 1 : Nat) : Int):=i64_wrap _ (by omega) (by omega)
    by_cases hpk : x = l[k]
    · have hf : l.findIdx (fun y=>decide (y = x)) = k:=by
        rw [List.findIdx_eq hlt]
        refine ⟨by simp [hpk],fun j hj=>?_⟩
        have:=hn l[j] (by rw [List.mem_take_iff_getElem]; exact ⟨j,by omega,rfl⟩)
        simpa using this
      simp only [go_sem,hlt,ha,hb,hpk.symm,w2]
      simp only [hf,hlt,if_true]
    · simp only [go_sem, hlt, ha, hb, hpk, w2]
      refine ⟨k + 1,rfl,⟨by omega,fun y hy=>?_⟩,by omega⟩
      rw [List.take_succ_eq_append_getElem hlt,List.mem_append,List.mem_singleton] at hy
      rcases hy with hy | hy
      · exact hn y hy
      · rw [hy]; simp; exact fun e=>hpk e.symm
  · have e1 : k = l.length := by omega
    subst e1
    simp only [go_sem,Nat.lt_irrefl]
    rw [List.take_length] at hn
    have : ¬ l.findIdx (fun y=>decide (y = x)) < l.length:=by
      rw [Nat.not_lt,Nat.le_iff_lt_or_eq]; right
      exact (List.findIdx_eq_length.2 (fun y hy=>by simp [hn y hy])).symm
    rw [if_neg this]
theorem ContainsI {v : AV} (l : List Int) (hv : ∀ h' : Heap,h' = h → Shows none v (l.map eI) h') (x : Int) (hl : l.length ≤ 1000000) : ACall X f_q05q [v,AI x] h K = K (AB (l.contains x)) h []:=by
  refine rule ?_
  rw [c_q05q]
  have e:=fun K=>IndexI (h:=h) (K:=K) l (hv h rfl) x hl
  have hd : decide (0 ≤ (if l.findIdx (fun y=>decide (y = x)) < l.length then (l.findIdx (fun y=>decide (y = x)) : Int) else -1)) = l.contains x:=by
    rw [Bool.eq_iff_iff,decide_eq_true_eq,List.contains_iff_mem]
    constructor
    · intro hq
      split at hq
      · rename_i hlt
        have:=List.findIdx_getElem (w:=hlt)
        simp only [decide_eq_true_eq] at this
        exact this ▸ List.getElem_mem hlt
      · omega
    · intro hm
      rw [if_pos (List.findIdx_lt_length_of_exists ⟨x,hm,by simp⟩)]; omega
  simp only [d_q05q,go_sem,e,hd]
theorem s_ContainsI (l : List Int) (x : Int) (hl : l.length ≤ 1000000) : ACall X f_q05q [AL l,AI x] h K = K (AB (l.contains x)) h []:=ContainsI l (fun h' _=>shows_sl shps_eI) x hl
def riseV (f : Flt) (r : List Int) : Int:=if risL r = false then 7 else if f.kind = 5 ∧ r.contains (f.nets.headD 0) = true then 6 else 0
theorem head_get {l : List Int} (hl : 0 < l.length) : (l.map eI)[0]? = some (eI (l.headD 0)):=by
  cases l with
  | nil=>simp at hl
  | cons a r=>rfl
theorem rise_P (f : Flt) (r : List Int) (hr : r.length ≤ 1000000) (h0 : 0 < f.nets.length) {id : Nat} (hh : h[id]? = some (.box [AI f.kind,AL f.nets])) {K : Ex → St → Prop} (hK : K .ret ⟨[(4,AI (riseV f r))],h,[]⟩) :
    d_q013_k4 (ACall X) X.gl p_q013_k2 p_q013_k3 (.ref id 0) (AL r) h [] K:=by
  simp only [d_q013_k4,go_sem]
  refine N_loop (fun k : Nat=>⟨[(3,.ref id 0),(7,AL r),(8,AI ((k + 1 : Nat) : Int))],h,[]⟩) (fun k=>(k + 1 ≤ r.length ∨ k = 0) ∧ risL (r.drop k) = risL r) (fun k=>r.length - k) 0 rfl ⟨.inr rfl,by simp⟩ ?_
  rintro k ⟨hk,hp⟩
  rcases Nat.lt_or_ge (k + 1) r.length with hlt | hge
  · have g1 := map_get eI (show k < r.length by omega)
    have g2:=map_get eI hlt
    have w1 : IntKind.i64.wrap (((k + 1 : Nat) : Int) - 1) = (k : Int):=by rw [i64_wrap _ (by omega) (by omega)]; omega
    have w2 : IntKind.i64.wrap (((k + 1 : Nat) : Int) + 1) = ((k + 1 + 1 : Nat) : Int):=i64_wrap _ (by omega) (by omega)
    rw [risL_take r k hlt] at hp
    by_cases hq : r[k + 1] ≤ r[k]
    · have : ¬ r[k] < r[k + 1] := by omega
      simp only [this,decide_false,Bool.false_and] at hp
      simp only [go_sem,hlt,g1,g2,w1,hq]
      have e : riseV f r = 7:=by unfold riseV; rw [← hp]; rfl
      rw [e] at hK
      exact hK
    · have : r[k] < r[k + 1] := by omega
      simp only [this,decide_true,Bool.true_and] at hp
      simp only [go_sem,hlt,g1,g2,w1,w2,hq]
      exact ⟨k + 1,rfl,⟨.inl (by omega),hp⟩,by omega⟩
  · have hge' : ¬ (((k + 1 : Nat) : Int) < (r.length : Int)) := by omega
    rw [risL_end r k hge] at hp
    have c:=fun h K=>s_ContainsI (h:=h) (K:=K) r (f.nets.headD 0) hr
    have g0:=head_get h0
    unfold riseV at hK
    rw [← hp] at hK
    simp only [Bool.true_eq_false,if_false] at hK
    by_cases h5 : f.kind = 5
    · cases hc : r.contains (f.nets.headD 0) with
      | true=>
        rw [hc] at hK
        simp only [h5,and_self,if_true] at hK
        rw [h5] at hh
        simp only [go_sem,hge',hh,c,g0,hc]
        exact hK
      | false=>
        rw [hc] at hK
        simp only [Bool.false_eq_true,and_false,if_false] at hK
        rw [h5] at hh
        simp only [go_sem,hge',hh,c,g0,hc]
        exact hK
    · simp only [h5, false_and, if_false] at hK
      simp only [go_sem,hge',hh,h5]
      exact hK
theorem rise_Q (f : Flt) (r : List Int) (hr : r.length ≤ 1000000) (h0 : 0 < f.nets.length) {id : Nat} (hh : h[id]? = some (.box [AI f.kind,AL f.nets])) {K : Ex → St → Prop} (hK : K .ret ⟨[(4,AI (riseV f r))],h,[]⟩) :
    d_q04a_k3 (ACall X) X.gl p_q04a_k1 p_q04a_k2 (.ref id 0) (AL r) h [] K:=by
  simp only [d_q04a_k3,go_sem]
  refine N_loop (fun k : Nat=>⟨[(3,.ref id 0),(5,AL r),(6,AI ((k + 1 : Nat) : Int))],h,[]⟩) (fun k=>(k + 1 ≤ r.length ∨ k = 0) ∧ risL (r.drop k) = risL r) (fun k=>r.length - k) 0 rfl ⟨.inr rfl,by simp⟩ ?_
  rintro k ⟨hk,hp⟩
  rcases Nat.lt_or_ge (k + 1) r.length with hlt | hge
  · have g1 := map_get eI (show k < r.length by omega)
    have g2:=map_get eI hlt
    have w1 : IntKind.i64.wrap (((k + 1 : Nat) : Int) - 1) = (k : Int):=by rw [i64_wrap _ (by omega) (by omega)]; omega
    have w2 : IntKind.i64.wrap (((k + 1 : Nat) : Int) + 1) = ((k + 1 + 1 : Nat) : Int):=i64_wrap _ (by omega) (by omega)
    rw [risL_take r k hlt] at hp
    by_cases hq : r[k + 1] ≤ r[k]
    · have : ¬ r[k] < r[k + 1] := by omega
      simp only [this,decide_false,Bool.false_and] at hp
      simp only [go_sem,hlt,g1,g2,w1,hq]
      have e : riseV f r = 7:=by unfold riseV; rw [← hp]; rfl
      rw [e] at hK
      exact hK
    · have : r[k] < r[k + 1] := by omega
      simp only [this,decide_true,Bool.true_and] at hp
      simp only [go_sem,hlt,g1,g2,w1,w2,hq]
      exact ⟨k + 1,rfl,⟨.inl (by omega),hp⟩,by omega⟩
  · have hge' : ¬ (((k + 1 : Nat) : Int) < (r.length : Int)) := by omega
    rw [risL_end r k hge] at hp
    have c:=fun h K=>s_ContainsI (h:=h) (K:=K) r (f.nets.headD 0) hr
    have g0:=head_get h0
    unfold riseV at hK
    rw [← hp] at hK
    simp only [Bool.true_eq_false,if_false] at hK
    by_cases h5 : f.kind = 5
    · cases hc : r.contains (f.nets.headD 0) with
      | true=>
        rw [hc] at hK
        simp only [h5,and_self,if_true] at hK
        rw [h5] at hh
        simp only [go_sem,hge',hh,c,g0,hc]
        exact hK
      | false=>
        rw [hc] at hK
        simp only [Bool.false_eq_true,and_false,if_false] at hK
        rw [h5] at hh
        simp only [go_sem,hge',hh,c,g0,hc]
        exact hK
    · simp only [h5, false_and, if_false] at hK
      simp only [go_sem,hge',hh,h5]
      exact hK
theorem s_isShort (k : Int) : ACall X f_q01n [AI k] h K = K (AB (shortK k)) h []:=by
  refine rule ?_
  rw [c_q01n rfl]
  have e : (!(decide (k < 3) || decide (5 < k))) = shortK k:=by unfold shortK; rw [Bool.eq_iff_iff]; simp
  simp only [d_q01n,go_sem,s_Out,e]
theorem s_short (k : Int) : ACall X f_q057 [AI k] h K = K (AB (shortK k)) h []:=by
  refine rule ?_
  rw [c_q057 rfl]
  simp only [d_q057,go_sem,s_in]
  rfl
theorem any_drop {p : Int → Bool} {l : List Int} {k : Nat} (hk : k < l.length) (hp : (l.drop k).any p = l.any p) : (p l[k] || (l.drop (k + 1)).any p) = l.any p:=by
  rw [List.drop_eq_getElem_cons hk,List.any_cons] at hp
  exact hp
attribute [-go_sem] d_q013_k4 d_q04a_k3
theorem s_CheckFault (n : Int) (f : Flt) (hn : -1000000000000000 ≤ n) (hl : f.nets.length ≤ 1000000) : ACall X f_q013 [AI n,.p f.pv] h K = K (AI (fltF n f)) h []:=by
  refine rule ?_
  rw [c_q013 rfl]
  unfold fltF
  by_cases h1 : n < 1 ∨ 100 < n
  · have e : (decide (n < 1) || decide (100 < n)) = true := by rw [Bool.or_eq_true, decide_eq_true_eq, decide_eq_true_eq]; exact h1
    simp only [d_q013,Flt.pv,go_sem,s_Out,e,h1]
  have e1 : (decide (n < 1) || decide (100 < n)) = false:=by rw [Bool.or_eq_false_iff,decide_eq_false_iff_not,decide_eq_false_iff_not]; omega
  by_cases h2 : f.kind < 1 ∨ 6 < f.kind
  · have e : (decide (f.kind < 1) || decide (6 < f.kind)) = true := by rw [Bool.or_eq_true, decide_eq_true_eq, decide_eq_true_eq]; exact h2
    simp only [d_q013,Flt.pv,go_sem,s_Out,e1,e,h1,h2]
  have e2 : (decide (f.kind < 1) || decide (6 < f.kind)) = false:=by rw [Bool.or_eq_false_iff,decide_eq_false_iff_not,decide_eq_false_iff_not]; omega
  by_cases h3 : f.nets.length = 0
  · simp only [d_q013,Flt.pv,go_sem,s_Out,e1,e2,h1,h2,h3]
  have h3' : ¬ ((f.nets.length : Int) = 0):=by omega
  by_cases h4 : 6 < f.nets.length
  · have h4' : (6 : Int) < f.nets.length := by omega
    simp only [d_q013,Flt.pv,go_sem,s_Out,e1,e2,h1,h2,h3,h3',h4,h4']
  have h4' : ¬ (6 : Int) < f.nets.length:=by omega
  simp only [d_q013,Flt.pv,go_sem,s_Out,e1,e2,h1,h2,h3,h3',h4,h4']
  refine N_loop (fun k : Nat=>⟨[(0,AI n),(3,.ref h.length 0),(27,AL f.nets),(28,AI f.nets.length),(29,AI k)],h ++ [.box [AI f.kind,AL f.nets]],[]⟩) (fun k=>k ≤ f.nets.length ∧ (f.nets.drop k).any (outN n) = f.nets.any (outN n)) (fun k=>f.nets.length - k) 0 rfl ⟨by omega,by simp⟩ ?_
  rintro k ⟨hk,hp⟩
  have w1 : IntKind.i64.wrap (n - 1) = n - 1:=i64_wrap _ (by omega) (by omega)
  rcases Nat.lt_or_ge k f.nets.length with hlt | hge
  · have hg := map_get eI hlt
    have w2 : IntKind.i64.wrap ((k : Int) + 1) = ((k + 1 : Nat) : Int):=i64_wrap _ (by omega) (by omega)
    have hp2:=any_drop hlt hp
    cases ho : outN n f.nets[k] with
    | true=>
      rw [ho,Bool.true_or] at hp2
      unfold outN at ho
      simp only [go_sem,hlt,hg,w1,s_Out,ho,← hp2]
    | false=>
      rw [ho,Bool.false_or] at hp2
      unfold outN at ho
      simp only [go_sem,hlt,hg,w1,s_Out,ho,w2]
      exact ⟨k + 1,rfl,⟨by omega,hp2⟩,by omega⟩
  · have e1 : k = f.nets.length := by omega
    subst e1
    rw [List.drop_length] at hp
    rw [← hp]
    simp only [List.any_nil,Bool.false_eq_true,if_false]
    have hi : (1 < (f.nets.length : Int)) = (1 < f.nets.length):=by simp only [eq_iff_iff]; omega
    have h0 : 0 < f.nets.length:=by omega
    have hh : (h ++ [Obj.box [AI f.kind,AL f.nets]])[h.length]? = some (.box [AI f.kind,AL f.nets]):=app_get0 _ _
    have R:=fun r hr (K : Ex → St → Prop)=>rise_P (h:=h ++ [Obj.box [AI f.kind,AL f.nets]]) f r hr h0 hh (K:=K)
    obtain ⟨kd,ns⟩:=f
    dsimp only at *
    have hw : win (ns.map eI) 1 (ns.length - 1) = (ns.drop 1).map eI:=by rw [win_map]; congr 1; unfold win; exact List.take_of_length_le (by simp)
    have hle : 1 ≤ ns.length:=h0
    by_cases h6 : kd = 5
    · subst h6
      have s5 : shortK 5 = true:=rfl
      by_cases hm : 1 < ns.length
      · have q := R (ns.drop 1) (by simp; omega)
        simp only [go_sem,Nat.lt_irrefl,s_isShort,s5,hi,hm,hw,hle]
        refine q _ ?_
        simp only [go_sem,riseV]
      · simp only [go_sem,Nat.lt_irrefl,s_isShort,s5,hi,hm]
    · have q := R ns hl
      cases hs : shortK kd with
      | true=>
        by_cases hm : 1 < ns.length
        · simp only [go_sem, Nat.lt_irrefl, s_isShort, hs, hi, hm, h6]
          refine q _ ?_
          simp only [go_sem,riseV,h6]
        · simp only [go_sem,Nat.lt_irrefl,s_isShort,hs,hi,hm]
      | false=>
        by_cases hm : 1 < ns.length
        · simp only [go_sem,Nat.lt_irrefl,s_isShort,hs,hi,hm]
        · simp only [go_sem, Nat.lt_irrefl, s_isShort, hs, hi, hm, h6]
          refine q _ ?_
          simp only [go_sem,riseV,h6]
theorem s_FF1 (n x : Int) (hn : -1000000000000000 ≤ n) (hn2 : n ≤ 100) (id : Nat) (hh : h[id]? = some (.box [AI n])) : ACall X f_q04b [AI x,.ref id 0] h K = K (AB (outN n x)) h []:=by
  refine rule ?_
  rw [c_q04b rfl]
  have w1 : IntKind.i64.wrap (n - 1) = n - 1:=i64_wrap _ (by omega) (by omega)
  have e : (!(decide (0 ≤ x) && decide (x ≤ n - 1))) = outN n x:=by
    unfold outN; rw [Bool.eq_iff_iff]; simp
  simp only [d_q04b,go_sem,hh,w1,s_in,e]
theorem s_FaultFault (n : Int) (f : Flt) (hn : -1000000000000000 ≤ n) (hl : f.nets.length ≤ 1000000) : ACall X f_q04a [AI n,.p f.pv] h K = K (AI (fltF n f)) h []:=by
  refine rule ?_
  rw [c_q04a rfl]
  unfold fltF
  by_cases h1 : n < 1 ∨ 100 < n
  · have e : (decide (1 ≤ n) && decide (n ≤ 100)) = false := by rw [Bool.and_eq_false_iff, decide_eq_false_iff_not, decide_eq_false_iff_not]; omega
    simp only [d_q04a,Flt.pv,go_sem,s_in,e,h1]
  have e1 : (decide (1 ≤ n) && decide (n ≤ 100)) = true:=by rw [Bool.and_eq_true,decide_eq_true_eq,decide_eq_true_eq]; omega
  by_cases h2 : f.kind < 1 ∨ 6 < f.kind
  · have e : (decide (1 ≤ f.kind) && decide (f.kind ≤ 6)) = false := by rw [Bool.and_eq_false_iff, decide_eq_false_iff_not, decide_eq_false_iff_not]; omega
    simp only [d_q04a,Flt.pv,go_sem,s_in,e1,e,h1,h2]
  have e2 : (decide (1 ≤ f.kind) && decide (f.kind ≤ 6)) = true:=by rw [Bool.and_eq_true,decide_eq_true_eq,decide_eq_true_eq]; omega
  by_cases h3 : f.nets.length = 0
  · simp only [d_q04a,Flt.pv,go_sem,s_in,e1,e2,h1,h2,h3]
  have h3' : ¬ ((f.nets.length : Int) = 0):=by omega
  by_cases h4 : 6 < f.nets.length
  · have h4' : (6 : Int) < f.nets.length := by omega
    simp only [d_q04a,Flt.pv,go_sem,s_in,e1,e2,h1,h2,h3,h3',h4,h4']
  have h4' : ¬ (6 : Int) < f.nets.length:=by omega
  have T : Tells f_q04b [.ref h.length 0] (fun x=>outN n (unI x)) (f.nets.map eI) (h ++ [.box [AI n],.box [AI f.kind,AL f.nets]]):=by
    intro x hx K
    obtain ⟨m,_,rfl⟩:=List.mem_map.1 hx
    exact s_FF1 n m hn (by omega) h.length (by rw [app_get0]; rfl)
  have C:=fun K=>ContainsFunc_int (K:=K) T shps_eI (by simp; omega)
  have ea : (f.nets.map eI).any (fun x=>outN n (unI x)) = f.nets.any (outN n):=by rw [List.any_map]; rfl
  rw [ea] at C
  cases ha : f.nets.any (outN n) with
  | true=>
    rw [ha] at C
    simp only [d_q04a,Flt.pv,go_sem,s_in,e1,e2,h1,h2,h3,h3',h4,h4',C]
  | false=>
  rw [ha] at C
  simp only [d_q04a,Flt.pv,go_sem,s_in,e1,e2,h1,h2,h3,h3',h4,h4',C]
  have hi : (1 < (f.nets.length : Int)) = (1 < f.nets.length):=by simp only [eq_iff_iff]; omega
  have h0 : 0 < f.nets.length:=by omega
  have hh : (h ++ [.box [AI n],Obj.box [AI f.kind,AL f.nets]])[h.length + 1]? = some (.box [AI f.kind,AL f.nets]):=by rw [app_get]; rfl
  have R:=fun r hr (K : Ex → St → Prop)=>rise_Q (h:=h ++ [.box [AI n],Obj.box [AI f.kind,AL f.nets]]) f r hr h0 hh (K:=K)
  obtain ⟨kd,ns⟩:=f
  dsimp only at *
  have hw : win (ns.map eI) 1 (ns.length - 1) = (ns.drop 1).map eI:=by rw [win_map]; congr 1; unfold win; exact List.take_of_length_le (by simp)
  have hle : 1 ≤ ns.length:=h0
  by_cases h6 : kd = 5
  · subst h6
    have s5 : shortK 5 = true:=rfl
    by_cases hm : 1 < ns.length
    · have q := R (ns.drop 1) (by simp; omega)
      simp only [go_sem,s_short,s5,hi,hm,hw,hle]
      refine q _ ?_
      simp only [go_sem,riseV]
    · simp only [go_sem,s_short,s5,hi,hm]
  · have q := R ns hl
    cases hs : shortK kd with
    | true=>
      by_cases hm : 1 < ns.length
      · simp only [go_sem, s_short, hs, hi, hm, h6]
        refine q _ ?_
        simp only [go_sem,riseV,h6]
      · simp only [go_sem,s_short,hs,hi,hm]
    | false=>
      by_cases hm : 1 < ns.length
      · simp only [go_sem,s_short,hs,hi,hm]
      · simp only [go_sem, s_short, hs, hi, hm, h6]
        refine q _ ?_
        simp only [go_sem,riseV,h6]
end Go.Am
end
section
/- Where a string stands among strings; words. -/
open Go
set_option linter.all false
namespace Go.Am
variable {h : Heap} {K : Post}
theorem IndexS {v : AV} (l : List (List UInt8)) (hv : Shows none v (l.map PV.str) h) (x : List UInt8) (hl : l.length ≤ 1000000) : ACall X f_q067 [v,AS x] h K = K (AI (if l.findIdx (fun y=>decide (y = x)) < l.length then (l.findIdx (fun y=>decide (y = x)) : Int) else -1)) h []:=by
  refine rule ?_
  rw [c_q067]
  have vl:=hv.len
  rw [List.length_map] at vl
  simp only [d_q067,go_sem,vl]
  refine N_loop (fun k : Nat=>⟨[(0,v),(1,AS x),(7,AI l.length),(8,AI k)],h,[]⟩) (fun k=>k ≤ l.length ∧ ∀ y ∈ l.take k,decide (y = x) = false) (fun k=>l.length - k) 0 rfl (by simp) ?_
  rintro k ⟨hk,hn⟩
  rcases Nat.lt_or_ge k l.length with hlt | hge
  · obtain ⟨a, ha, hb⟩ := hv.get k (by simpa using hlt)
    rw [List.getElem_map] at hb
    have w2 : IntKind.i64.wrap ((k : Int) + 1) = ((k + 1 : Nat) : Int):=i64_wrap _ (by omega) (by omega)
    by_cases hpk : x = l[k]
    · have hf : l.findIdx (fun y=>decide (y = x)) = k:=by
        rw [List.findIdx_eq hlt]
        refine ⟨by simp [hpk],fun j hj=>?_⟩
        have:=hn l[j] (by rw [List.mem_take_iff_getElem]; exact ⟨j,by omega,rfl⟩)
        simpa using this
      simp only [go_sem,hlt,ha,hb,hpk.symm,w2]
      simp only [hf,hlt,if_true]
    · simp only [go_sem, hlt, ha, hb, hpk, w2]
      refine ⟨k + 1,rfl,⟨by omega,fun y hy=>?_⟩,by omega⟩
      rw [List.take_succ_eq_append_getElem hlt,List.mem_append,List.mem_singleton] at hy
      rcases hy with hy | hy
      · exact hn y hy
      · rw [hy]; simp; exact fun e=>hpk e.symm
  · have e1 : k = l.length := by omega
    subst e1
    simp only [go_sem,Nat.lt_irrefl]
    rw [List.take_length] at hn
    have : ¬ l.findIdx (fun y=>decide (y = x)) < l.length:=by
      rw [Nat.not_lt,Nat.le_iff_lt_or_eq]; right
      exact (List.findIdx_eq_length.2 (fun y hy=>by simp [hn y hy])).symm
    rw [if_neg this]
theorem ContainsS {v : AV} (l : List (List UInt8)) (hv : ∀ h' : Heap,h' = h → Shows none v (l.map PV.str) h') (x : List UInt8) (hl : l.length ≤ 1000000) : ACall X f_q05r [v,AS x] h K = K (AB (l.contains x)) h []:=by
  refine rule ?_
  rw [c_q05r]
  have e:=fun K=>IndexS (h:=h) (K:=K) l (hv h rfl) x hl
  have hd : decide (0 ≤ (if l.findIdx (fun y=>decide (y = x)) < l.length then (l.findIdx (fun y=>decide (y = x)) : Int) else -1)) = l.contains x:=by
    rw [Bool.eq_iff_iff,decide_eq_true_eq,List.contains_iff_mem]
    constructor
    · intro hq
      split at hq
      · rename_i hlt
        have:=List.findIdx_getElem (w:=hlt)
        simp only [decide_eq_true_eq] at this
        exact this ▸ List.getElem_mem hlt
      · omega
    · intro hm
      rw [if_pos (List.findIdx_lt_length_of_exists ⟨x,hm,by simp⟩)]; omega
  simp only [d_q05r,go_sem,e,hd]
theorem strS (ws : List (List UInt8)) {h : Heap} : Shows none (AStr ws) (ws.map PV.str) h:=shows_sl str_shps
theorem splitC_mem {c : UInt8} : ∀ {s p : List UInt8},p ∈ splitC c s → p.length ≤ s.length
  | [],p,h=>by simp [splitC] at h; subst h; simp
  | b :: r,p,h=>by
    rw [splitC.eq_2] at h
    split at h
    · rcases List.mem_cons.1 h with rfl | h
      · simp
      · have:=splitC_mem h; simp; omega
    · split at h
      · rename_i hq; exact absurd hq (splitC_ne c r)
      · rename_i p0 q hq
        rcases List.mem_cons.1 h with rfl | h
        · have:=splitC_mem (s:=r) (p:=p0) (by rw [hq]; simp); simp; omega
        · have:=splitC_mem (s:=r) (p:=p) (by rw [hq]; simp [h]); simp; omega
theorem s_WordsQ (s : List UInt8) (hs : s.length ≤ 900000) : ACall X f_q04w [AS s] h K = K (.tup [AStr (splitC 32 s),AB (wordsF s)]) h []:=by
  refine rule ?_
  rw [c_q04w rfl]
  have q:=fun h K=>s_Split (h:=h) (K:=K) s 32 (by omega)
  have hl : (splitC 32 s).length ≤ 1000000:=by
    rw [splitC_len]
    have : s.count 32 ≤ s.length:=List.count_le_length
    omega
  have q2:=fun h K=>ContainsS (h:=h) (K:=K) (splitC 32 s) (fun h' _=>strS _) [] hl
  simp only [d_q04w,go_sem,↓q,q,↓q2,q2]
  rfl
end Go.Am
end
section
/- Numbers written,joined. -/
open Go
set_option linter.all false
namespace Go.Am
variable {h : Heap} {K : Post}
theorem joinS_eq {l : List (List UInt8)} {sep : List UInt8} (h1 : l.length ≤ 1000000) (h2 : (sep.intercalate l).length ≤ 1000000000) : joinS [.sl none (l.map PV.str),.str sep] = some (AS (sep.intercalate l)):=by
  show (strsOf (l.map PV.str)).bind _ = _
  rw [strsOf_map,Option.bind_some,if_pos ⟨h1,h2⟩]
theorem s_JoinOwn (l : List (List UInt8)) (sep : List UInt8) {id : Nat} (hh : h[id]? = some (.row none (l.map PV.str) 0)) (h1 : l.length ≤ 1000000) (h2 : (sep.intercalate l).length ≤ 1000000000) : ACall X f_q08c [.own id l.length 0 l.length,AS sep] h K = K (AS (sep.intercalate l)) (frz h id l.length) []:=by
  refine lib_call (X:=X) (by kernel_rfl) ?_
  rw [X_ex2]
  have hrd : rd h (.own id l.length 0 l.length) = some (none,l.map PV.str):=by
    simp only [rd,hh,List.length_map,Nat.zero_add,Nat.le_refl,and_self,if_true]
    unfold win
    rw [List.drop_zero,List.take_of_length_le (by simp)]
  exact libF_own (vs:=[.sl none (l.map PV.str),.str sep]) (asv':=[AStr l,AS sep]) (by kernel_rfl) (s:=joinS) (by kernel_rfl) rfl (by
      simp only [puras,hrd,Nat.zero_add,Option.map_some,pur]) rfl (joinS_eq h1 h2)
attribute [-go_sem] e_q04m_k2
theorem s_NumbersQ (l : List Int) (hb : ∀ n ∈ l,-1000000000000000000 ≤ n ∧ n ≤ 1000000000000000000) (hl : l.length ≤ 1000000) (h2 : (numsL l).length ≤ 1000000000) : ACall X f_q04m [AL l] h K = K (AS (numsL l)) h []:=by
  refine rule ?_
  rw [c_q04m rfl]
  simp only [d_q04m,go_sem]
  refine N_loop (fun k : Nat=>⟨[(3,.own h.length k 0 k),(6,AL l),(7,AI l.length),(8,AI k)],h ++ [.row none ((l.take k).map fun n=>PV.str (itoa n)) 0],[]⟩) (fun k=>k ≤ l.length) (fun k=>l.length - k) 0 (by simp) (by omega) ?_
  intro k hk
  have hrl : ((l.take k).map fun n=>PV.str (itoa n)).length = k:=by simp; omega
  rcases Nat.lt_or_ge k l.length with hlt | hge
  · have hg := map_get eI hlt
    have cz : cutP none 0 (eI l[k]) = some (eI l[k]):=rfl
    have wk : IntKind.i64.wrap ((k : Int) + 1) = ((k + 1 : Nat) : Int):=i64_wrap _ (by omega) (by omega)
    have b:=hb _ (List.getElem_mem hlt)
    have q:=fun h K=>s_ItoaQ (h:=h) (K:=K) l[k] b.1 b.2
    have hm : k + 1 ≤ maxSl:=by unfold maxSl; omega
    simp only [go_sem,hlt,hg,cz,↓q,q,hrl,hm,wk]
    refine ⟨k + 1,?_,by omega,by omega⟩
    rw [List.take_succ,List.getElem?_eq_getElem hlt,List.map_append]
    rfl
  · have hk' : k = l.length := by omega
    subst hk'
    rw [List.take_length] at hrl
    rw [List.take_length]
    have em : (l.map fun n=>PV.str (itoa n)) = (l.map itoa).map PV.str:=by rw [List.map_map]; rfl
    have lm : (l.map itoa).length = l.length:=by simp
    have hh : (h ++ [Obj.row none ((l.map itoa).map PV.str) 0])[h.length]? = some (.row none ((l.map itoa).map PV.str) 0):=by simp
    have qj:=fun K=>s_JoinOwn (K:=K) (l.map itoa) [32] hh (by rw [lm]; exact hl) h2
    rw [lm] at qj
    simp only [go_sem,Nat.lt_irrefl,decide_false,hrl]
    rw [e_q04m_k2,em]
    simp only [d_q04m_k2,go_sem,↓qj,qj]
    rfl
end Go.Am
end
section
/- A builder of strings. -/
open Go
set_option linter.all false
namespace Go.Am
variable {h : Heap} {K : Post}
theorem reif_nili {b : Nat} : reif b h .nili = some .nili:=by simp only [reif]
attribute [local go_sem] reif_nili
def bldB (u : Bool) (id n : Nat) : Obj:=.box [bif u then .ref id 0 else .bt 0 bldT id 0,.bt 1 bldE (id + 1) n]
theorem bldB_t (id n : Nat) : bldB true id n = .box [.ref id 0,.bt 1 bldE (id + 1) n]:=rfl
theorem bldB_f (id n : Nat) : bldB false id n = .box [.bt 0 bldT id 0,.bt 1 bldE (id + 1) n]:=rfl
theorem set_id {o : Obj} {id : Nat} (hh : h[id]? = some o) : h.set id o = h:=by
  apply List.ext_getElem?
  intro j
  by_cases e : id = j
  · subst e; rw [List.getElem?_set_self (get_lt hh),hh]
  · rw [List.getElem?_set_ne e]
theorem s_copyCheck (u : Bool) (id n : Nat) (hh : h[id]? = some (bldB u id n)) : ACall X f_q081 [.ref id 0] h K = K (.tup []) (h.set id (bldB true id n)) []:=by
  refine rule ?_
  rw [c_q081 rfl]
  cases u with
  | true=>
    rw [set_id hh]
    rw [bldB_t] at hh
    simp only [d_q081,go_sem,hh]
  | false=>
    rw [bldB_f] at hh
    rw [bldB_t]
    simp only [bldT] at hh
    simp only [d_q081,go_sem,hh]
theorem set_comm' {h : Heap} {i j : Nat} {a b : Obj} (e : i ≠ j) : (h.set i a).set j b = (h.set j b).set i a:=List.set_comm a b e
def Holds (h : Heap) (u : Bool) (id : Nat) (s : List UInt8) : Prop:=h[id]? = some (bldB u id s.length) ∧ h[id + 1]? = some (.row none (bytesP s) 0)
def held (h : Heap) (id : Nat) (s : List UInt8) : Heap:=(h.set id (bldB true id s.length)).set (id + 1) (.row none (bytesP s) 0)
theorem bytesP_len (s : List UInt8) : (bytesP s).length = s.length:=by simp [bytesP]
theorem bytesP_app (s t : List UInt8) : bytesP s ++ bytesP t = bytesP (s ++ t):=by simp [bytesP]
theorem s_WriteString {u : Bool} {id : Nat} {s t : List UInt8} (H : Holds h u id s) (hm : s.length + t.length ≤ 200000000000) : ACall X f_q080 [.ref id 0,AS t] h K = K (.tup [AI t.length,.nili]) (held h id (s ++ t)) []:=by
  refine rule ?_
  rw [c_q080 rfl]
  have l:=get_lt H.1
  have l2:=get_lt H.2
  have e:=fun K=>s_copyCheck (K:=K) u id s.length H.1
  have g1 : (h.set id (bldB true id s.length))[id]? = some (.box [.ref id 0,.bt 1 bldE (id + 1) s.length]):=by rw [List.getElem?_set_self l,bldB_t]
  have g2 : (h.set id (bldB true id s.length))[id + 1]? = some (.row none (bytesP s) 0):=by rw [List.getElem?_set_ne (by omega)]; exact H.2
  have g3 : ∀ o,((h.set id (bldB true id s.length)).set (id + 1) o)[id]? = some (.box [.ref id 0,.bt 1 bldE (id + 1) s.length]):=fun o=>by rw [List.getElem?_set_ne (by omega)]; exact g1
  have hl : s.length + t.length ≤ maxSl:=by unfold maxSl; omega
  simp only [bldE] at g1 g3
  simp only [d_q080,go_sem,e,g1,g2,g3,bytesP_len,hl]
  rw [List.take_of_length_le (by simp)]
  unfold held
  rw [set_comm' (i:=id + 1) (j:=id) (by omega),List.set_set,bytesP_app,List.length_append]
  rfl
theorem s_WriteByte {u : Bool} {id : Nat} {s : List UInt8} {c : UInt8} (H : Holds h u id s) (hm : s.length + 1 ≤ 200000000000) : ACall X f_q07z [.ref id 0,.p (.int .u8 c.toNat)] h K = K .nili (held h id (s ++ [c])) []:=by
  refine rule ?_
  rw [c_q07z rfl]
  have l:=get_lt H.1
  have l2:=get_lt H.2
  have e:=fun K=>s_copyCheck (K:=K) u id s.length H.1
  have g1 : (h.set id (bldB true id s.length))[id]? = some (.box [.ref id 0,.bt 1 bldE (id + 1) s.length]):=by rw [List.getElem?_set_self l,bldB_t]
  have g2 : (h.set id (bldB true id s.length))[id + 1]? = some (.row none (bytesP s) 0):=by rw [List.getElem?_set_ne (by omega)]; exact H.2
  have g3 : ∀ o,((h.set id (bldB true id s.length)).set (id + 1) o)[id]? = some (.box [.ref id 0,.bt 1 bldE (id + 1) s.length]):=fun o=>by rw [List.getElem?_set_ne (by omega)]; exact g1
  have hl : s.length + 1 ≤ maxSl:=by unfold maxSl; omega
  simp only [bldE] at g1 g3
  simp only [d_q07z,go_sem,e,g1,g2,g3,bytesP_len,hl]
  rw [List.take_of_length_le (by simp)]
  unfold held
  rw [set_comm' (i:=id + 1) (j:=id) (by omega),List.set_set,show [PV.int .u8 (c.toNat : Int)] = bytesP [c] from rfl,bytesP_app,List.length_append]
  rfl
theorem s_BLen {u : Bool} {id : Nat} {s : List UInt8} (H : Holds h u id s) : ACall X f_q07x [.ref id 0] h K = K (AI s.length) h []:=by
  refine rule ?_
  rw [c_q07x rfl]
  have g1:=H.1
  unfold bldB at g1
  simp only [d_q07x,go_sem,g1]
def sealedH (h : Heap) (id : Nat) (s : List UInt8) : Heap:=if s = [] then h else h.set (id + 1) (.row none (bytesP s) (s.length + 1))
theorem toBytes_bytesP (s : List UInt8) : toBytes (bytesP s) = some s:=by
  induction s with
  | nil=>rfl
  | cons a r ih=>
    have h1 : (0 : Int) ≤ (a.toNat : Int) ∧ (a.toNat : Int) < 256:=⟨by omega,by have:=a.toNat_lt; omega⟩
    have e : bytesP (a :: r) = .int .u8 a.toNat :: bytesP r:=rfl
    rw [e]
    unfold toBytes
    rw [if_pos h1,ih]
    simp
theorem s_BString {u : Bool} {id : Nat} {s : List UInt8} (H : Holds h u id s) (hm : s.length ≤ 200000000000) : ACall X f_q07y [.ref id 0] h K = K (AS s) (sealedH h id s) []:=by
  refine rule ?_
  rw [c_q07y rfl]
  have l:=get_lt H.1
  have l2:=get_lt H.2
  have g1:=H.1
  have g2:=H.2
  unfold bldB at g1
  have hl : s.length ≤ maxSl:=by unfold maxSl; omega
  unfold sealedH
  by_cases h0 : s = []
  · subst h0
    simp only [bldE,List.length_nil] at g1
    simp only [d_q07y,go_sem,g1,g2,bytesP_len,hl]
    exact if_pos rfl ▸ trivial
  · have h0' : ¬ s.length = 0 := by simpa using h0
    have h1 : 1 ≤ s.length:=by omega
    simp only [bldE] at g1
    have e0 : (0 : Int) ≤ (s.length : Int):=by omega
    simp only [d_q07y,go_sem,g1,g2,bytesP_len,hl,h0',h1,toBytes_bytesP,e0,Int.toNat_natCast,h0]
def bh (h : Heap) (u : Bool) (s : List UInt8) (l : Heap) : Heap:=h ++ bldB u h.length s.length :: .row none (bytesP s) 0 :: l
theorem bh_holds {u : Bool} {s : List UInt8} {l : Heap} : Holds (bh h u s l) u h.length s:=by
  unfold bh
  exact ⟨by simp,by rw [List.getElem?_append_right (by omega)]; simp⟩
theorem bh_held {u : Bool} {s t : List UInt8} {l : Heap} : held (bh h u s l) h.length t = bh h true t l:=by
  unfold held bh
  rw [List.set_append_right _ _ (by omega),List.set_append_right _ _ (by omega),Nat.sub_self,show h.length + 1 - h.length = 1 by omega]
  rfl
theorem s_WS {u : Bool} {s t : List UInt8} {l : Heap} (hm : s.length + t.length ≤ 200000000000) : ACall X f_q080 [.ref h.length 0,AS t] (bh h u s l) K = K (.tup [AI t.length,.nili]) (bh h true (s ++ t) l) []:=by
  rw [s_WriteString bh_holds hm,bh_held]
theorem s_WB {u : Bool} {s : List UInt8} {c : UInt8} {l : Heap} (hm : s.length + 1 ≤ 200000000000) : ACall X f_q07z [.ref h.length 0,.p (.int .u8 c.toNat)] (bh h u s l) K = K .nili (bh h true (s ++ [c]) l) []:=by
  rw [s_WriteByte bh_holds hm,bh_held]
theorem s_BL {u : Bool} {s : List UInt8} {l : Heap} : ACall X f_q07x [.ref h.length 0] (bh h u s l) K = K (AI s.length) (bh h u s l) []:=s_BLen bh_holds
theorem bh_len {u : Bool} {s : List UInt8} {l : Heap} : (bh h u s l).length = h.length + (l.length + 2):=by
  unfold bh
  simp
theorem bh_app {u : Bool} {s : List UInt8} {l l2 : Heap} : bh h u s l ++ l2 = bh h u s (l ++ l2):=by
  unfold bh
  simp
theorem bh_get {u : Bool} {s : List UInt8} {l : Heap} {n : Nat} : (bh h u s l)[h.length + (n + 2)]? = l[n]?:=by
  unfold bh
  rw [List.getElem?_append_right (by omega),show h.length + (n + 2) - h.length = n + 2 by omega]
  rfl
theorem bh_set {u : Bool} {s : List UInt8} {l : Heap} {n : Nat} {o : Obj} : (bh h u s l).set (h.length + (n + 2)) o = bh h u s (l.set n o):=by
  unfold bh
  rw [List.set_append_right _ _ (by omega),show h.length + (n + 2) - h.length = n + 2 by omega]
  rfl
theorem bh_take {u : Bool} {s : List UInt8} {l : Heap} {n : Nat} : (bh h u s l).take (h.length + (n + 2)) = bh h u s (l.take n):=by
  unfold bh
  rw [List.take_length_add_append]
  rfl
end Go.Am
end
section
/- Numbers asv sets of bits; rows of a test asv numbers. -/
set_option linter.all false
namespace Go.Am
theorem u64w (n : Nat) (h : n < 18446744073709551616) : IntKind.u64.wrap (n : Int) = (n : Int):=by
  simp [IntKind.wrap,IntKind.bits,IntKind.signed]; omega
theorem bvN (a : Nat) : BitVec.ofInt 64 (a : Int) = BitVec.ofNat 64 a:=by simp
theorem pow64 : (2 : Nat) ^ 64 = 18446744073709551616:=rfl
theorem ior_nat {a b : Nat} (ha : a < 18446744073709551616) (hb : b < 18446744073709551616) : ior .u64 a b = ((a ||| b : Nat) : Int):=by
  show IntKind.u64.wrap ((BitVec.ofInt 64 (a : Int) ||| BitVec.ofInt 64 (b : Int)).toNat : Int) = _
  rw [bvN,bvN,BitVec.toNat_or,BitVec.toNat_ofNat,BitVec.toNat_ofNat,Nat.mod_eq_of_lt (by rw [pow64]; exact ha),Nat.mod_eq_of_lt (by rw [pow64]; exact hb)]
  exact u64w _ (by rw [← pow64] at *; exact Nat.or_lt_two_pow ha hb)
theorem iand_nat {a b : Nat} (ha : a < 18446744073709551616) (hb : b < 18446744073709551616) : iand .u64 a b = ((a &&& b : Nat) : Int):=by
  show IntKind.u64.wrap ((BitVec.ofInt 64 (a : Int) &&& BitVec.ofInt 64 (b : Int)).toNat : Int) = _
  rw [bvN,bvN,BitVec.toNat_and,BitVec.toNat_ofNat,BitVec.toNat_ofNat,Nat.mod_eq_of_lt (by rw [pow64]; exact ha),Nat.mod_eq_of_lt (by rw [pow64]; exact hb)]
  exact u64w _ (by rw [← pow64] at *; exact Nat.lt_of_le_of_lt Nat.and_le_left ha)
theorem ishl_nat {a i : Nat} (hi : i ≤ 64) (hl : a * 2 ^ i < 18446744073709551616) : ishl .u64 (a : Int) (i : Int) = ((a * 2 ^ i : Nat) : Int):=by
  unfold ishl
  have : min ((i : Int)).toNat IntKind.u64.bits = i:=by simp only [IntKind.bits,Int.toNat_natCast]; omega
  rw [this,← u64w _ hl]
  congr 1
theorem ishr_nat {a i : Nat} (hi : i ≤ 64) : ishr .u64 (a : Int) (i : Int) = ((a / 2 ^ i : Nat) : Int):=by
  unfold ishr
  have : min ((i : Int)).toNat IntKind.u64.bits = i:=by simp only [IntKind.bits,Int.toNat_natCast]; omega
  rw [this]
  rw [show ((2 : Int) ^ i) = ((2 ^ i : Nat) : Int) by simp]
  exact (Int.ofNat_fdiv a (2 ^ i)).symm
theorem and_one (n i : Nat) : (n / 2 ^ i) &&& 1 = if n.testBit i then 1 else 0:=by
  rw [Nat.and_one_is_mod]
  have:=Nat.testBit_eq_decide_div_mod_eq (x:=n) (i:=i)
  rw [this]
  split
  · rename_i h; simpa using h
  · rename_i h; simp at h; omega
def rowN : List UInt8 → Nat
  | []=>0
  | c :: r=>(c.toNat - 48) + 2 * rowN r
theorem bitsB_cons {c : UInt8} {r : List UInt8} (h : bitsB (c :: r) = true) : (c = 48 ∨ c = 49) ∧ bitsB r = true:=by
  unfold bitsB at *
  rw [List.all_cons,Bool.and_eq_true] at h
  refine ⟨?_,h.2⟩
  have:=h.1
  unfold isBit at this
  simpa [List.contains_cons] using this
theorem rowN_lt : ∀ (s : List UInt8),bitsB s = true → rowN s < 2 ^ s.length
  | [],_=>by simp [rowN]
  | c :: r,h=>by
    obtain ⟨h1,h2⟩:=bitsB_cons h
    have:=rowN_lt r h2
    rw [rowN,List.length_cons,Nat.pow_succ]
    rcases h1 with rfl | rfl <;> simp <;> omega
theorem bitsB_take {s : List UInt8} (k : Nat) (h : bitsB s = true) : bitsB (s.take k) = true:=by
  unfold bitsB at *
  rw [List.all_eq_true] at *
  exact fun x hx=>h x (List.mem_of_mem_take hx)
theorem bit_at {s : List UInt8} {k : Nat} (hk : k < s.length) (h : bitsB s = true) : s[k] = 48 ∨ s[k] = 49:=by
  unfold bitsB at h
  have:=List.all_eq_true.1 h _ (List.getElem_mem hk)
  unfold isBit at this
  simpa [List.contains_cons] using this
theorem rowN_snoc : ∀ (s : List UInt8) (c : UInt8),rowN (s ++ [c]) = rowN s + (c.toNat - 48) * 2 ^ s.length
  | [],c=>by simp [rowN]
  | a :: r,c=>by
    rw [List.cons_append,rowN,rowN_snoc r c,rowN,List.length_cons,Nat.pow_succ,Nat.mul_add,Nat.mul_left_comm 2,Nat.mul_comm 2 (2 ^ r.length),Nat.add_assoc]
theorem or_add (a b i : Nat) (h : a < 2 ^ i) : a ||| b * 2 ^ i = a + b * 2 ^ i:=by
  have:=Nat.two_pow_add_eq_or_of_lt h b
  rw [Nat.or_comm,Nat.mul_comm b,← this,Nat.add_comm]
theorem rowN_take_succ {s : List UInt8} {k : Nat} (hk : k < s.length) (h : bitsB s = true) : rowN (s.take k) ||| (s[k].toNat - 48) * 2 ^ k = rowN (s.take (k + 1)):=by
  have h1:=rowN_lt (s.take k) (bitsB_take k h)
  rw [List.length_take,Nat.min_eq_left (by omega)] at h1
  rw [or_add _ _ _ h1,List.take_succ_eq_append_getElem hk,rowN_snoc,List.length_take,Nat.min_eq_left (by omega)]
def bitC (b : Bool) : UInt8:=bif b then 49 else 48
def textN (long n : Nat) : List UInt8:=(List.range long).map fun i=>bitC (n.testBit i)
def rowAt (r : List Nat) (n : Int) : Nat:=r.getD n.toNat 0
def fvalN (r : List Nat) (f : Flt) (ones : Nat) : Nat:=
  if f.kind = 1 then 0 else if f.kind = 2 ∨ f.kind = 6 then ones
  else if f.kind = 3 then f.nets.foldl (fun v n=>v &&& rowAt r n) (rowAt r (f.nets.headD 0))
  else if f.kind = 4 then f.nets.foldl (fun v n=>v ||| rowAt r n) (rowAt r (f.nets.headD 0))
  else rowAt r (f.nets.headD 0)
def setNs (v : Nat) : List Int → List Nat → List Nat
  | [],r=>r
  | n :: l,r=>setNs v l (r.set n.toNat v)
def fwithN (r : List Nat) (f : Flt) (ones : Nat) : List Nat:=setNs (fvalN r f ones) f.nets r
theorem setNs_len (v : Nat) : ∀ (l : List Int) (r : List Nat),(setNs v l r).length = r.length
  | [],r=>rfl
  | n :: l,r=>by rw [setNs,setNs_len v l,List.length_set]
theorem setNs_snoc (v : Nat) (n : Int) : ∀ (l : List Int) (r : List Nat),setNs v (l ++ [n]) r = (setNs v l r).set n.toNat v
  | [],r=>rfl
  | m :: l,r=>by rw [List.cons_append,setNs,setNs_snoc v n l,setNs]
theorem foldl_bdN {f : Nat → Nat → Nat} {B : Nat} (hf : ∀ a b,a < B → b < B → f a b < B) (g : Int → Nat) (hg : ∀ n,g n < B) : ∀ (l : List Int) (v : Nat),v < B → l.foldl (fun v n=>f v (g n)) v < B
  | [],v,h=>h
  | n :: l,v,h=>by rw [List.foldl_cons]; exact foldl_bdN hf g hg l _ (hf _ _ h (hg n))
theorem rowAt_lt {r : List Nat} {B : Nat} (hr : ∀ x ∈ r,x < B) (h0 : 0 < B) (n : Int) : rowAt r n < B:=by
  unfold rowAt
  rw [List.getD_eq_getElem?_getD]
  cases hq : r[n.toNat]? with
  | none=>exact h0
  | some x=>exact hr x (List.mem_of_getElem? hq)
theorem fvalN_lt {r : List Nat} {f : Flt} {ones e : Nat} (hr : ∀ x ∈ r,x < 2 ^ e) (ho : ones < 2 ^ e) : fvalN r f ones < 2 ^ e:=by
  have h0 : 0 < 2 ^ e:=Nat.two_pow_pos e
  have hq:=rowAt_lt hr h0
  unfold fvalN
  split
  · exact h0
  split
  · exact ho
  split
  · exact foldl_bdN (f:=(· &&& ·)) (fun a b ha hb=>Nat.lt_of_le_of_lt Nat.and_le_left ha) (rowAt r) hq _ _ (hq _)
  split
  · exact foldl_bdN (f:=(· ||| ·)) (fun a b ha hb=>Nat.or_lt_two_pow ha hb) (rowAt r) hq _ _ (hq _)
  · exact hq _
theorem setNs_lt {v B : Nat} (hv : v < B) : ∀ (l : List Int) (r : List Nat),(∀ x ∈ r,x < B) → ∀ x ∈ setNs v l r,x < B
  | [],r,h=>h
  | n :: l,r,h=>by
    rw [setNs]
    refine setNs_lt hv l _ (fun x hx=>?_)
    rcases List.mem_or_eq_of_mem_set hx with hx | rfl
    · exact h x hx
    · exact hv
theorem fwithN_lt {r : List Nat} {f : Flt} {ones e : Nat} (hr : ∀ x ∈ r,x < 2 ^ e) (ho : ones < 2 ^ e) : ∀ x ∈ fwithN r f ones,x < 2 ^ e:=setNs_lt (fvalN_lt hr ho) _ _ hr
theorem fwithN_len (r : List Nat) (f : Flt) (ones : Nat) : (fwithN r f ones).length = r.length:=setNs_len _ _ _
end Go.Am
end
section
/- Lists of faults: what is wrong with them,both ways. -/
open Go
set_option linter.all false
namespace Go.Am
variable {h : Heap} {K : Post}
theorem flt_cut {f : Flt} : cutP (some 2) 0 f.pv = some f.pv:=rfl
def allF (t : List (List UInt8)) (l : List Flt) : Int:=if testF t ≠ 0 then testF t else fltsF t.length l
theorem s_faultsFault (t : List (List UInt8)) (l : List Flt) (hb : ∀ s ∈ t,s.length ≤ 1000000) (ht : t.length ≤ 1000000) (hf : ∀ f ∈ l,f.nets.length ≤ 1000000) (hn : l.length ≤ 1000000) : ACall X f_q01l [AStr t,AFlt l] h K = K (AI (allF t l)) h []:=by
  refine rule ?_
  rw [c_q01l rfl]
  have c:=fun h K=>s_CheckTest (h:=h) (K:=K) t hb ht
  unfold allF
  by_cases h1 : testF t = 0
  case neg=>simp only [d_q01l,go_sem,c,h1]
  simp only [d_q01l,go_sem,c,h1]
  refine N_loop (fun k : Nat=>⟨[(0,AStr t),(14,AFlt l),(15,AI l.length),(16,AI k)],h,[]⟩) (fun k=>k ≤ l.length ∧ fltsF (t.length : Int) (l.drop k) = fltsF (t.length : Int) l) (fun k=>l.length - k) 0 rfl ⟨by omega,by simp⟩ ?_
  rintro k ⟨hk,hp⟩
  rcases Nat.lt_or_ge k l.length with hlt | hge
  · have hg := map_get Flt.pv hlt
    have w2 : IntKind.i64.wrap ((k : Int) + 1) = ((k + 1 : Nat) : Int):=i64_wrap _ (by omega) (by omega)
    have e:=fun h K=>s_CheckFault (h:=h) (K:=K) (t.length : Int) l[k] (by omega) (hf _ (List.getElem_mem hlt))
    have cx:=flt_cut (f:=l[k])
    rw [List.drop_eq_getElem_cons hlt,fltsF] at hp
    simp only [Flt.pv] at hg cx e
    by_cases h2 : fltF (t.length : Int) l[k] = 0
    · rw [if_neg (by simp [h2])] at hp
      simp only [go_sem,hlt,hg,cx,e,h2,w2]
      exact ⟨k + 1,rfl,⟨by omega,hp⟩,by omega⟩
    · rw [if_pos h2] at hp
      simp only [go_sem,hlt,hg,cx,e,h2]
      rw [← hp]
  · have ek : k = l.length := by omega
    subst ek
    rw [List.drop_length] at hp
    simp only [go_sem,Nat.lt_irrefl]
    rw [← hp]; rfl
theorem s_FaultsFault (n : Int) (l : List Flt) (h0 : -1000000000000000 ≤ n) (hf : ∀ f ∈ l,f.nets.length ≤ 1000000) (hn : l.length ≤ 20000) : ACall X f_q04d [AI n,AFlt l] h K = K (AI (fltsF n l)) h []:=by
  refine rule ?_
  rw [c_q04d rfl]
  have h1 : ¬ (20000 : Int) < l.length:=by omega
  simp only [d_q04d,go_sem,h1]
  refine N_loop (fun k : Nat=>⟨[(0,AI n),(11,AFlt l),(12,AI l.length),(13,AI k)],h,[]⟩) (fun k=>k ≤ l.length ∧ fltsF n (l.drop k) = fltsF n l) (fun k=>l.length - k) 0 rfl ⟨by omega,by simp⟩ ?_
  rintro k ⟨hk,hp⟩
  rcases Nat.lt_or_ge k l.length with hlt | hge
  · have hg := map_get Flt.pv hlt
    have w2 : IntKind.i64.wrap ((k : Int) + 1) = ((k + 1 : Nat) : Int):=i64_wrap _ (by omega) (by omega)
    have e:=fun h K=>s_FaultFault (h:=h) (K:=K) n l[k] (by omega) (hf _ (List.getElem_mem hlt))
    have cx:=flt_cut (f:=l[k])
    rw [List.drop_eq_getElem_cons hlt,fltsF] at hp
    simp only [Flt.pv] at hg cx e
    by_cases h2 : fltF n l[k] = 0
    · rw [if_neg (by simp [h2])] at hp
      simp only [go_sem,hlt,hg,cx,e,h2,w2]
      exact ⟨k + 1,rfl,⟨by omega,hp⟩,by omega⟩
    · rw [if_pos h2] at hp
      simp only [go_sem,hlt,hg,cx,e,h2]
      rw [← hp]
  · have ek : k = l.length := by omega
    subst ek
    rw [List.drop_length] at hp
    simp only [go_sem,Nat.lt_irrefl]
    rw [← hp]; rfl
end Go.Am
end
section
/- Rows of a test asv numbers. -/
open Go
set_option linter.all false
namespace Go.Am
variable {h : Heap} {K : Post}
abbrev eU (n : Nat) : PV:=.int .u64 (n : Int)
theorem testL_ok {lg : Nat} : ∀ {t : List (List UInt8)},testL lg t = 0 → ∀ s ∈ t,bitsB s = true ∧ s.length = lg ∧ s.length ≤ 64
  | [],_,s,hs=>by cases hs
  | a :: r,h,s,hs=>by
    unfold testL at h
    split at h
    · cases h
    split at h
    · cases h
    split at h
    · cases h
    rename_i h1 h2 h3
    rcases List.mem_cons.1 hs with rfl | hs
    · exact ⟨by simpa using h1,by simpa using h3,by omega⟩
    · exact testL_ok h s hs
structure TestOk (t : List (List UInt8)) (lg : Nat) : Prop where
  n0 : 0 < t.length
  n1 : t.length ≤ 100
  l : lg ≤ 64
  b : ∀ s ∈ t,bitsB s = true
  e : ∀ s ∈ t,s.length = lg
theorem testF_ok {t : List (List UInt8)} (h : testF t = 0) : TestOk t (t.headD []).length:=by
  unfold testF at h
  split at h
  · cases h
  split at h
  · cases h
  have k:=testL_ok h
  have hm : t.headD [] ∈ t:=by
    cases t with
    | nil=>rename_i h0 _; exact absurd rfl h0
    | cons a r=>exact List.mem_cons_self ..
  exact ⟨by omega,by omega,(k _ hm).2.2,fun s hs=>(k s hs).1,fun s hs=>(k s hs).2.1⟩
theorem s_rows (t : List (List UInt8)) (hb : ∀ s ∈ t,bitsB s = true) (hl : ∀ s ∈ t,s.length ≤ 64) (hn : t.length ≤ 1000000) : ACall X f_q01t [AStr t] h K = K (.own h.length t.length 0 t.length) (h ++ [.row none ((t.map rowN).map eU) 0]) []:=by
  refine rule ?_
  rw [c_q01t rfl]
  simp only [d_q01t,go_sem]
  refine N_loop (fun k : Nat=>⟨[(3,.own h.length k 0 k),(8,AStr t),(9,AI t.length),(10,AI k)],h ++ [.row none (((t.take k).map rowN).map eU) 0],[]⟩) (fun k=>k ≤ t.length) (fun k=>t.length - k) 0 rfl (by omega) ?_
  intro k hk
  rcases Nat.lt_or_ge k t.length with hlt | hge
  · have hg := map_get PV.str hlt
    have w2 : IntKind.i64.wrap ((k : Int) + 1) = ((k + 1 : Nat) : Int):=i64_wrap _ (by omega) (by omega)
    have b1:=hb _ (List.getElem_mem hlt)
    have l1:=hl _ (List.getElem_mem hlt)
    have cx : cutP none 0 (PV.str t[k]) = some (PV.str t[k]):=rfl
    simp only [go_sem,hlt,hg,cx]
    generalize hs : t[k] = s at *
    refine N_loop (fun i : Nat=>⟨[(3,.own h.length k 0 k),(5,AS s),(6,.p (eU (rowN (s.take i)))),(8,AStr t),(9,AI t.length),(10,AI k),(15,AI s.length),(16,AI i)],h ++ [.row none (((t.take k).map rowN).map eU) 0],[]⟩) (fun i=>i ≤ s.length) (fun i=>s.length - i) 0 rfl (by omega) ?_
    intro i hi
    rcases Nat.lt_or_ge i s.length with hlt2 | hge2
    · have g2 : s[i]? = some s[i] := List.getElem?_eq_getElem hlt2
      have w3 : IntKind.i64.wrap ((i : Int) + 1) = ((i + 1 : Nat) : Int):=i64_wrap _ (by omega) (by omega)
      have bt:=bit_at hlt2 b1
      have e1 : IntKind.u8.wrap ((s[i].toNat : Int) - 48) = ((s[i].toNat - 48 : Nat) : Int):=by
        rcases bt with e | e <;> rw [e] <;> rfl
      have hsm : s[i].toNat - 48 ≤ 1:=by rcases bt with e | e <;> rw [e] <;> decide
      have e2 : IntKind.u64.wrap ((s[i].toNat - 48 : Nat) : Int) = ((s[i].toNat - 48 : Nat) : Int):=u64w _ (by omega)
      have hp : (2 : Nat) ^ i ≤ 2 ^ 63:=Nat.pow_le_pow_right (by omega) (by omega)
      have hp2 : (2 : Nat) ^ 63 = 9223372036854775808:=rfl
      have hm : (s[i].toNat - 48) * 2 ^ i ≤ 1 * 2 ^ i:=Nat.mul_le_mul_right _ hsm
      have e3:=ishl_nat (a:=s[i].toNat - 48) (i:=i) (by omega) (by omega)
      have hr:=rowN_lt (s.take i) (bitsB_take i b1)
      rw [List.length_take,Nat.min_eq_left (by omega)] at hr
      have e4:=ior_nat (a:=rowN (s.take i)) (b:=(s[i].toNat - 48) * 2 ^ i) (by omega) (by omega)
      rw [rowN_take_succ hlt2 b1] at e4
      have hneg : ¬ ((i : Int) < 0):=by omega
      simp only [go_sem,hlt2,g2,e1,e2,e3,e4,w3,hneg]
      exact ⟨i + 1,rfl,by omega,by omega⟩
    · have ei : i = s.length := by omega
      subst ei
      have hmx : k + 1 ≤ maxSl:=by unfold maxSl; omega
      have hlen : (((t.take k).map rowN).map eU).length = k:=by simp; omega
      simp only [go_sem,Nat.lt_irrefl,List.take_length,w2,hmx,hlen]
      refine ⟨k + 1,?_,by omega,by omega⟩
      rw [List.take_succ_eq_append_getElem hlt,hs]
      simp
  · have ek : k = t.length := by omega
    subst ek
    simp only [go_sem,Nat.lt_irrefl,List.take_length]
    exact List.take_of_length_le (by simp)
theorem s_whole (n : Nat) (hn : n ≤ 64) : ACall X f_q01v [AI n] h K = K (.p (eU (2 ^ n - 1))) h []:=by
  refine rule ?_
  rw [c_q01v rfl]
  have hneg : ¬ ((n : Int) < 0):=by omega
  have hpos:=Nat.two_pow_pos n
  have e : IntKind.u64.wrap (ishl .u64 1 (n : Int) - 1) = ((2 ^ n - 1 : Nat) : Int):=by
    by_cases h64 : n = 64
    · subst h64; rfl
    · have hp : (2 : Nat) ^ n ≤ 2 ^ 63 := Nat.pow_le_pow_right (by omega) (by omega)
      have hp2 : (2 : Nat) ^ 63 = 9223372036854775808:=rfl
      have:=ishl_nat (a:=1) (i:=n) hn (by omega)
      rw [Nat.one_mul] at this
      rw [show ((1 : Nat) : Int) = 1 from rfl] at this
      rw [this,show ((2 ^ n : Nat) : Int) - 1 = ((2 ^ n - 1 : Nat) : Int) by omega]
      exact u64w _ (by omega)
  simp only [d_q01v,go_sem,hneg,e]
end Go.Am
end
section
/- Faults on rows: what the program makes of them. -/
open Go
set_option linter.all false
namespace Go.Am
variable {h : Heap} {K : Post}
theorem set_app_get {h t : Heap} {id : Nat} (hid : id < h.length) (o : Obj) : (h.set id o ++ t)[id]? = some o:=by
  rw [List.getElem?_append_left (by simpa using hid)]; exact set_get' hid
theorem set_app_set {h t : Heap} {id : Nat} (hid : id < h.length) (o o' : Obj) : (h.set id o ++ t).set id o' = h.set id o' ++ t:=by
  rw [List.set_append_left _ _ (by simpa using hid),List.set_set]
theorem set_app_take {h t : Heap} {id : Nat} (o : Obj) : (h.set id o ++ t).take h.length = h.set id o:=by
  have : h.length = (h.set id o).length:=by simp
  rw [this,List.take_left]
theorem set_app_box {h : Heap} {id : Nat} (o b : Obj) : (h.set id o ++ [b])[h.length]? = some b:=by
  have : h.length = (h.set id o).length:=by simp
  rw [this,app_get0]; rfl
theorem fold_take {f : Nat → Int → Nat} {v : Nat} {l : List Int} {k : Nat} (hk : k < l.length) : (l.take (k + 1)).foldl f v = f ((l.take k).foldl f v) l[k]:=by
  rw [List.take_succ_eq_append_getElem hk,List.foldl_append]; rfl
theorem rowAt_get {r : List Nat} {n : Int} (h0 : 0 ≤ n) (h1 : n < r.length) : (r.map eU)[n.toNat]? = some (eU (rowAt r n)):=by
  rw [map_get eU (show n.toNat < r.length by omega)]
  unfold rowAt
  simp [List.getD_eq_getElem?_getD,List.getElem?_eq_getElem (show n.toNat < r.length by omega)]
def NetsIn (ns : List Int) (n : Nat) : Prop:=ns ≠ [] ∧ ns.length ≤ 1000 ∧ ∀ x ∈ ns,0 ≤ x ∧ x < n
theorem with_k5 (f : Flt) (r : List Nat) (v : Nat) (hf : NetsIn f.nets r.length) {id : Nat} (hid : id < h.length) (hr : r.length ≤ 1000000) {K : Ex → St → Prop}
    (hK : ∀ e,K .normal ⟨e,h.set id (.row none ((setNs v f.nets r).map eU) 0) ++ [.box [AI f.kind,AL f.nets]],[]⟩) :
    d_q01w_k5 (ACall X) X.gl p_q01w_k4 (.own id r.length 0 r.length) (.ref h.length 0) (.p (eU v)) (h.set id (.row none (r.map eU) 0) ++ [.box [AI f.kind,AL f.nets]]) [] K:=by
  have sg:=fun o=>set_app_get (t:=[.box [AI f.kind,AL f.nets]]) hid o
  have ss:=fun o o'=>set_app_set (t:=[.box [AI f.kind,AL f.nets]]) hid o o'
  have sb:=fun o=>set_app_box (h:=h) (id:=id) o (.box [AI f.kind,AL f.nets])
  simp only [d_q01w_k5,go_sem,sb]
  refine N_loop (fun k : Nat=>⟨[(0,.own id r.length 0 r.length),(6,.p (eU v)),(61,AL f.nets),(62,AI f.nets.length),(63,AI k)],h.set id (.row none ((setNs v (f.nets.take k) r).map eU) 0) ++ [.box [AI f.kind,AL f.nets]],[]⟩) (fun k=>k ≤ f.nets.length) (fun k=>f.nets.length - k) 0 rfl (by omega) ?_
  intro k hk
  rcases Nat.lt_or_ge k f.nets.length with hlt | hge
  · have hg := map_get eI hlt
    have hn:=hf.2.2 _ (List.getElem_mem hlt)
    have w2 : IntKind.i64.wrap ((k : Int) + 1) = ((k + 1 : Nat) : Int):=i64_wrap _ (by have:=hf.2.1; omega) (by have:=hf.2.1; omega)
    have e4:=natOf_int (k:=.i64) hn.1
    have hl:=setNs_len v (f.nets.take k) r
    have hs : setNs v (f.nets.take (k + 1)) r = (setNs v (f.nets.take k) r).set f.nets[k].toNat v:=by rw [List.take_succ_eq_append_getElem hlt,setNs_snoc]
    have hlt3 : f.nets[k].toNat < r.length:=by omega
    have gq : ((setNs v (f.nets.take k) r).map eU)[f.nets[k].toNat]? = some (eU ((setNs v (f.nets.take k) r).getD f.nets[k].toNat 0)):=by
      rw [map_get eU (by rw [hl]; exact hlt3)]
      simp [List.getD_eq_getElem?_getD,List.getElem?_eq_getElem (show f.nets[k].toNat < (setNs v (f.nets.take k) r).length by rw [hl]; exact hlt3)]
    generalize setNs v (f.nets.take k) r = R at *
    generalize f.nets[k] = m at *
    simp only [go_sem,hlt,hg,e4,sg,ss,hl,hlt3,w2,gq]
    refine ⟨k + 1,?_,by omega,by omega⟩
    rw [hs,List.map_set]
  · have ek : k = f.nets.length := by omega
    subst ek
    simp only [go_sem,Nat.lt_irrefl,List.take_length]
    exact hK _
attribute [-go_sem] d_q01w_k5
theorem with_val (f : Flt) (r : List Nat) (hf : NetsIn f.nets r.length) {id : Nat} (hid : id < h.length) (hr : r.length ≤ 1000000) (hb : ∀ x ∈ r,x < 18446744073709551616) (ones : Nat) :
    ACall X f_q01w [.own id r.length 0 r.length,.p f.pv,.p (eU ones)] (h.set id (.row none (r.map eU) 0)) K = K (.tup []) (h.set id (.row none ((fwithN r f ones).map eU) 0)) []:=by
  refine rule ?_
  rw [c_q01w]
  have sg:=fun (t : Heap) o=>set_app_get (t:=t) hid o
  have sb:=fun o c=>set_app_box (h:=h) (id:=id) o c
  have st:=fun (t : Heap) o=>set_app_take (h:=h) (id:=id) (t:=t) o
  have h0 : 0 < f.nets.length:=by have:=hf.1; exact List.length_pos_iff.2 this
  have hhd : f.nets.headD 0 ∈ f.nets:=by
    cases hq : f.nets with
    | nil=>rw [hq] at h0; cases h0
    | cons a l=>simp
  have hn:=hf.2.2 _ hhd
  have g0:=head_get h0
  have e4:=natOf_int (k:=.i64) hn.1
  have hlt3 : (f.nets.headD 0).toNat < r.length:=by omega
  have gq:=rowAt_get (r:=r) hn.1 hn.2
  have W:=fun v K hK=>with_k5 (h:=h) f r v hf hid hr (K:=K) hK
  have fin : ∀ v,(d_q01w_k5 (ACall X) X.gl p_q01w_k4 (.own id r.length 0 r.length) (.ref h.length 0) (.p (eU v)) (h.set id (.row none (r.map eU) 0) ++ [.box [AI f.kind,AL f.nets]]) [] (finR [] false h.length fun v1 h1 x1=>v1 = AV.tup [] ∧ h1 = h.set id (.row none ((fwithN r f ones).map eU) 0) ∧ x1 = [])) ∨ v ≠ fvalN r f ones:=by
    intro v
    by_cases hv : v = fvalN r f ones
    · left
      refine W v _ (fun e=>?_)
      subst hv
      simp only [go_sem,st]
      rfl
    · right; exact hv
  have fin2 : ∀ v,v = fvalN r f ones → d_q01w_k5 (ACall X) X.gl p_q01w_k4 (.own id r.length 0 r.length) (.ref h.length 0) (.p (eU v)) (h.set id (.row none (r.map eU) 0) ++ [.box [AI f.kind,AL f.nets]]) [] (finR [] false h.length fun v1 h1 x1=>v1 = AV.tup [] ∧ h1 = h.set id (.row none ((fwithN r f ones).map eU) 0) ∧ x1 = []):=fun v hv=>(fin v).resolve_right (fun h=>h hv)
  clear fin W
  have hbq : ∀ n,rowAt r n < 18446744073709551616:=rowAt_lt hb (by omega)
  by_cases k1 : f.kind = 1
  · simp only [d_q01w, Flt.pv, go_sem, sg, sb, g0, e4, hlt3, gq, k1, List.length_set]
    simp only [k1] at fin2
    exact fin2 0 (by simp [fvalN,k1])
  by_cases k2 : f.kind = 2
  · simp only [d_q01w, Flt.pv, go_sem, sg, sb, g0, e4, hlt3, gq, k2, List.length_set]
    simp only [k2] at fin2
    exact fin2 ones (by simp [fvalN,k2])
  by_cases k6 : f.kind = 6
  · simp only [d_q01w, Flt.pv, go_sem, sg, sb, g0, e4, hlt3, gq, k6, List.length_set]
    simp only [k6] at fin2
    exact fin2 ones (by simp [fvalN,k6])
  by_cases k3 : f.kind = 3
  · simp only [d_q01w, Flt.pv, go_sem, sg, sb, g0, e4, hlt3, gq, k3, List.length_set]
    refine N_loop (fun k : Nat=>⟨[(0,.own id r.length 0 r.length),(4,.ref h.length 0),(6,.p (eU ((f.nets.take k).foldl (fun v n=>v &&& rowAt r n) (rowAt r (f.nets.headD 0))))),(31,AL f.nets),(32,AI f.nets.length),(33,AI k)],h.set id (.row none (r.map eU) 0) ++ [.box [AI 3,AL f.nets]],[]⟩) (fun k=>k ≤ f.nets.length) (fun k=>f.nets.length - k) 0 rfl (by omega) ?_
    intro k hk
    rcases Nat.lt_or_ge k f.nets.length with hlt | hge
    · have hg := map_get eI hlt
      have hnk:=hf.2.2 _ (List.getElem_mem hlt)
      have w2 : IntKind.i64.wrap ((k : Int) + 1) = ((k + 1 : Nat) : Int):=i64_wrap _ (by have:=hf.2.1; omega) (by have:=hf.2.1; omega)
      have e5:=natOf_int (k:=.i64) hnk.1
      have gk:=rowAt_get (r:=r) hnk.1 hnk.2
      have hlt4 : (f.nets[k]).toNat < r.length:=by omega
      have hfo:=fold_take (f:=fun v n=>v &&& rowAt r n) (v:=rowAt r (f.nets.headD 0)) hlt
      have hbd : (f.nets.take k).foldl (fun v n=>v &&& rowAt r n) (rowAt r (f.nets.headD 0)) < 18446744073709551616:=foldl_bdN (f:=(· &&& ·)) (fun a b ha hb=>by rw [← pow64] at *; exact Nat.lt_of_le_of_lt Nat.and_le_left ha) (rowAt r) hbq _ _ (hbq _)
      generalize (f.nets.take k).foldl (fun v n=>v &&& rowAt r n) (rowAt r (f.nets.headD 0)) = v at *
      have e6:=iand_nat hbd (hbq f.nets[k])
      generalize f.nets[k] = m at *
      simp only [go_sem,hlt,hg,sg,e5,gk,hlt4,e6,w2]
      exact ⟨k + 1,by rw [hfo],by omega,by omega⟩
    · have ek : k = f.nets.length := by omega
      subst ek
      simp only [go_sem,Nat.lt_irrefl,List.take_length]
      simp only [k3] at fin2
      exact fin2 _ (by simp [fvalN,k3])
  by_cases k4 : f.kind = 4
  · simp only [d_q01w, Flt.pv, go_sem, sg, sb, g0, e4, hlt3, gq, k4, List.length_set]
    refine N_loop (fun k : Nat=>⟨[(0,.own id r.length 0 r.length),(4,.ref h.length 0),(6,.p (eU ((f.nets.take k).foldl (fun v n=>v ||| rowAt r n) (rowAt r (f.nets.headD 0))))),(47,AL f.nets),(48,AI f.nets.length),(49,AI k)],h.set id (.row none (r.map eU) 0) ++ [.box [AI 4,AL f.nets]],[]⟩) (fun k=>k ≤ f.nets.length) (fun k=>f.nets.length - k) 0 rfl (by omega) ?_
    intro k hk
    rcases Nat.lt_or_ge k f.nets.length with hlt | hge
    · have hg := map_get eI hlt
      have hnk:=hf.2.2 _ (List.getElem_mem hlt)
      have w2 : IntKind.i64.wrap ((k : Int) + 1) = ((k + 1 : Nat) : Int):=i64_wrap _ (by have:=hf.2.1; omega) (by have:=hf.2.1; omega)
      have e5:=natOf_int (k:=.i64) hnk.1
      have gk:=rowAt_get (r:=r) hnk.1 hnk.2
      have hlt4 : (f.nets[k]).toNat < r.length:=by omega
      have hfo:=fold_take (f:=fun v n=>v ||| rowAt r n) (v:=rowAt r (f.nets.headD 0)) hlt
      have hbd : (f.nets.take k).foldl (fun v n=>v ||| rowAt r n) (rowAt r (f.nets.headD 0)) < 18446744073709551616:=foldl_bdN (f:=(· ||| ·)) (fun a b ha hb=>by rw [← pow64] at *; exact Nat.or_lt_two_pow ha hb) (rowAt r) hbq _ _ (hbq _)
      generalize (f.nets.take k).foldl (fun v n=>v ||| rowAt r n) (rowAt r (f.nets.headD 0)) = v at *
      have e6:=ior_nat hbd (hbq f.nets[k])
      generalize f.nets[k] = m at *
      simp only [go_sem,hlt,hg,sg,e5,gk,hlt4,e6,w2]
      exact ⟨k + 1,by rw [hfo],by omega,by omega⟩
    · have ek : k = f.nets.length := by omega
      subst ek
      simp only [go_sem,Nat.lt_irrefl,List.take_length]
      simp only [k4] at fin2
      exact fin2 _ (by simp [fvalN,k4])
  · simp only [d_q01w, Flt.pv, go_sem, sg, sb, g0, e4, hlt3, gq, k1, k2, k3, k4, k6, List.length_set]
    exact fin2 _ (by simp [fvalN,k1,k2,k3,k4,k6])
end Go.Am
end
section
/- Rows that are handed to a function: it sees their values. -/
open Go
namespace Go.Am
theorem arg_pur {X : Ctx} {f : Nat} {F : AFun} {a : List AV} {vs : List PV} {h h1 : Heap} {P : Post} (hf : X.fn f = some F) (hr : F.byref = false) (hp : puras h a = some (vs.map .p,h1)) (hq : puras h1 (vs.map .p) = some (vs.map .p,h1)) (hl : vs.length = F.nparams) (hlen : h1.length = h.length) : ACall X f a h P = ACall X f (vs.map .p) h1 P:=by
  cases hd : F.isDet with
  | false=>rw [call_val hf hr hp (by simpa using hl) hd,call_val hf hr hq (by simpa using hl) hd,hlen]
  | true=>rw [call_val_det hf hr hp (by simpa using hl) hd,call_val_det hf hr hq (by simpa using hl) hd,hlen]
theorem frz_len {h : Heap} {id k : Nat} : (frz h id k).length = h.length:=by
  unfold frz
  split <;> simp
end Go.Am
end
section
/- Responses,asv the program computes them. -/
open Go
set_option linter.all false
namespace Go.Am
variable {h : Heap} {K : Post}
theorem s_with (f : Flt) (r : List Nat) (hf : NetsIn f.nets r.length) {id : Nat} (hh : h[id]? = some (.row none (r.map eU) 0)) (hr : r.length ≤ 1000000) (hb : ∀ x ∈ r,x < 18446744073709551616) (ones : Nat) :
    ACall X f_q01w [.own id r.length 0 r.length,.p f.pv,.p (eU ones)] h K = K (.tup []) (h.set id (.row none ((fwithN r f ones).map eU) 0)) []:=by
  have:=with_val (h:=h) (K:=K) f r hf (get_lt hh) hr hb ones
  rw [set_self hh] at this
  exact this
theorem toB_map : ∀ s : List UInt8,toBytes (bytesP s) = some s
  | []=>rfl
  | c :: r=>by
    show toBytes (.int .u8 c.toNat :: bytesP r) = _
    unfold toBytes
    have : ((c.toNat : Int)) < 256:=by have:=c.toNat_lt; omega
    rw [if_pos ⟨by omega,this⟩,toB_map r]
    simp
theorem bit48 (b : Bool) : ((bitC b).toNat : Int) = 48 + ((if b = true then 1 else 0 : Nat) : Int):=by cases b <;> rfl
theorem textN_take_succ (k long n : Nat) : textN (k + 1) n = textN k n ++ [bitC (n.testBit k)]:=by
  unfold textN; rw [List.range_succ,List.map_append]; rfl
theorem s_texts (r : List Nat) (long : Nat) (hl : long ≤ 64) (hn : r.length ≤ 1000000) (hb : ∀ x ∈ r,x < 18446744073709551616) :
    ACall X f_q01u [.p (.sl none (r.map eU)),AI long] h K = K (AStr (r.map (textN long))) h []:=by
  refine rule ?_
  rw [c_q01u rfl]
  simp only [d_q01u,go_sem]
  refine N_loop (fun k : Nat=>⟨[(1,AI long),(5,.own h.length k 0 k),(10,.p (.sl none (r.map eU))),(11,AI r.length),(12,AI k)],h ++ [.row none (((r.take k).map (textN long)).map PV.str) 0],[]⟩) (fun k=>k ≤ r.length) (fun k=>r.length - k) 0 rfl (by omega) ?_
  intro k hk
  rcases Nat.lt_or_ge k r.length with hlt | hge
  · have hg := map_get eU hlt
    have hx:=hb _ (List.getElem_mem hlt)
    have w2 : IntKind.i64.wrap ((k : Int) + 1) = ((k + 1 : Nat) : Int):=i64_wrap _ (by omega) (by omega)
    have hsn : (r.take (k + 1)).map (textN long) = (r.take k).map (textN long) ++ [textN long r[k]]:=by rw [List.take_succ_eq_append_getElem hlt,List.map_append]; rfl
    have hlen : (((r.take k).map (textN long)).map PV.str).length = k:=by simp; omega
    generalize ((r.take k).map (textN long)) = T at *
    generalize r[k] = n at *
    have hmx : long ≤ maxSl:=by unfold maxSl; omega
    have hmk : k + 1 ≤ maxSl:=by unfold maxSl; omega
    have hsz : PV.shp none (.int .u8 0) = true:=rfl
    simp only [go_sem,hlt,hg,hmx,hsz]
    refine N_loop (fun i : Nat=>⟨[(1,AI long),(5,.own h.length k 0 k),(7,.p (eU n)),(8,.own (h.length + 1) long 0 long),(10,.p (.sl none (r.map eU))),(11,AI r.length),(12,AI k),(19,AI long),(20,AI i)],h ++ [.row none (T.map PV.str) 0,.row none (bytesP (textN i n) ++ List.replicate (long - i) (.int .u8 0)) 0],[]⟩) (fun i=>i ≤ long) (fun i=>long - i) 0 rfl (by omega) ?_
    intro i hi
    rcases Nat.lt_or_ge i long with hlt2 | hge2
    · have w3 : IntKind.i64.wrap ((i : Int) + 1) = ((i + 1 : Nat) : Int) := i64_wrap _ (by omega) (by omega)
      have e1:=ishr_nat (a:=n) (i:=i) (by omega)
      have hd : n / 2 ^ i < 18446744073709551616:=Nat.lt_of_le_of_lt (Nat.div_le_self _ _) hx
      have e2:=iand_nat (a:=n / 2 ^ i) (b:=1) hd (by omega)
      rw [and_one] at e2
      have e3 : IntKind.u64.wrap (48 + ((if n.testBit i = true then 1 else 0 : Nat) : Int)) = ((bitC (n.testBit i)).toNat : Int):=by
        rw [← bit48]; cases n.testBit i <;> rfl
      have e4 : IntKind.u8.wrap ((bitC (n.testBit i)).toNat : Int) = ((bitC (n.testBit i)).toNat : Int):=by cases n.testBit i <;> rfl
      have hneg : ¬ ((i : Int) < 0):=by omega
      have hbl : (bytesP (textN i n)).length = i:=by simp [bytesP,textN]
      have hlr : (bytesP (textN i n) ++ List.replicate (long - i) (PV.int .u8 0)).length = long:=by rw [List.length_append,hbl,List.length_replicate]; omega
      have hgr : (bytesP (textN i n) ++ List.replicate (long - i) (PV.int .u8 0))[i]? = some (.int .u8 0):=by
        rw [List.getElem?_append_right (by omega),hbl,Nat.sub_self,List.getElem?_replicate]
        simp; omega
      have hst : (bytesP (textN i n) ++ List.replicate (long - i) (PV.int .u8 0)).set i (.int .u8 (bitC (n.testBit i)).toNat) = bytesP (textN (i + 1) n) ++ List.replicate (long - (i + 1)) (PV.int .u8 0):=by
        rw [List.set_append_right _ _ (by omega),hbl,Nat.sub_self]
        obtain ⟨m,hm⟩ : ∃ m,long - i = m + 1:=⟨long - i - 1,by omega⟩
        rw [hm,List.replicate_succ,List.set_cons_zero,show long - (i + 1) = m by omega,textN_take_succ i long n]
        simp [bytesP]
      rw [show ((1 : Nat) : Int) = 1 from rfl] at e2
      simp only [go_sem,hlt2,e1,hneg,e2,e3,e4,hlr,hgr,w3,hst]
      exact ⟨i + 1,rfl,by omega,by omega⟩
    · have ei : i = long := by omega
      subst ei
      have hbl : (bytesP (textN i n)).length = i:=by simp [bytesP,textN]
      have hwf : win (bytesP (textN i n)) 0 i = bytesP (textN i n):=win_full (by omega)
      have tb:=toB_map (textN i n)
      simp only [go_sem,Nat.lt_irrefl,Nat.sub_self,List.replicate_zero,List.append_nil,rd,hbl,hwf,tb,aconv,rds,hmk,hlen,w2]
      refine ⟨k + 1,?_,by omega,by omega⟩
      rw [hsn]
      simp
  · have ek : k = r.length := by omega
    subst ek
    simp only [go_sem,Nat.lt_irrefl,List.take_length]
    rw [win_full (by simp)]
theorem s_textsOwn (r : List Nat) (long : Nat) (hl : long ≤ 64) (hn : r.length ≤ 1000000) (hb : ∀ x ∈ r,x < 18446744073709551616) {id : Nat} (hh : h[id]? = some (.row none (r.map eU) 0)) :
    ACall X f_q01u [.own id r.length 0 r.length,AI long] h K = K (AStr (r.map (textN long))) (frz h id r.length) []:=by
  have e:=arg_pur (X:=X) (f:=f_q01u) (F:=a_q01u) (a:=[.own id r.length 0 r.length,AI long]) (vs:=[.sl none (r.map eU),.int .i64 long]) (h:=h) (h1:=frz h id r.length) (P:=K) x_q01u rfl
    (by
      have : win (r.map eU) 0 r.length = r.map eU:=win_full (by simp)
      simp [puras,pur,rd,hh,this]) rfl rfl frz_len
  rw [e]
  exact s_texts r long hl hn hb
theorem fltF_ok {n : Int} {f : Flt} (h : fltF n f = 0) : f.nets ≠ [] ∧ f.nets.length ≤ 6 ∧ (∀ x ∈ f.nets,0 ≤ x ∧ x < n) ∧ 1 ≤ f.kind ∧ f.kind ≤ 6 ∧ shortK f.kind = decide (1 < f.nets.length):=by
  unfold fltF at h
  split at h
  · cases h
  split at h
  · cases h
  split at h
  · cases h
  split at h
  · cases h
  split at h
  · cases h
  split at h
  · cases h
  rename_i h1 h2 h3 h4 h5 h6
  refine ⟨fun e=>h3 (by rw [e]; rfl),by omega,fun x hx=>?_,by omega,by omega,Decidable.not_not.1 h6⟩
  have : outN n x = false:=by
    cases hq : outN n x with
    | false=>rfl
    | true=>exact absurd (List.any_eq_true.2 ⟨x,hx,hq⟩) h5
  unfold outN at this
  rw [Bool.or_eq_false_iff,decide_eq_false_iff_not,decide_eq_false_iff_not] at this
  omega
theorem fltF_in {n : Nat} {f : Flt} (h : fltF n f = 0) : NetsIn f.nets n:=by
  obtain ⟨h1,h2,h3,_⟩:=fltF_ok h
  exact ⟨h1,by omega,h3⟩
theorem fltsF_ok {n : Int} : ∀ {l : List Flt},fltsF n l = 0 → ∀ f ∈ l,fltF n f = 0
  | [],_,f,hf=>by cases hf
  | g :: r,h,f,hf=>by
    unfold fltsF at h
    split at h
    · rename_i h1; exact absurd h h1
    · rename_i h1
      rcases List.mem_cons.1 hf with rfl | hf
      · exact Decidable.not_not.1 h1
      · exact fltsF_ok h f hf
def foldN (lg : Nat) (r : List Nat) (l : List Flt) : List Nat:=l.foldl (fun r f=>fwithN r f (2 ^ lg - 1)) r
theorem foldN_len (lg : Nat) : ∀ (l : List Flt) (r : List Nat),(foldN lg r l).length = r.length
  | [],r=>rfl
  | f :: l,r=>by
    unfold foldN
    rw [List.foldl_cons]
    exact (foldN_len lg l _).trans (fwithN_len _ _ _)
theorem ones_lt (lg : Nat) : 2 ^ lg - 1 < 2 ^ lg:=by have:=Nat.two_pow_pos lg; omega
theorem foldN_lt {lg : Nat} : ∀ (l : List Flt) (r : List Nat),(∀ x ∈ r,x < 2 ^ lg) → ∀ x ∈ foldN lg r l,x < 2 ^ lg
  | [],r,h=>h
  | f :: l,r,h=>by
    unfold foldN
    rw [List.foldl_cons]
    exact foldN_lt l _ (fwithN_lt h (ones_lt lg))
theorem foldN_take {lg : Nat} {r : List Nat} {l : List Flt} {k : Nat} (hk : k < l.length) : foldN lg r (l.take (k + 1)) = fwithN (foldN lg r (l.take k)) l[k] (2 ^ lg - 1):=by
  unfold foldN
  rw [List.take_succ_eq_append_getElem hk,List.foldl_append]; rfl
def combT (t : List (List UInt8)) (l : List Flt) : List (List UInt8):=(foldN (t.headD []).length (t.map rowN) l).map (textN (t.headD []).length)
def combV (t : List (List UInt8)) (l : List Flt) : AV:=if allF t l ≠ 0 then .tup [.p (.sl none []),AI (allF t l)] else .tup [AStr (combT t l),AI 0]
theorem le64 {lg : Nat} (h : lg ≤ 64) : 2 ^ lg ≤ 18446744073709551616:=by rw [← pow64]; exact Nat.pow_le_pow_right (by omega) h
theorem rows_lt {t : List (List UInt8)} {lg : Nat} (T : TestOk t lg) : ∀ x ∈ t.map rowN,x < 2 ^ lg:=by
  intro x hx
  obtain ⟨s,hs,rfl⟩:=List.mem_map.1 hx
  have:=rowN_lt s (T.b s hs)
  rwa [T.e s hs] at this
theorem s_Combined (t : List (List UInt8)) (l : List Flt) (hb : ∀ s ∈ t,s.length ≤ 1000000) (ht : t.length ≤ 1000000) (hf : ∀ f ∈ l,f.nets.length ≤ 1000000) (hn : l.length ≤ 1000000) :
    ACall X f_q015 [AStr t,AFlt l] h K = K (combV t l) h []:=by
  refine rule ?_
  rw [c_q015 rfl]
  have c:=fun h K=>s_faultsFault (h:=h) (K:=K) t l hb ht hf hn
  unfold combV
  by_cases h1 : allF t l = 0
  case neg=>simp only [d_q015,go_sem,c,h1]
  have hT : testF t = 0:=by unfold allF at h1; split at h1 <;> simp_all
  have hF : fltsF t.length l = 0:=by unfold allF at h1; rw [if_neg (by simp [hT])] at h1; exact h1
  have T:=testF_ok hT
  have F:=fltsF_ok hF
  unfold combT
  generalize hlg : (t.headD []).length = lg at *
  have R:=fun h K=>s_rows (h:=h) (K:=K) t T.b (fun s hs=>by rw [T.e s hs]; exact T.l) (by have:=T.n1; omega)
  have r0:=rows_lt T
  have hz : (t.map PV.str)[0]? = some (.str (t.headD [])):=by
    cases t with
    | nil=>exact absurd T.n0 (by simp)
    | cons a r=>rfl
  have wh:=fun h K=>s_whole (h:=h) (K:=K) lg T.l
  have l64:=le64 T.l
  simp only [d_q015,go_sem,c,h1,R]
  have hfl : ∀ k,((foldN lg (t.map rowN) (l.take k)).length = t.length):=fun k=>by rw [foldN_len,List.length_map]
  refine N_loop (fun k : Nat=>⟨[(0,AStr t),(7,.own h.length t.length 0 t.length),(18,AFlt l),(19,AI l.length),(20,AI k)],h ++ [.row none ((foldN lg (t.map rowN) (l.take k)).map eU) 0],[]⟩) (fun k=>k ≤ l.length) (fun k=>l.length - k) 0 rfl (by omega) ?_
  intro k hk
  rcases Nat.lt_or_ge k l.length with hlt | hge
  · have hg := map_get Flt.pv hlt
    have w2 : IntKind.i64.wrap ((k : Int) + 1) = ((k + 1 : Nat) : Int):=i64_wrap _ (by omega) (by omega)
    have cx:=flt_cut (f:=l[k])
    have rl:=hfl k
    have rb:=foldN_lt (l.take k) _ r0
    have hs:=foldN_take (lg:=lg) (r:=t.map rowN) hlt
    have hni:=fltF_in (F _ (List.getElem_mem hlt))
    generalize foldN lg (t.map rowN) (l.take k) = r at *
    have W:=fun (g : Heap) (K : Post)=>s_with (h:=h ++ .row none (r.map eU) 0 :: g) (K:=K) l[k] r (by rw [rl]; exact hni) (id:=h.length) (by rw [app_get0]; rfl) (by have:=T.n1; omega) (fun x hx=>Nat.lt_of_lt_of_le (rb x hx) l64) (2 ^ lg - 1)
    rw [rl] at W
    generalize l[k] = f at *
    simp only [Flt.pv] at hg cx W
    simp only [go_sem,hlt,hg,cx,hz,hlg,wh,w2,W]
    exact ⟨k + 1,by rw [hs],by omega,by omega⟩
  · have ek : k = l.length := by omega
    subst ek
    simp only [go_sem,Nat.lt_irrefl,List.take_length]
    have rl:=hfl l.length
    have rb:=foldN_lt l _ r0
    rw [List.take_length] at rl
    generalize foldN lg (t.map rowN) l = r at *
    have q:=fun K=>s_textsOwn (h:=h ++ [.row none (r.map eU) 0]) (K:=K) r lg T.l (by have:=T.n1; omega) (fun x hx=>Nat.lt_of_lt_of_le (rb x hx) l64) (id:=h.length) (by rw [app_get0]; rfl)
    rw [rl] at q
    simp only [go_sem,hz,hlg,q]
theorem s_Response (t : List (List UInt8)) (f : Flt) (hb : ∀ s ∈ t,s.length ≤ 1000000) (ht : t.length ≤ 1000000) (hf : f.nets.length ≤ 1000000) :
    ACall X f_q01e [AStr t,.p f.pv] h K = K (combV t [f]) h []:=by
  refine rule ?_
  rw [c_q01e rfl]
  have e:=fun h K=>s_Combined (h:=h) (K:=K) t [f] hb ht (fun g hg=>by rw [List.mem_singleton.1 hg]; exact hf) (by simp)
  simp only [AFlt,List.map_cons,List.map_nil,Flt.pv] at e
  have ev : ∃ a b,combV t [f] = .tup [.p a,.p b]:=by unfold combV; split <;> exact ⟨_,_,rfl⟩
  obtain ⟨a,b,ev⟩:=ev
  rw [ev] at e ⊢
  simp only [d_q01e,Flt.pv,go_sem,e]
end Go.Am
end
section
/- Faults written. -/
open Go
set_option linter.all false
namespace Go.Am
variable {h : Heap} {K : Post}
theorem s_faultWords : ACall X f_q053 [] h K = K (AStr wordsK) h []:=by
  refine rule ?_
  rw [c_q053 rfl]
  simp only [d_q053,go_sem]
  rfl
def faultLine (f : Flt) : List UInt8:=wordK f.kind ++ [32] ++ numsL f.nets ++ [10]
def faultLines (l : List Flt) : List UInt8:=(l.map faultLine).flatten
theorem fl_succ {l : List Flt} {k : Nat} (h : k < l.length) : faultLines (l.take (k + 1)) = faultLines (l.take k) ++ faultLine l[k]:=by
  unfold faultLines
  rw [List.take_succ,List.getElem?_eq_getElem h,List.map_append,List.flatten_append]
  simp
theorem fl_take (l : List Flt) (k : Nat) : (faultLines (l.take k)).length ≤ (faultLines l).length:=by
  conv=>rhs; rw [← List.take_append_drop k l]
  unfold faultLines
  rw [List.map_append,List.flatten_append,List.length_append]
  omega
attribute [-go_sem] e_q04c_k2
theorem s_FaultLines (l : List Flt) (hk : ∀ f ∈ l,0 ≤ f.kind ∧ f.kind ≤ 6) (hb : ∀ f ∈ l,∀ n ∈ f.nets,-1000000000000000000 ≤ n ∧ n ≤ 1000000000000000000) (hl : l.length ≤ 1000000) (hn : ∀ f ∈ l,f.nets.length ≤ 1000000) (ht : (faultLines l).length ≤ 1000000000) :
    ACall X f_q04c [AFlt l] h K = K (AS (faultLines l)) h []:=by
  refine rule ?_
  rw [c_q04c rfl]
  simp only [d_q04c,go_sem]
  refine N_loop (fun k : Nat=>⟨[(3,AS (faultLines (l.take k))),(6,AFlt l),(7,AI l.length),(8,AI k)],h,[]⟩) (fun k=>k ≤ l.length) (fun k=>l.length - k) 0 (by simp [faultLines]) (by omega) ?_
  intro k hkl
  rcases Nat.lt_or_ge k l.length with hlt | hge
  · have hg := map_get Flt.pv hlt
    have wk : IntKind.i64.wrap ((k : Int) + 1) = ((k + 1 : Nat) : Int):=i64_wrap _ (by omega) (by omega)
    have hm:=List.getElem_mem hlt
    obtain ⟨k1,k2⟩:=hk _ hm
    have n1:=hn _ hm
    have hs:=fl_succ hlt
    have ht2:=fl_take l (k + 1)
    have hll : (faultLine l[k]).length = (wordK l[k].kind).length + (numsL l[k].nets).length + 2:=by unfold faultLine; simp; omega
    rw [hs,List.length_append,hll] at ht2
    have n2 : (numsL l[k].nets).length ≤ 1000000000:=by omega
    have cz : cutP (some 2) 0 (Flt.pv l[k]) = some (Flt.pv l[k]):=rfl
    obtain ⟨kd,ns⟩ : ∃ f,f = l[k]:=⟨_,rfl⟩
    have q:=fun h K=>s_NumbersQ (h:=h) (K:=K) l[k].nets (hb _ hm) n1 n2
    have qw:=fun h K=>s_faultWords (h:=h) (K:=K)
    obtain ⟨kn,hkn⟩:=Int.eq_ofNat_of_zero_le k1
    have hw : (wordsK.map PV.str)[kn]? = some (.str (wordK l[k].kind)):=by
      have h6 : kn ≤ 6:=by omega
      unfold wordK
      rw [hkn]
      simp only [Int.toNat_natCast]
      match kn,h6 with
      | 0,_=>rfl
      | 1,_=>rfl
      | 2,_=>rfl
      | 3,_=>rfl
      | 4,_=>rfl
      | 5,_=>rfl
      | 6,_=>rfl
    have cw : cutP none 0 (PV.str (wordK l[k].kind)) = some (.str (wordK l[k].kind)):=rfl
    have fp : Flt.pv l[k] = .agg [eI l[k].kind,.sl none (l[k].nets.map eI)]:=rfl
    simp only [go_sem,hlt,hg,fp,hkn,↓qw,qw,↓q,q,hw,cw,wk]
    rw [hkn] at ht2
    have m0 : 1000000000 ≤ maxStr:=by unfold maxStr; omega
    rw [if_pos (by omega),if_pos (by omega),if_pos (by omega),if_pos (by omega)]
    refine ⟨k + 1,?_,by omega,by omega⟩
    rw [hs]
    unfold faultLine
    rw [hkn]
    simp
  · have hk' : k = l.length := by omega
    subst hk'
    rw [List.take_length]
    simp only [go_sem,Nat.lt_irrefl,decide_false]
    rw [e_q04c_k2]
    simp only [d_q04c_k2,go_sem]
theorem s_word (k : Int) (h1 : 1 ≤ k) (h2 : k ≤ 6) : ACall X f_q01x [AI k] h K = K (AS (wordK k)) h []:=by
  refine rule ?_
  rw [c_q01x rfl]
  obtain ⟨n,rfl⟩:=Int.eq_ofNat_of_zero_le (show 0 ≤ k by omega)
  have hn : 1 ≤ n ∧ n ≤ 6:=by omega
  match n,hn with
  | 1,_=>
    have w : IntKind.i64.wrap 0 = 0:=rfl
    simp only [d_q01x,go_sem,w]
    first | rfl | trivial
  | 2,_=>
    have w : IntKind.i64.wrap 1 = 1:=rfl
    simp only [d_q01x,go_sem,w]
    first | rfl | trivial
  | 3,_=>
    have w : IntKind.i64.wrap 2 = 2:=rfl
    simp only [d_q01x,go_sem,w]
    first | rfl | trivial
  | 4,_=>
    have w : IntKind.i64.wrap 3 = 3:=rfl
    simp only [d_q01x,go_sem,w]
    first | rfl | trivial
  | 5,_=>
    have w : IntKind.i64.wrap 4 = 4:=rfl
    simp only [d_q01x,go_sem,w]
    first | rfl | trivial
  | 6,_=>
    have w : IntKind.i64.wrap 5 = 5:=rfl
    simp only [d_q01x,go_sem,w]
    first | rfl | trivial
def tailN (ns : List Int) : List UInt8:=(ns.map fun n=>32 :: itoa n).flatten
theorem tailN_succ {ns : List Int} {k : Nat} (h : k < ns.length) : tailN (ns.take (k + 1)) = tailN (ns.take k) ++ 32 :: itoa ns[k]:=by
  unfold tailN
  rw [List.take_succ,List.getElem?_eq_getElem h,List.map_append,List.flatten_append]
  simp
theorem tailN_take (ns : List Int) (k : Nat) : (tailN (ns.take k)).length ≤ (tailN ns).length:=by
  conv=>rhs; rw [← List.take_append_drop k ns]
  unfold tailN
  rw [List.map_append,List.flatten_append,List.length_append]
  omega
theorem tailN_nums : ∀ (ns : List Int),ns ≠ [] → 32 :: numsL ns = tailN ns
  | [],h=>absurd rfl h
  | [a],_=>by simp [numsL,tailN,List.intercalate]
  | a :: b :: r,_=>by
    have ih:=tailN_nums (b :: r) (by simp)
    have e : numsL (a :: b :: r) = itoa a ++ 32 :: numsL (b :: r):=by
      unfold numsL
      simp [List.intercalate,List.intersperse]
    have e2 : tailN (a :: b :: r) = 32 :: itoa a ++ tailN (b :: r):=by simp [tailN]
    rw [e,e2,← ih]
    simp
theorem loop_nets {K' : Ex → St → Prop} (ns : List Int) (s0 : List UInt8) (v27 v28 v29 : AV) (l : Heap) (hb : ∀ n ∈ ns,-1000000000000000000 ≤ n ∧ n ≤ 1000000000000000000) (hl : ns.length ≤ 1000000) (ht : s0.length + (tailN ns).length ≤ 1000000000)
    (hK : K' (.exit 4) ⟨[(7,.ref h.length 0),(27,v27),(28,v28),(29,v29),(38,AL ns),(39,AI ns.length),(40,AI ns.length),(41,AB false)],bh h true (s0 ++ tailN ns) l,[]⟩) :
    NLoop (ACall X) X.gl p_q01g_k2 K' [(7,.ref h.length 0),(27,v27),(28,v28),(29,v29),(38,AL ns),(39,AI ns.length),(40,AI 0)] (bh h true s0 l) []:=by
  refine N_loop (fun k : Nat=>⟨[(7,.ref h.length 0),(27,v27),(28,v28),(29,v29),(38,AL ns),(39,AI ns.length),(40,AI k)],bh h true (s0 ++ tailN (ns.take k)) l,[]⟩) (fun k=>k ≤ ns.length) (fun k=>ns.length - k) 0 (by simp [tailN]) (by omega) ?_
  intro k hk
  rcases Nat.lt_or_ge k ns.length with hlt | hge
  · have hg := map_get eI hlt
    have cz : cutP none 0 (eI ns[k]) = some (eI ns[k]):=rfl
    have wk : IntKind.i64.wrap ((k : Int) + 1) = ((k + 1 : Nat) : Int):=i64_wrap _ (by omega) (by omega)
    have b:=hb _ (List.getElem_mem hlt)
    have q:=fun h K=>s_ItoaQ (h:=h) (K:=K) ns[k] b.1 b.2
    have hs:=tailN_succ hlt
    have ht2:=tailN_take ns (k + 1)
    have hll : (tailN (ns.take (k + 1))).length = (tailN (ns.take k)).length + ((itoa ns[k]).length + 1):=by rw [hs]; simp
    have m0 : 1000000000 ≤ maxStr:=by unfold maxStr; omega
    have m1 : (itoa ns[k]).length + 1 ≤ maxStr:=by omega
    have qw:=fun K=>s_WS (h:=h) (K:=K) (u:=true) (s:=s0 ++ tailN (ns.take k)) (t:=32 :: itoa ns[k]) (l:=l) (by simp; omega)
    simp only [go_sem,hlt,hg,cz,↓q,q,↓qw,qw,wk,m1]
    rw [if_pos (by omega)]
    exact ⟨k + 1,by rw [hs],by omega,by omega⟩
  · have hk' : k = ns.length := by omega
    subst hk'
    rw [List.take_length]
    simp only [go_sem,Nat.lt_irrefl,decide_false,hK]
attribute [-go_sem] e_q01g_k3 e_q01g_k4 e_q01g_k6
theorem faultLine_tail {f : Flt} (h : f.nets ≠ []) : faultLine f = wordK f.kind ++ tailN f.nets ++ [10]:=by
  unfold faultLine
  rw [← tailN_nums f.nets h]
  simp
theorem loop_faults {K' : Ex → St → Prop} {x : Esc} (fs : List Flt) (hk : ∀ f ∈ fs,1 ≤ f.kind ∧ f.kind ≤ 6) (hb : ∀ f ∈ fs,∀ n ∈ f.nets,-1000000000000000000 ≤ n ∧ n ≤ 1000000000000000000) (hl : fs.length ≤ 1000000) (hn : ∀ f ∈ fs,f.nets ≠ [] ∧ f.nets.length ≤ 1000000) (ht : (faultLines fs).length ≤ 1000000000)
    (hK : ∀ u,K' (.exit 2) ⟨[(7,.ref h.length 0),(27,AFlt fs),(28,AI fs.length),(29,AI fs.length),(30,AB false)],bh h u (faultLines fs) [],x⟩) :
    NLoop (ACall X) X.gl (.scope p_q01g_k5) K' [(7,.ref h.length 0),(27,AFlt fs),(28,AI fs.length),(29,AI 0)] (bh h false [] []) x:=by
  refine N_loop (fun k : Nat=>⟨[(7,.ref h.length 0),(27,AFlt fs),(28,AI fs.length),(29,AI k)],bh h (decide (0 < k)) (faultLines (fs.take k)) [],x⟩) (fun k=>k ≤ fs.length) (fun k=>fs.length - k) 0 (by simp [faultLines]) (by omega) ?_
  intro k hkl
  rcases Nat.lt_or_ge k fs.length with hlt | hge
  · have hg := map_get Flt.pv hlt
    have wk : IntKind.i64.wrap ((k : Int) + 1) = ((k + 1 : Nat) : Int):=i64_wrap _ (by omega) (by omega)
    have hm:=List.getElem_mem hlt
    obtain ⟨k1,k2⟩:=hk _ hm
    obtain ⟨n0,n1⟩:=hn _ hm
    have hs:=fl_succ hlt
    have ht2:=fl_take fs (k + 1)
    have hll : (faultLine fs[k]).length = (wordK fs[k].kind).length + (tailN fs[k].nets).length + 1:=by rw [faultLine_tail n0]; simp; omega
    rw [hs,List.length_append,hll] at ht2
    have fp : Flt.pv fs[k] = .agg [eI fs[k].kind,.sl none (fs[k].nets.map eI)]:=rfl
    have qw:=fun h K=>s_word (h:=h) (K:=K) fs[k].kind k1 k2
    have q1:=fun l K=>s_WS (h:=h) (K:=K) (u:=decide (0 < k)) (s:=faultLines (fs.take k)) (t:=wordK fs[k].kind) (l:=l) (by omega)
    simp only [go_sem,hlt,hg,fp,bh_len,bh_app,bh_get,bh_set,bh_take,↓qw,qw,↓q1,q1]
    refine loop_nets fs[k].nets _ _ _ _ _ (hb _ hm) n1 (by simp; omega) ?_
    have e10 : ((10 : UInt8).toNat : Int) = 10:=rfl
    have qB:=fun l K=>s_WB (h:=h) (K:=K) (u:=true) (s:=faultLines (fs.take k) ++ (wordK fs[k].kind ++ tailN fs[k].nets)) (c:=10) (l:=l) (by simp; omega)
    rw [e10] at qB
    rw [blockN_same,seqN_normal,e_q01g_k3]
    simp only [d_q01g_k3,go_sem,↓qB,qB]
    rw [e_q01g_k4]
    simp only [d_q01g_k4,go_sem,wk,bh_len,bh_take]
    refine ⟨k + 1,?_,by omega,by omega⟩
    rw [hs,faultLine_tail n0,show decide (0 < k + 1) = true by simp]
    simp
  · have hk' : k = fs.length := by omega
    subst hk'
    rw [List.take_length]
    have:=hK (decide (0 < fs.length))
    simp only [go_sem,Nat.lt_irrefl,decide_false,bh_len,bh_take,this]
def textF (fs : List Flt) : Int:=if 20000 < fs.length then 2 else if fltsF 100 fs ≠ 0 then fltsF 100 fs else if 200000 < (faultLines fs).length then 2 else 0
attribute [-go_sem] e_q01g_k7
theorem ret_fin {b : Nat} {P : Post} {s : List UInt8} {n : Int} {g : Heap} (k : P (.tup [AS s,AI n]) (g.take b) []) : retK false b P (some [AS s,AI n]) g [(b,b + 2)]:=by
  have e1 : ∀ m,reif m g (.tup [AS s,AI n]) = some (.tup [AS s,AI n]):=fun m=>by simp [reif,reifs]
  have e2 : AV.top (.tup [AS s,AI n]) = 0:=by simp [AV.top,AV.tops]
  have e3 : close 1 [(b,b + 2)] b = b:=by simp [close,bump]
  have e4 : closed [(b,b + 2)] b = true:=by simp [closed]
  simp only [retK,oneOf,e1,e2,Nat.max_zero,List.length_cons,List.length_nil,Nat.zero_add,e3,e4,if_true]
  refine ⟨Nat.zero_le _,?_⟩
  simpa using k
theorem s_FaultText (fs : List Flt) (hl : fs.length ≤ 1000000) (hf : ∀ f ∈ fs,f.nets.length ≤ 1000000) (ht : (faultLines fs).length ≤ 1000000000) : ACall X f_q01g [AFlt fs] h K = K (.tup [AS (if textF fs = 0 then faultLines fs else []),AI (textF fs)]) h []:=by
  refine rule ?_
  rw [c_q01g rfl]
  by_cases h0 : 20000 < fs.length
  · have h0' : (20000 : Int) < (fs.length : Int) := by omega
    have t : textF fs = 2:=by unfold textF; rw [if_pos h0]
    simp only [d_q01g,go_sem,h0',h0,t]
  have h0' : ¬ (20000 : Int) < (fs.length : Int):=by omega
  simp only [d_q01g,go_sem,h0',h0]
  refine N_loop (fun k : Nat=>⟨[(0,AFlt fs),(15,AFlt fs),(16,AI fs.length),(17,AI k)],h,[]⟩) (fun k=>k ≤ fs.length ∧ fltsF 100 (fs.drop k) = fltsF 100 fs) (fun k=>fs.length - k) 0 rfl ⟨by omega,by simp⟩ ?_
  rintro k ⟨hk,hp⟩
  rcases Nat.lt_or_ge k fs.length with hlt | hge
  · have hg := map_get Flt.pv hlt
    have w2 : IntKind.i64.wrap ((k : Int) + 1) = ((k + 1 : Nat) : Int):=i64_wrap _ (by omega) (by omega)
    have e:=fun h K=>s_CheckFault (h:=h) (K:=K) 100 fs[k] (by omega) (hf _ (List.getElem_mem hlt))
    have cx:=flt_cut (f:=fs[k])
    rw [List.drop_eq_getElem_cons hlt,fltsF] at hp
    simp only [Flt.pv] at hg cx e
    by_cases h2 : fltF 100 fs[k] = 0
    · rw [if_neg (by simp [h2])] at hp
      simp only [go_sem,hlt,hg,cx,e,h2,w2]
      exact ⟨k + 1,rfl,⟨by omega,hp⟩,by omega⟩
    · rw [if_pos h2] at hp
      simp only [go_sem,hlt,hg,cx,e,h2]
      have t : textF fs = fltF 100 fs[k]:=by unfold textF; rw [if_neg h0,← hp,if_pos h2]
      rw [t,if_neg h2]
  · have ek : k = fs.length := by omega
    subst ek
    rw [List.drop_length] at hp
    have hz : fltsF 100 fs = 0:=hp.symm
    have ok:=fun f hm=>fltF_ok (fltsF_ok hz f hm)
    simp only [go_sem,Nat.lt_irrefl,decide_false]
    rw [e_q01g_k7]
    simp only [d_q01g_k7,go_sem]
    refine loop_faults fs (fun f hm=>⟨(ok f hm).2.2.2.1,(ok f hm).2.2.2.2.1⟩) (fun f hm n hn=>by have:=(ok f hm).2.2.1 n hn; omega) hl (fun f hm=>⟨(ok f hm).1,hf f hm⟩) ht (fun u=>?_)
    rw [blockN_same,seqN_normal,e_q01g_k6]
    have q1:=fun K=>s_BL (h:=h) (K:=K) (u:=u) (s:=faultLines fs) (l:=[])
    have q2:=fun K=>s_BString (K:=K) (bh_holds (h:=h) (u:=u) (s:=faultLines fs) (l:=[])) (by omega)
    by_cases h3 : 200000 < (faultLines fs).length
    · have h3' : (200000 : Int) < ((faultLines fs).length : Int) := by omega
      have t : textF fs = 2:=by unfold textF; rw [if_neg h0,if_neg (by simp [hz]),if_pos h3]
      simp only [d_q01g_k6,go_sem,↓q1,q1,h3,h3',t]
      refine ret_fin ?_
      exact ⟨rfl,by unfold bh; simp,rfl⟩
    · have h3' : ¬ (200000 : Int) < ((faultLines fs).length : Int) := by omega
      have t : textF fs = 0:=by unfold textF; rw [if_neg h0,if_neg (by simp [hz]),if_neg h3]
      simp only [d_q01g_k6,go_sem,↓q1,q1,↓q2,q2,h3,h3',t]
      refine ret_fin ?_
      refine ⟨rfl,?_,rfl⟩
      unfold sealedH bh
      split
      · simp
      · rw [List.set_append_right _ _ (by omega)]; simp
end Go.Am
end
section
/- A text taken line by line: base.Each,scanref2.Lines. -/
open Go
set_option linter.all false
namespace Go.Am
variable {h : Heap} {K : Post}
attribute [-go_sem] e_q001_k2
theorem lnsL_cases (s : List UInt8) : (endsB s = true ∧ linesB s = lnsD s ∧ lnsT s = false) ∨ (endsB s = false ∧ (∃ t,linesB s = lnsD s ++ [t]) ∧ lnsT s = true):=by
  by_cases h0 : s = []
  · subst h0
    exact .inl ⟨rfl,rfl,rfl⟩
  · by_cases h1 : s.getLast? = some 10
    · left
      obtain ⟨e1,e2⟩:=lnsD_ended h1
      refine ⟨by simp [endsB,endsNL,h1],?_,e2⟩
      unfold linesB bodyNL endsNL
      rw [if_neg h0,if_pos (by simpa using h1),e1]
    · right
      obtain ⟨t,e1,e2⟩:=lnsD_tail h0 h1
      refine ⟨by simp [endsB,endsNL,h0,h1],⟨t,?_⟩,e2⟩
      unfold linesB bodyNL endsNL
      rw [if_neg h0,if_neg (by simpa using h1),e1]
theorem lnsD_mem {s l : List UInt8} (h : l ∈ lnsD s) : l.length ≤ s.length:=splitC_mem (List.dropLast_subset _ h)
theorem lnsD_len (s : List UInt8) : (lnsD s).length ≤ s.length:=by
  unfold lnsD
  rw [List.length_dropLast,splitC_len]
  have : s.count 10 ≤ s.length:=List.count_le_length
  omega
theorem s_Each {σ : Type} (c : Nat) (caps : List AV) (take : σ → List UInt8 → Bool × σ) (H : σ → Heap) (I : Nat → σ → Prop) (s : List UInt8) (hs : s.length ≤ 900000) (n : Nat) (hn : ∀ t,(H t).length = n)
    (hc : ∀ (k : Nat) (t : σ) (l : List UInt8) (K : Post),I k t → k ≤ 900000 → l.length ≤ s.length → ACall X c (AS l :: caps) (H t) K = K (AB (take t l).1) (H (take t l).2) [])
    (hI : ∀ (k : Nat) (t : σ) (l : List UInt8),I k t → l.length ≤ s.length → (take t l).1 = true → I (k + 1) (take t l).2) (t0 : σ) (h0 : I 0 t0) {K : Post} :
    ACall X f_q001 [AS s,.fn c caps] (H t0) K = K (.tup [AI (lnsF take (lnsT s) 0 (lnsD s) t0).1.1,AB (lnsF take (lnsT s) 0 (lnsD s) t0).1.2]) (H (lnsF take (lnsT s) 0 (lnsD s) t0).2) []:=by
  refine rule ?_
  rw [c_q001 rfl]
  have q:=fun h K=>s_Lines (h:=h) (K:=K) s (by omega)
  have hD:=lnsD_len s
  simp only [d_q001,go_sem,↓q,q]
  have hT : ∀ t,List.take (List.length (H t0)) (H t) = H t:=fun t=>List.take_of_length_le (by rw [hn,hn]; exact Nat.le_refl _)
  have hLl : (linesB s).length ≤ (lnsD s).length + 1 ∧ (lnsD s).length ≤ (linesB s).length:=by
    rcases lnsL_cases s with ⟨e1,e2,e3⟩ | ⟨e1,⟨t,e2⟩,e3⟩ <;> rw [e2] <;> simp
  refine N_loop (fun y : Nat × σ=>⟨[(1,.fn c caps),(6,AStr (linesB s)),(7,AB (endsB s)),(15,AStr (linesB s)),(16,AI (linesB s).length),(17,AI y.1)],H y.2,[]⟩) (fun y=>I y.1 y.2 ∧ y.1 ≤ (lnsD s).length ∧ lnsF take (lnsT s) 0 (lnsD s) t0 = lnsF take (lnsT s) y.1 ((lnsD s).drop y.1) y.2) (fun y=>(lnsD s).length - y.1) (0,t0) (by simp) ⟨h0,by omega,rfl⟩ ?_
  rintro ⟨k,t⟩ ⟨hi,hk,hF⟩
  dsimp only at hi hk hF ⊢
  rw [hF]
  rcases Nat.lt_or_ge k (lnsD s).length with hlt | hge
  · have hL : k < (linesB s).length := by omega
    have hg : (linesB s)[k] = (lnsD s)[k]:=by
      rcases lnsL_cases s with ⟨e1,e2,e3⟩ | ⟨e1,⟨t,e2⟩,e3⟩
      · simp only [e2]
      · simp only [e2]
        rw [List.getElem_append_left hlt]
    have hL' : (k : Int) < ((linesB s).length : Int):=by omega
    have hgm:=map_get PV.str hL
    rw [hg] at hgm
    have cz : cutP none 0 (PV.str (lnsD s)[k]) = some (PV.str (lnsD s)[k]):=rfl
    have hll : ((lnsD s)[k]).length ≤ s.length:=lnsD_mem (List.getElem_mem hlt)
    have wk : IntKind.i64.wrap ((k : Int) + 1) = ((k + 1 : Nat) : Int):=i64_wrap _ (by omega) (by omega)
    have wl : IntKind.i64.wrap (((linesB s).length : Int) - 1) = (((linesB s).length - 1 : Nat) : Int):=by rw [i64_wrap _ (by omega) (by omega)]; omega
    have hq:=fun K=>hc k t (lnsD s)[k] K hi (by omega) hll
    rw [List.drop_eq_getElem_cons hlt,lnsF_cons]
    rcases lnsL_cases s with ⟨e1,e2,e3⟩ | ⟨e1,⟨t1,e2⟩,e3⟩
    · cases hb : (take t (lnsD s)[k]).1 with
      | true=>
        rw [hb] at hq
        simp only [go_sem,hL',hL,hgm,cz,e1,↓hq,hq,wk,cond_true]
        exact ⟨(k + 1,(take t (lnsD s)[k]).2),rfl,⟨hI k t _ hi hll hb,by omega,rfl⟩,by simp; omega⟩
      | false=>
        rw [hb] at hq
        simp only [go_sem,hL',hL,hgm,cz,e1,↓hq,hq,wk,cond_false,hT]
    · have hne : ¬ (k : Int) = (((linesB s).length - 1 : Nat) : Int):=by
        rw [e2]; simp; omega
      cases hb : (take t (lnsD s)[k]).1 with
      | true=>
        rw [hb] at hq
        simp only [go_sem,hL',hL,hgm,cz,e1,wl,hne,↓hq,hq,wk,cond_true]
        exact ⟨(k + 1,(take t (lnsD s)[k]).2),rfl,⟨hI k t _ hi hll hb,by omega,rfl⟩,by simp; omega⟩
      | false=>
        rw [hb] at hq
        simp only [go_sem,hL',hL,hgm,cz,e1,wl,hne,↓hq,hq,wk,cond_false,hT]
  · have hk' : k = (lnsD s).length := by omega
    subst hk'
    rw [List.drop_length,lnsF_nil]
    rcases lnsL_cases s with ⟨e1,e2,e3⟩ | ⟨e1,⟨t1,e2⟩,e3⟩
    · have hL' : ¬ ((lnsD s).length : Int) < ((linesB s).length : Int) := by rw [e2]; omega
      have hL : ¬ (lnsD s).length < (linesB s).length:=by rw [e2]; omega
      simp only [go_sem,hL',hL,decide_false,e3,cond_false]
      rw [e_q001_k2]
      simp only [d_q001_k2,go_sem,hT]
    · have hL : (lnsD s).length < (linesB s).length := by rw [e2]; simp
      have hL' : ((lnsD s).length : Int) < ((linesB s).length : Int):=by omega
      have hgm:=map_get PV.str hL
      have cz : cutP none 0 (PV.str (linesB s)[(lnsD s).length]) = some (PV.str (linesB s)[(lnsD s).length]):=rfl
      have wl : IntKind.i64.wrap (((linesB s).length : Int) - 1) = ((lnsD s).length : Int):=by rw [i64_wrap _ (by omega) (by omega),e2]; simp
      simp only [go_sem,hL',hL,hgm,cz,e1,wl,e3,cond_true,hT]
theorem s_CutC (a b : List UInt8) (c : UInt8) (ha : c ∉ a) (hs : (a ++ c :: b).length ≤ 1000000) : ACall X f_q086 [AS (a ++ c :: b),AS [c]] h K = K (.tup [AS a,AS b,AB true]) h []:=by
  have key : ∀ (h : Heap) (K : Post),ACall X f_q02l [AS (a ++ c :: b),AS [c]] h K = K (.tup [AS a,AS b,AB true]) h []:=by
    intro h K
    refine rule ?_
    rw [c_q02l rfl]
    have q:=fun h K=>s_slIndexC (h:=h) (K:=K) (a ++ c :: b) c hs
    rw [idxB_at a b c ha] at q
    have W1 : win (a ++ c :: b) 0 a.length = a:=by unfold win; simp
    have W2 : win (a ++ c :: b) (a.length + 1) (a.length + (b.length + 1) - (a.length + 1)) = b:=by unfold win; rw [show a ++ c :: b = (a ++ [c]) ++ b by simp,List.drop_left' (by simp)]; exact List.take_of_length_le (by omega)
    have hp : ¬ (a.length : Int) < 0:=by omega
    have hp2 : (0 : Int) ≤ a.length:=by omega
    have hl : a.length ≤ (a ++ c :: b).length:=by simp
    have hl2 : a.length + 1 ≤ (a ++ c :: b).length:=by simp
    have w : IntKind.i64.wrap ((a.length : Int) + 1) = ((a.length + 1 : Nat) : Int):=i64_wrap _ (by simp at hs; omega) (by simp at hs; omega)
    simp only [d_q02l,go_sem,↓q,q,hp,hp2,hl,hl2,w,W1,W2,List.length_cons,List.length_nil]
  refine rule ?_
  rw [c_q086 rfl]
  simp only [d_q086,go_sem,↓key,key]
theorem s_CutNo (s : List UInt8) (c : UInt8) (ha : c ∉ s) (hs : s.length ≤ 1000000) : ACall X f_q086 [AS s,AS [c]] h K = K (.tup [AS s,AS [],AB false]) h []:=by
  have key : ∀ (h : Heap) (K : Post),ACall X f_q02l [AS s,AS [c]] h K = K (.tup [AS s,AS [],AB false]) h []:=by
    intro h K
    refine rule ?_
    rw [c_q02l rfl]
    have q:=fun h K=>s_slIndexC (h:=h) (K:=K) s c hs
    rw [idxB_no ha] at q
    have hp : ¬ (0 : Int) ≤ -1:=by omega
    simp only [d_q02l,go_sem,↓q,q,hp]
  refine rule ?_
  rw [c_q086 rfl]
  simp only [d_q086,go_sem,↓key,key]
theorem lnsD_count (s : List UInt8) : (lnsD s).length = s.count 10:=by
  unfold lnsD
  rw [List.length_dropLast,splitC_len]
  omega
theorem rest_lt {s : List UInt8} {k : Nat} (h : k < (lnsD s).length) : ∃ b,restC 10 k s = (lnsD s)[k] ++ 10 :: b ∧ (10 : UInt8) ∉ (lnsD s)[k] ∧ restC 10 (k + 1) s = b:=by
  have hk : k < s.count 10:=by rw [← lnsD_count]; exact h
  obtain ⟨h1,h2,h3⟩:=rest_split 10 k s (by omega)
  obtain ⟨a,b,e,ha⟩:=cut_at (c:=10) (s:=restC 10 k s) (List.count_pos_iff.1 (by omega))
  rw [e,splitC_cut ha] at h1
  have hl : k < (splitC 10 s).length:=by rw [splitC_len]; omega
  rw [List.drop_eq_getElem_cons hl] at h1
  injection h1 with h1 h4
  have e2 : (lnsD s)[k] = a:=by
    rw [h1]
    exact List.getElem_dropLast h
  refine ⟨b,by rw [e2]; exact e,by rw [e2]; exact ha,?_⟩
  rw [rest_succ,e]
  exact dropW ha
theorem rest_end (s : List UInt8) : (10 : UInt8) ∉ restC 10 (lnsD s).length s ∧ lnsT s = !(restC 10 (lnsD s).length s).isEmpty:=by
  obtain ⟨h1,h2,h3⟩:=rest_split 10 (lnsD s).length s (by rw [lnsD_count]; exact Nat.le_refl _)
  rw [lnsD_count,Nat.sub_self] at h3
  have hn : (10 : UInt8) ∉ restC 10 (lnsD s).length s:=by rw [lnsD_count]; exact List.count_eq_zero.1 h3
  refine ⟨hn,?_⟩
  rw [splitC_none hn] at h1
  unfold lnsT
  have : (splitC 10 s).getLast? = some (restC 10 (lnsD s).length s):=by
    have hl : (lnsD s).length < (splitC 10 s).length:=by rw [splitC_len,lnsD_count]; omega
    have:=List.getLast?_drop (l:=splitC 10 s) (i:=(lnsD s).length)
    rw [if_neg (by omega),← h1] at this
    simpa using this.symm
  rw [this]
  rfl
attribute [-go_sem] e_q04i_k2
theorem s_LinesQ {σ : Type} (c : Nat) (caps : List AV) (take : σ → List UInt8 → Bool × σ) (H : σ → Heap) (I : Nat → σ → Prop) (s : List UInt8) (hs : s.length ≤ 900000) (n : Nat) (hn : ∀ t,(H t).length = n)
    (hc : ∀ (k : Nat) (t : σ) (l : List UInt8) (K : Post),I k t → k ≤ 900000 → l.length ≤ s.length → ACall X c (AS l :: caps) (H t) K = K (AB (take t l).1) (H (take t l).2) [])
    (hI : ∀ (k : Nat) (t : σ) (l : List UInt8),I k t → l.length ≤ s.length → (take t l).1 = true → I (k + 1) (take t l).2) (t0 : σ) (h0 : I 0 t0) {K : Post} :
    ACall X f_q04i [AS s,.fn c caps] (H t0) K = K (.tup [AI (lnsF take (lnsT s) 0 (lnsD s) t0).1.1,AB (lnsF take (lnsT s) 0 (lnsD s) t0).1.2]) (H (lnsF take (lnsT s) 0 (lnsD s) t0).2) []:=by
  refine rule ?_
  rw [c_q04i rfl]
  have hD:=lnsD_len s
  have hT : ∀ t,List.take (List.length (H t0)) (H t) = H t:=fun t=>List.take_of_length_le (by rw [hn,hn]; exact Nat.le_refl _)
  simp only [d_q04i,go_sem]
  refine N_loop (fun y : Nat × σ=>⟨[(0,AS (restC 10 y.1 s)),(1,.fn c caps),(6,AI y.1)],H y.2,[]⟩) (fun y=>I y.1 y.2 ∧ y.1 ≤ (lnsD s).length ∧ lnsF take (lnsT s) 0 (lnsD s) t0 = lnsF take (lnsT s) y.1 ((lnsD s).drop y.1) y.2) (fun y=>(lnsD s).length - y.1) (0,t0) (by simp [restC]) ⟨h0,by omega,rfl⟩ ?_
  rintro ⟨k,t⟩ ⟨hi,hk,hF⟩
  dsimp only at hi hk hF ⊢
  rw [hF]
  have hr:=(rest_split 10 k s (by rw [← lnsD_count]; exact hk)).2.1
  rcases Nat.lt_or_ge k (lnsD s).length with hlt | hge
  · obtain ⟨b, e, hne, e2⟩ := rest_lt hlt
    rw [e] at hr
    have hcut:=fun h K=>s_CutC (h:=h) (K:=K) _ b 10 hne (by omega)
    rw [← e] at hcut
    have h0 : ¬ restC 10 k s = []:=by rw [e]; simp
    have hll : ((lnsD s)[k]).length ≤ s.length:=lnsD_mem (List.getElem_mem hlt)
    have wk : IntKind.i64.wrap ((k : Int) + 1) = ((k + 1 : Nat) : Int):=i64_wrap _ (by omega) (by omega)
    have hq:=fun K=>hc k t (lnsD s)[k] K hi (by omega) hll
    rw [List.drop_eq_getElem_cons hlt,lnsF_cons]
    cases hb : (take t (lnsD s)[k]).1 with
    | true=>
      rw [hb] at hq
      simp only [go_sem,h0,↓hcut,hcut,↓hq,hq,wk,cond_true]
      exact ⟨(k + 1,(take t (lnsD s)[k]).2),by simp only [e2],⟨hI k t _ hi hll hb,by omega,rfl⟩,by simp; omega⟩
    | false=>
      rw [hb] at hq
      simp only [go_sem,h0,↓hcut,hcut,↓hq,hq,wk,cond_false,hT]
  · have hk' : k = (lnsD s).length := by omega
    subst hk'
    rw [List.drop_length,lnsF_nil]
    obtain ⟨r1,r2⟩:=rest_end s
    by_cases h0 : restC 10 (lnsD s).length s = []
    · rw [h0] at r2
      simp only [go_sem,h0,r2,List.isEmpty_nil,Bool.not_true,cond_false]
      rw [e_q04i_k2]
      simp only [d_q04i_k2,go_sem,hT]
    · have hcut := fun h K => s_CutNo (h := h) (K := K) _ 10 r1 (by omega)
      have r3 : lnsT s = true:=by rw [r2]; cases hq : restC 10 (lnsD s).length s with | nil=>exact absurd hq h0 | cons a b=>rfl
      simp only [go_sem,h0,r3,↓hcut,hcut,cond_true,hT]
end Go.Am
end
section
/- Faults read. -/
open Go
set_option linter.all false
namespace Go.Am
variable {h : Heap} {K : Post}
attribute [-go_sem] e_q01r_k2
abbrev tl32 (s : List UInt8) : List (List UInt8):=(splitC 32 s).tail
theorem tl32_bd {s : List UInt8} : (∀ w ∈ tl32 s,w.length ≤ s.length) ∧ (tl32 s).length ≤ s.length:=by
  refine ⟨fun w hw=>splitC_mem (List.mem_of_mem_tail hw),?_⟩
  rw [List.length_tail,splitC_len]
  have : s.count 32 ≤ s.length:=List.count_le_length
  omega
theorem win_tl (s : List UInt8) : win ((splitC 32 s).map PV.str) 1 ((splitC 32 s).length - 1) = (tl32 s).map PV.str:=by
  unfold win
  rw [← List.map_drop,List.drop_one,List.take_of_length_le (by simp)]
theorem kW_min {w : List UInt8} {k : Nat} (h : wordsK[k]? = some w) : kW w ≤ k:=by
  have hk : k < wordsK.length:=(List.getElem?_eq_some_iff.1 h).1
  rcases Nat.lt_or_ge k (kW w) with h1 | h1
  · have := List.not_of_lt_findIdx h1
    rw [List.getElem?_eq_getElem hk] at h
    injection h with h
    simp [h] at this
  · exact h1
theorem wordK_eq {k : Nat} (hk : k ≤ 6) (w : List UInt8) (h1 : 1 ≤ k) (hw : ∀ j,1 ≤ j → j < k → wordK (j : Int) ≠ w) (h0 : w ≠ []) : decide (wordK (k : Int) = w) = decide (kW w = k):=by
  rw [decide_eq_decide]
  have hg : wordsK[k]? = some (wordK k):=by
    have hl : k < wordsK.length:=by show k < 7; omega
    unfold wordK
    rw [Int.toNat_natCast,List.getElem?_eq_getElem hl]
    rfl
  constructor
  · intro e
    have hle:=kW_min (w:=w) (k:=k) (by rw [hg,e])
    rcases Nat.lt_or_ge (kW w) k with h2 | h2
    · exfalso
      have hg2:=kW_get (w:=w) (by omega)
      rcases Nat.eq_zero_or_pos (kW w) with h3 | h3
      · rw [h3] at hg2
        injection hg2 with hg2
        exact h0 hg2.symm
      · refine hw _ h3 h2 ?_
        unfold wordK
        rw [Int.toNat_natCast,hg2]
        rfl
    · omega
  · intro e
    have hg2:=kW_get (w:=w) (by omega)
    rw [e,hg] at hg2
    injection hg2
theorem s_readLine (s : List UInt8) (hs : s.length ≤ 900000) : ACall X f_q01r [AS s] h K = K (.tup [.p (readP s).2.pv,AB (readP s).1]) h []:=by
  refine rule ?_
  rw [c_q01r rfl]
  have q:=fun h K=>s_Split (h:=h) (K:=K) s 32 (by omega)
  obtain ⟨b1,b2⟩:=tl32_bd (s:=s)
  have q2:=fun h K=>s_NumbersB (h:=h) (K:=K) (tl32 s) 15 (by omega) (fun w hw=>by have:=b1 w hw; omega) (by omega)
  have e15 : ((15 : Nat) : Int) = 15:=rfl
  rw [e15] at q2
  have hl1 : 1 ≤ (splitC 32 s).length:=by rw [splitC_len]; omega
  have hw:=win_tl s
  have hZ : ∀ (x : Esc),(∀ y ∈ x,h.length ≤ y.1) → retK false (List.length h) (fun v1 h1 x1=>v1 = AV.tup [AV.p (readP s).2.pv,AB (readP s).1] ∧ h1 = h ∧ x1 = []) (some [AV.agg [AV.p (PV.int IntKind.i64 0),AV.sl0 none],AV.p (PV.bool false)]) (h ++ [Obj.box [AV.p (PV.int IntKind.i64 0),AV.sl0 none]]) x = ((AV.tup [.p (.agg [eI 0,.sl none []]),AB false] : AV) = AV.tup [AV.p (readP s).2.pv,AB (readP s).1]):=fun x hx=>by
    rw [retK_out (v:=.tup [.p (.agg [eI 0,.sl none []]),AB false]) hx rfl (by simp [AV.top,AV.tops])]
    simp
  have hE : ∀ y ∈ escOf (List.length h) (AV.agg [AV.p (PV.int IntKind.i64 0),AV.sl0 none]),h.length ≤ y.1:=by simp [escOf,AV.top,AV.tops]
  cases hall : (tl32 s).all (numF 15) with
  | false=>
    have e : readP s = (false,⟨0,[]⟩):=by unfold readP; rw [if_neg (by simp [hall])]
    rw [hall] at q2
    simp only [d_q01r,go_sem,↓q,q,hl1,hw,↓q2,q2]
    rw [hZ _ hE,e]
    rfl
  | true=>
    rw [hall,if_pos rfl] at q2
    by_cases h0 : (tl32 s).length = 0
    · have e : readP s = (false, ⟨0, []⟩) := by unfold readP; rw [if_neg (by simp [List.length_eq_zero_iff.1 h0])]
      have h0' : (((tl32 s).length : Nat) : Int) = 0:=by omega
      simp only [d_q01r,go_sem,↓q,q,hl1,hw,↓q2,q2,h0']
      rw [hZ _ hE,e]
      rfl
    · have h0' : ¬ (((tl32 s).length : Nat) : Int) = 0 := by omega
      simp only [d_q01r,go_sem,↓q,q,hl1,hw,↓q2,q2,h0']
      have hg0 : ((splitC 32 s).map PV.str)[0]? = some (.str ((splitC 32 s).headD [])):=by
        cases hs0 : splitC 32 s with
        | nil=>rw [hs0] at hl1; simp at hl1
        | cons a b=>rfl
      have hc0 : ∀ w : List UInt8,cutP none 0 (PV.str w) = some (PV.str w):=fun _=>rfl
      refine N_loop (fun k : Nat=>⟨[(2,AV.ref (List.length h) 0),(4,AStr (splitC 32 s)),(5,AL (List.map numV (tl32 s))),(7,AI k)],h ++ [Obj.box [AV.p (PV.int IntKind.i64 0),AV.sl0 none]],[]⟩) (fun k=>1 ≤ k ∧ k ≤ 7 ∧ ∀ j,1 ≤ j → j < k → wordK (j : Int) ≠ (splitC 32 s).headD []) (fun k=>7 - k) 1 rfl ⟨by omega,by omega,fun j h1 h2=>by omega⟩ ?_
      rintro k ⟨k1,k2,k3⟩
      generalize hw0 : (splitC 32 s).headD [] = w0 at *
      rcases Nat.lt_or_ge k 7 with hlt | hge
      · have hk6 : (k : Int) ≤ 6 := by omega
        have qw:=fun h K=>s_word (h:=h) (K:=K) (k : Int) (by omega) hk6
        have wk : IntKind.i64.wrap ((k : Int) + 1) = ((k + 1 : Nat) : Int):=i64_wrap _ (by omega) (by omega)
        by_cases he : wordK (k : Int) = w0
        · simp only [go_sem, hk6, ↓qw, qw, hg0, hc0, he]
          have hw0n : w0 ≠ []:=by
            rw [← he]
            have : k = 1 ∨ k = 2 ∨ k = 3 ∨ k = 4 ∨ k = 5 ∨ k = 6:=by omega
            rcases this with rfl | rfl | rfl | rfl | rfl | rfl <;> decide
          have hk:=wordK_eq (k:=k) (by omega) w0 k1 k3 hw0n
          rw [decide_eq_true he] at hk
          have hk:=of_decide_eq_true hk.symm
          have e : readP s = (true,⟨(k : Int),(tl32 s).map numV⟩):=by
            unfold readP
            rw [hw0,hk,if_pos]
            have : (tl32 s).isEmpty = false:=by cases hq : tl32 s with | nil=>rw [hq] at h0; exact absurd rfl h0 | cons _ _=>rfl
            simp [hall,this]
            omega
          rw [e]
          rfl
        · simp only [go_sem, hk6, ↓qw, qw, hg0, hc0, he, wk]
          refine ⟨k + 1,rfl,⟨by omega,by omega,fun j j1 j2=>?_⟩,by omega⟩
          by_cases hj : j = k
          · subst hj; exact he
          · exact k3 j j1 (by omega)
      · have hk7 : k = 7 := by omega
        subst hk7
        have h67 : ¬ ((7 : Nat) : Int) ≤ 6:=by omega
        have e : readP s = (false,⟨0,[]⟩):=by
          unfold readP
          rw [hw0,if_neg]
          simp only [Bool.and_eq_true,decide_eq_true_eq,not_and]
          intro _ q1
          intro q2
          have hg2:=kW_get (w:=w0) (by omega)
          refine k3 (kW w0) q1 (by omega) ?_
          unfold wordK
          rw [Int.toNat_natCast,hg2]
          rfl
        simp only [go_sem,h67]
        rw [e_q01r_k2]
        simp only [d_q01r_k2,go_sem]
        rw [hZ _ hE,e]
        rfl
end Go.Am
end
section
/- Lists of faults read. -/
open Go
set_option linter.all false
namespace Go.Am
variable {h : Heap} {K : Post}
def HF (h : Heap) (fs : List Flt) : Heap:=h ++ [.row (some 2) (fs.map Flt.pv) 0,.box [.own h.length fs.length 0 fs.length]]
theorem HF_len (h : Heap) (fs : List Flt) : (HF h fs).length = h.length + 2:=by simp [HF]
theorem s_FR1 (fs : List Flt) (s : List UInt8) (hs : s.length ≤ 900000) (hf : fs.length ≤ 1000000) : ACall X f_q01b [AS s,.ref (h.length + 1) 0] (HF h fs) K = K (AB (takeP fs s).1) (HF h (takeP fs s).2) []:=by
  refine rule ?_
  rw [c_q01b rfl]
  have q:=fun h K=>s_readLine (h:=h) (K:=K) s hs
  have hm : fs.length + 1 ≤ maxSl:=by unfold maxSl; omega
  have fp : Flt.pv (readP s).2 = .agg [eI (readP s).2.kind,.sl none ((readP s).2.nets.map eI)]:=rfl
  have hl : (fs.map Flt.pv).length = fs.length:=List.length_map ..
  rw [fp] at q
  unfold HF takeP
  simp only [d_q01b,go_sem,↓q,q,hm,hl,escOf,AV.top,Nat.lt_irrefl,Nat.not_lt_zero,List.map_append,fp]
theorem s_FQ1 (fs : List Flt) (s : List UInt8) (hs : s.length ≤ 900000) (hf : fs.length ≤ 1000000) : ACall X f_q04f [AS s,.ref (h.length + 1) 0] (HF h fs) K = K (AB (takeQ fs s).1) (HF h (takeQ fs s).2) []:=by
  refine rule ?_
  rw [c_q04f rfl]
  have q:=fun h K=>s_WordsQ (h:=h) (K:=K) s hs
  obtain ⟨b1,b2⟩:=tl32_bd (s:=s)
  have q2:=fun h K=>s_NumbersInQ (h:=h) (K:=K) (tl32 s) 15 (by omega) (fun w hw=>by have:=b1 w hw; omega) (by omega)
  have e15 : ((15 : Nat) : Int) = 15:=rfl
  rw [e15] at q2
  have q3:=fun h K=>s_faultWords (h:=h) (K:=K)
  have q4:=fun h K=>IndexS (h:=h) (K:=K) wordsK (strS wordsK) ((splitC 32 s).headD []) (by decide)
  have hl1 : 1 ≤ (splitC 32 s).length:=by rw [splitC_len]; omega
  have hw:=win_tl s
  have hg0 : ((splitC 32 s).map PV.str)[0]? = some (.str ((splitC 32 s).headD [])):=by
    cases hs0 : splitC 32 s with
    | nil=>rw [hs0] at hl1; simp at hl1
    | cons a b=>rfl
  have hc0 : ∀ w : List UInt8,cutP none 0 (PV.str w) = some (PV.str w):=fun _=>rfl
  have hm : fs.length + 1 ≤ maxSl:=by unfold maxSl; omega
  have fp : Flt.pv (readQ s).2 = .agg [eI (readQ s).2.kind,.sl none ((readQ s).2.nets.map eI)]:=rfl
  have hl : (fs.map Flt.pv).length = fs.length:=List.length_map ..
  have ek : kI ((splitC 32 s).headD []) = (if wordsK.findIdx (fun y=>decide (y = (splitC 32 s).headD [])) < wordsK.length then (wordsK.findIdx (fun y=>decide (y = (splitC 32 s).headD [])) : Int) else -1):=rfl
  rw [← ek] at q4
  unfold HF takeQ
  cases h1 : wordsF s <;> cases h2 : (tl32 s).all (numF 15) <;>
  · rw [h1] at q; rw [h2] at q2
    have e1 : (readQ s).1 = (wordsF s && (tl32 s).all (numF 15) && decide (0 < ((tl32 s).length : Int)) && decide (0 < kI ((splitC 32 s).headD []))):=rfl
    rw [h1,h2] at e1
    have e2 : (readQ s).2 = ⟨kI ((splitC 32 s).headD []),(tl32 s).map (numR 15)⟩:=rfl
    rw [e1,e2]
    simp only [d_q04f,go_sem,↓q,q,hl1,hw,↓q2,q2,↓q3,q3,↓q4,q4,hg0,hc0,hm,hl,escOf,AV.top,Nat.lt_irrefl,Nat.not_lt_zero,List.map_append]
    first
      | rfl
      | (by_cases h3 : (0 : Int) < ((tl32 s).length : Int) <;> by_cases h4 : (0 : Int) < kI ((splitC 32 s).headD []) <;> simp only [h3,h4,go_sem,Bool.false_and,Bool.true_and,Bool.and_false,Bool.and_true] <;> rfl)
end Go.Am
end
section
/- fault.Read,scanref2.FaultsRead. -/
open Go
set_option linter.all false
namespace Go.Am
variable {h : Heap} {K : Post}
def takeG (g : List UInt8 → Bool × Flt) (fs : List Flt) (l : List UInt8) : Bool × List Flt:=((g l).1,fs ++ [(g l).2])
theorem takeG_inv (g : List UInt8 → Bool × Flt) (tail : Bool) (n : Nat) : ∀ (ls : List (List UInt8)) (i : Nat) (fs : List Flt),(∀ l ∈ ls,(g l).2.nets.length ≤ n) → (∀ f ∈ fs,f.nets.length ≤ n) →
    (∀ f ∈ (lnsF (takeG g) tail i ls fs).2,f.nets.length ≤ n) ∧ (lnsF (takeG g) tail i ls fs).2.length ≤ fs.length + ls.length
  | [],i,fs,_,h=>by
    rw [lnsF_nil]
    cases tail <;> exact ⟨h,by simp⟩
  | l :: r,i,fs,hl,h=>by
    rw [lnsF_cons]
    have h1 : ∀ f ∈ (takeG g fs l).2,f.nets.length ≤ n:=fun f hf=>by
      rcases List.mem_append.1 hf with hf | hf
      · exact h f hf
      · rw [List.mem_singleton.1 hf]; exact hl l (by simp)
    have h2 : (takeG g fs l).2.length = fs.length + 1:=by simp [takeG]
    cases (takeG g fs l).1 with
    | true=>
      obtain ⟨q1,q2⟩:=takeG_inv g tail n r (i + 1) (takeG g fs l).2 (fun x hx=>hl x (by simp [hx])) h1
      refine ⟨q1,?_⟩
      simp only [cond_true,List.length_cons]
      omega
    | false=>
      refine ⟨h1,?_⟩
      simp only [cond_false,List.length_cons]
      omega
theorem readP_nets (s : List UInt8) : (readP s).2.nets.length ≤ s.length:=by
  have:=(tl32_bd (s:=s)).2
  unfold readP
  split
  · simpa using this
  · simp
theorem readQ_nets (s : List UInt8) : (readQ s).2.nets.length ≤ s.length:=by
  have:=(tl32_bd (s:=s)).2
  unfold readQ
  simpa using this
abbrev rdT (g : List UInt8 → Bool × Flt) (s : List UInt8) : (Nat × Bool) × List Flt:=lnsF (takeG g) (lnsT s) 0 (lnsD s) []
def frV (g : List UInt8 → Bool × Flt) (n : Int) (s : List UInt8) : List Flt × Int × Int:=
  if n < 1 ∨ 100 < n then ([],0,1) else if 200000 < s.length then ([],0,2) else if (rdT g s).1.2 = false then ([],((rdT g s).1.1 : Nat),9)
  else if 20000 < (rdT g s).2.length then ([],0,2) else if fltsF n (rdT g s).2 ≠ 0 then ([],0,fltsF n (rdT g s).2) else ((rdT g s).2,0,0)
theorem frV_eq (n : Int) (s : List UInt8) : frV readP n s = frV readQ n s:=by
  obtain ⟨h1,h2⟩:=takePQ (lnsT s) (lnsD s) 0 []
  have e1 : (rdT readP s).1 = (rdT readQ s).1:=h1
  have e2 : (rdT readP s).1.2 = true → (rdT readP s).2 = (rdT readQ s).2:=h2
  unfold frV
  rw [e1]
  rw [e1] at e2
  by_cases q : (rdT readQ s).1.2 = false
  · simp only [q,if_true]
  · rw [Bool.not_eq_false] at q
    rw [e2 q]
theorem s_FaultsFaultL (n : Int) (l : List Flt) (hn : 20000 < l.length) : ACall X f_q04d [AI n,AFlt l] h K = K (AI 2) h []:=by
  refine rule ?_
  rw [c_q04d rfl]
  have h1 : (20000 : Int) < l.length:=by omega
  simp only [d_q04d,go_sem,h1]
theorem frzA {h : Heap} {sh : Sh} {xs : List PV} {o : Obj} {k : Nat} : frz (h ++ [.row sh xs 0,o]) h.length k = h ++ [.row sh xs k,o]:=by
  unfold frz
  rw [List.getElem?_append_right (Nat.le_refl _),Nat.sub_self]
  simp
theorem s_FaultsFaultOwn (n : Int) (l : List Flt) (o : Obj) (h0 : -1000000000000000 ≤ n) (hf : ∀ f ∈ l,f.nets.length ≤ 1000000) : ACall X f_q04d [AI n,.own h.length l.length 0 l.length] (h ++ [.row (some 2) (l.map Flt.pv) 0,o]) K = K (AI (if 20000 < l.length then 2 else fltsF n l)) (h ++ [.row (some 2) (l.map Flt.pv) l.length,o]) []:=by
  have e:=arg_pur (X:=X) (f:=f_q04d) (F:=a_q04d) (a:=[AI n,.own h.length l.length 0 l.length]) (vs:=[.int .i64 n,.sl (some 2) (l.map Flt.pv)]) (h:=h ++ [.row (some 2) (l.map Flt.pv) 0,o]) (h1:=h ++ [.row (some 2) (l.map Flt.pv) l.length,o]) (P:=K) x_q04d rfl
    (by
      have hw : win (l.map Flt.pv) 0 l.length = l.map Flt.pv:=win_full (by simp)
      have hg : (h ++ [Obj.row (some 2) (l.map Flt.pv) 0,o])[h.length]? = some (.row (some 2) (l.map Flt.pv) 0):=by simp
      simp [puras,pur,rd,hw,frzA]) rfl rfl (by simp)
  rw [e]
  by_cases hl : 20000 < l.length
  · rw [if_pos hl]
    exact s_FaultsFaultL n l hl
  · rw [if_neg hl]
    exact s_FaultsFault n l h0 hf (by omega)
theorem s_FaultsReadQ (n : Int) (s : List UInt8) (hn : -1000000000000000 ≤ n) (hs : s.length ≤ 900000) : ACall X f_q04e [AI n,AS s] h K = K (.tup [AFlt (frV readQ n s).1,AI (frV readQ n s).2.1,AI (frV readQ n s).2.2]) h []:=by
  refine rule ?_
  rw [c_q04e rfl]
  have q0:=fun h K=>s_in (h:=h) (K:=K) n 1 100
  unfold frV
  by_cases h1 : n < 1 ∨ 100 < n
  · have e1 : (decide (1 ≤ n) && decide (n ≤ 100)) = false:=by
      rw [← Bool.decide_and,decide_eq_false_iff_not]; omega
    rw [e1] at q0
    rw [if_pos h1]
    simp only [d_q04e,go_sem,↓q0,q0]
    rfl
  · have e1 : (decide (1 ≤ n) && decide (n ≤ 100)) = true:=by
      rw [← Bool.decide_and,decide_eq_true_eq]; omega
    rw [e1] at q0
    rw [if_neg h1]
    by_cases h2 : 200000 < s.length
    · have h2' : (200000 : Int) < (s.length : Int) := by omega
      rw [if_pos h2]
      simp only [d_q04e,go_sem,↓q0,q0,h2']
      rfl
    · have h2' : ¬ (200000 : Int) < (s.length : Int) := by omega
      rw [if_neg h2]
      have hL:=fun K=>s_LinesQ (K:=K) f_q04f [.ref (h.length + 1) 0] (takeG readQ) (HF h) (fun k fs=>fs.length = k) s hs (h.length + 2) (HF_len h)
        (fun k t l K hi hk hll=>s_FQ1 t l (by omega) (by omega)) (fun k t l hi hll _=>by simp [takeG,hi]) [] rfl
      obtain ⟨i1,i2⟩:=takeG_inv readQ (lnsT s) s.length (lnsD s) 0 [] (fun l hl=>Nat.le_trans (readQ_nets l) (lnsD_mem hl)) (by simp)
      have hD:=lnsD_len s
      unfold rdT
      generalize lnsF (takeG readQ) (lnsT s) 0 (lnsD s) [] = R at *
      obtain ⟨⟨i,ok⟩,fs⟩:=R
      dsimp only at i1 i2 hL ⊢
      rw [List.length_nil,Nat.zero_add] at i2
      have q3:=fun o K=>s_FaultsFaultOwn (h:=h) (K:=K) n fs o hn (fun f hf=>by have:=i1 f hf; omega)
      simp only [HF,List.map_nil,List.length_nil] at hL
      have hw : win (fs.map Flt.pv) 0 fs.length = fs.map Flt.pv:=win_full (by simp)
      have hll : (fs.map Flt.pv).length = fs.length:=List.length_map ..
      cases ok with
      | false=>
        simp only [d_q04e,go_sem,↓q0,q0,h2',↓hL,hL]
        rfl
      | true=>
        by_cases h3 : 20000 < fs.length
        · simp only [h3, if_true] at q3
          simp only [d_q04e,go_sem,↓q0,q0,h2',↓hL,hL,↓q3,q3,h3]
          rfl
        · simp only [h3, if_false] at q3
          by_cases h4 : fltsF n fs = 0
          · simp only [d_q04e, go_sem, ↓q0, q0, h2', ↓hL, hL, ↓q3, q3, h3, h4, hw, hll]
            first | done | rfl | trace_state
          · simp only [d_q04e, go_sem, ↓q0, q0, h2', ↓hL, hL, ↓q3, q3, h3, h4]
            first | done | rfl | trace_state
attribute [-go_sem] e_q01a_k2
theorem s_FaultRead (n : Int) (s : List UInt8) (hn : -1000000000000000 ≤ n) (hs : s.length ≤ 900000) : ACall X f_q01a [AI n,AS s] h K = K (.tup [AFlt (frV readP n s).1,AI (frV readP n s).2.1,AI (frV readP n s).2.2]) h []:=by
  refine rule ?_
  rw [c_q01a rfl]
  have q0:=fun h K=>s_Out (h:=h) (K:=K) n 1 100
  unfold frV
  by_cases h1 : n < 1 ∨ 100 < n
  · have e1 : (decide (n < 1) || decide (100 < n)) = true:=by
      rw [← Bool.decide_or,decide_eq_true_eq]; exact h1
    rw [e1] at q0
    rw [if_pos h1]
    simp only [d_q01a,go_sem,↓q0,q0]
    rfl
  · have e1 : (decide (n < 1) || decide (100 < n)) = false:=by
      rw [← Bool.decide_or,decide_eq_false_iff_not]; exact h1
    rw [e1] at q0
    rw [if_neg h1]
    by_cases h2 : 200000 < s.length
    · have h2' : (200000 : Int) < (s.length : Int) := by omega
      rw [if_pos h2]
      simp only [d_q01a,go_sem,↓q0,q0,h2']
      rfl
    · have h2' : ¬ (200000 : Int) < (s.length : Int) := by omega
      rw [if_neg h2]
      have hL:=fun K=>s_Each (K:=K) f_q01b [.ref (h.length + 1) 0] (takeG readP) (HF h) (fun k fs=>fs.length = k) s hs (h.length + 2) (HF_len h)
        (fun k t l K hi hk hll=>s_FR1 t l (by omega) (by omega)) (fun k t l hi hll _=>by simp [takeG,hi]) [] rfl
      obtain ⟨i1,i2⟩:=takeG_inv readP (lnsT s) s.length (lnsD s) 0 [] (fun l hl=>Nat.le_trans (readP_nets l) (lnsD_mem hl)) (by simp)
      have hD:=lnsD_len s
      unfold rdT
      generalize lnsF (takeG readP) (lnsT s) 0 (lnsD s) [] = R at *
      obtain ⟨⟨i,ok⟩,fs⟩:=R
      dsimp only at i1 i2 hL ⊢
      rw [List.length_nil,Nat.zero_add] at i2
      simp only [HF,List.map_nil,List.length_nil] at hL
      have hw : win (fs.map Flt.pv) 0 fs.length = fs.map Flt.pv:=win_full (by simp)
      have hll : (fs.map Flt.pv).length = fs.length:=List.length_map ..
      cases ok with
      | false=>
        simp only [d_q01a,go_sem,↓q0,q0,h2',↓hL,hL]
        rfl
      | true=>
        by_cases h3 : 20000 < fs.length
        · have h3' : (20000 : Int) < (fs.length : Int) := by omega
          simp only [d_q01a,go_sem,↓q0,q0,h2',↓hL,hL,h3',h3]
          rfl
        · have h3' : ¬ (20000 : Int) < (fs.length : Int) := by omega
          simp only [d_q01a,go_sem,↓q0,q0,h2',↓hL,hL,h3',h3]
          refine N_loop (fun k : Nat=>⟨[(0,AI n),(7,.ref (h.length + 1) 0),(34,.own h.length fs.length 0 fs.length),(35,AI fs.length),(36,AI k)],h ++ [.row (some 2) (fs.map Flt.pv) 0,.box [.own h.length fs.length 0 fs.length]],[]⟩) (fun k=>k ≤ fs.length ∧ fltsF n (fs.drop k) = fltsF n fs) (fun k=>fs.length - k) 0 rfl ⟨by omega,by simp⟩ ?_
          rintro k ⟨hk,hp⟩
          rcases Nat.lt_or_ge k fs.length with hlt | hge
          · have hg := map_get Flt.pv hlt
            have w2 : IntKind.i64.wrap ((k : Int) + 1) = ((k + 1 : Nat) : Int):=i64_wrap _ (by omega) (by omega)
            have e:=fun h K=>s_CheckFault (h:=h) (K:=K) n fs[k] (by omega) (by have:=i1 _ (List.getElem_mem hlt); omega)
            have cx:=flt_cut (f:=fs[k])
            rw [List.drop_eq_getElem_cons hlt,fltsF] at hp
            simp only [Flt.pv] at hg cx e
            by_cases h4 : fltF n fs[k] = 0
            · rw [if_neg (by simp [h4])] at hp
              simp only [go_sem,hlt,hll,hg,cx,↓e,e,h4,w2]
              exact ⟨k + 1,rfl,⟨by omega,hp⟩,by omega⟩
            · rw [if_pos h4] at hp
              simp only [go_sem,hlt,hll,hg,cx,↓e,e,h4]
              rw [← hp,if_pos h4]
              rfl
          · have ek : k = fs.length := by omega
            subst ek
            rw [List.drop_length] at hp
            have hp : fltsF n fs = 0:=hp.symm
            simp only [go_sem,Nat.lt_irrefl]
            rw [e_q01a_k2]
            simp only [d_q01a_k2,go_sem,hp,hw,hll]
            first | done | rfl | trace_state
theorem frV_bd (g : List UInt8 → Bool × Flt) (n : Int) (s : List UInt8) (hg : ∀ l,(g l).2.nets.length ≤ l.length) (hs : s.length ≤ 900000) : (frV g n s).1.length ≤ 1000000 ∧ ∀ f ∈ (frV g n s).1,f.nets.length ≤ 1000000:=by
  obtain ⟨i1,i2⟩:=takeG_inv g (lnsT s) s.length (lnsD s) 0 [] (fun l hl=>Nat.le_trans (hg l) (lnsD_mem hl)) (by simp)
  have hD:=lnsD_len s
  rw [List.length_nil,Nat.zero_add] at i2
  unfold frV
  split
  · simp
  · split
    · simp
    · split
      · simp
      · split
        · simp
        · split
          · simp
          · exact ⟨by dsimp only; omega,fun f hf=>by have:=i1 f hf; omega⟩
theorem flts_all {n : Int} : ∀ {l : List Flt},fltsF n l = 0 → ∀ f ∈ l,fltF n f = 0
  | [],_,f,hf=>by simp at hf
  | x :: r,h,f,hf=>by
    unfold fltsF at h
    by_cases hx : fltF n x = 0
    · rw [if_neg (by simp [hx])] at h
      rcases List.mem_cons.1 hf with rfl | hf
      · exact hx
      · exact flts_all h f hf
    · rw [if_pos hx] at h
      exact absurd h hx
end Go.Am
end
section
/- Sorting the middle of a row: printed by program. -/
open Go
set_option linter.unusedSimpArgs false
namespace Go.Am
attribute [-go_sem] PV.cells splice
variable {h : Heap} {K : Post}
theorem insOrdO_int (id n o : Nat) (pre l tl : List PV) (ho : pre.length = o) (hn : n = o + (l.length + tl.length)) (hs : shps none l) (hl : l.length ≤ 1000) (hh : h[id]? = some (.row none (pre ++ (l ++ tl)) 0)) {lt : PV → PV → Bool} (hc : ∀ x ∈ l,∀ y ∈ l,∀ (h : Heap) (K : Post),ACall X f_q00w [.p x,.p y] h K = K (AB (lt x y)) h []) :
    ACall X f_q06k [.own id n o l.length,AI 0,AI l.length] h K = K (.tup []) (h.set id (.row none (pre ++ (isort lt l ++ tl)) 0)) []:=by
  refine rule ?_
  rw [c_q06k]
  have hid:=get_lt hh
  have hst : ∀ o,(h.set id o)[id]? = some o:=fun o=>set_get' hid
  have pg : ∀ (r : List PV) k,(pre ++ r)[o + k]? = r[k]?:=fun r k=>by rw [← ho,app_get]
  have ps : ∀ (r : List PV) k v,(pre ++ r).set (o + k) v = pre ++ r.set k v:=fun r k v=>by rw [← ho,app_set]
  simp only [d_q06k,go_sem,show IntKind.i64.wrap 1 = 1 from rfl]
  refine N_loop (fun i : Nat=>⟨[(0,.own id n o l.length),(1,AI 0),(2,AI l.length),(6,AI i)],h.set id (.row none (pre ++ ((isortR lt (l.take i)).reverse ++ (l.drop i ++ tl))) 0),[]⟩) (fun i=>1 ≤ i ∧ (i ≤ l.length ∨ i = 1)) (fun i=>l.length - i) 1 ?_ (by simp) ?_
  · have : (isortR lt (l.take 1)).reverse ++ (l.drop 1 ++ tl) = l ++ tl := by cases l <;> rfl
    rw [this,set_self hh]; rfl
  rintro i ⟨hi1,hi2⟩
  rcases Nat.lt_or_ge i l.length with hlt | hge
  · simp only [go_sem, hlt]
    have hxl : l[i] ∈ l:=List.getElem_mem hlt
    generalize hx : l[i] = x at *
    generalize hR : isortR lt (l.take i) = R
    have hRl : R.length = i:=by rw [← hR,isortR_len]; simp; omega
    have hRm : ∀ z ∈ R,z ∈ l:=fun z hz=>List.mem_of_mem_take ((isortR_perm lt (l.take i)).mem_iff.1 (by rw [hR]; exact hz))
    have hdrop : l.drop i = x :: l.drop (i + 1):=by rw [← hx]; exact List.drop_eq_getElem_cons hlt
    have hnext : isortR lt (l.take (i + 1)) = insR lt x R:=by rw [isortR_take_succ _ _ _ hlt,hR,hx]
    refine N_loop (fun t : List PV × List PV=>⟨[(0,.own id n o l.length),(1,AI 0),(2,AI l.length),(6,AI i),(7,AI t.1.length)],h.set id (.row none (pre ++ (t.1.reverse ++ x :: t.2)) 0),[]⟩)
      (fun t=>∃ B,R = B ++ t.1 ∧ t.2 = B.reverse ++ (l.drop (i + 1) ++ tl) ∧ ∀ b ∈ B,lt x b = true) (fun t=>t.1.length) (R,l.drop (i + 1) ++ tl) (by rw [hdrop,hRl]; rfl) ⟨[],rfl,rfl,by simp⟩ ?_
    rintro ⟨A,C⟩ ⟨B,q1,q2,q3⟩
    dsimp only at q1 q2 q3
    have hlen : (pre ++ (A.reverse ++ x :: C)).length = n:=by
      have : R.length = B.length + A.length:=by rw [q1]; simp
      rw [q2]; simp; omega
    have hBA : B.length + A.length < l.length:=by
      have : R.length = B.length + A.length:=by rw [q1]; simp
      omega
    have hln : o + l.length ≤ n:=by omega
    have w1 : IntKind.i64.wrap ((i : Int) + 1) = ((i + 1 : Nat) : Int):=i64_wrap _ (by omega) (by omega)
    cases A with
    | nil=>
      have hd : insR lt x R = B ++ [x]:=by rw [q1]; exact ins_done lt x [] B q3 (fun y r h=>by cases h)
      simp only [go_sem,Int.lt_irrefl,w1]
      refine ⟨i + 1,?_,by omega,by omega⟩
      simp only [hnext,hd,q2,List.reverse_append,List.reverse_nil,List.nil_append,List.reverse_cons,List.append_assoc,List.cons_append]
    | cons y A=>
      have hyl : y ∈ l:=hRm y (by rw [q1]; simp)
      have g1:=ins_get (y :: A) C x
      have g2:=ins_get1 A C x y
      have sw:=ins_swap A C x y
      simp only [List.length_cons] at hBA
      generalize hrow : (y :: A).reverse ++ x :: C = row at *
      have hsl : ∀ k v,(pre ++ row.set k v).length = n:=fun k v=>by rw [← hlen]; simp
      simp only [List.length_cons] at g1
      have w2 : IntKind.i64.wrap (((A.length + 1 : Nat) : Int) - 1) = (A.length : Int):=by rw [i64_wrap _ (by omega) (by omega)]; omega
      have p1 : (0 : Int) < ((A.length + 1 : Nat) : Int):=by omega
      have b1 : A.length + 1 < l.length:=by omega
      have b2 : A.length < l.length:=by omega
      have cx:=shp_cut (hs x hxl)
      have cy:=shp_cut (hs y hyl)
      have hcc:=fun h K=>hc x hxl y hyl h K
      cases hxy : lt x y with
      | false=>
        have hd : insR lt x R = B ++ x :: y :: A:=by rw [q1]; exact ins_done lt x (y :: A) B q3 (fun z r h=>by cases h; exact hxy)
        simp only [go_sem,hst,p1,hlen,pg,ps,g1,g2,w2,b1,b2,hln,cx,cy,hcc,hxy,w1]
        refine ⟨i + 1,?_,by omega,by omega⟩
        simp only [hnext,hd,← hrow,q2,List.reverse_append,List.reverse_cons,List.append_assoc,List.cons_append,List.nil_append]
      | true=>
        have g3 : (row.set (A.length + 1) y)[A.length]? = some y:=by rw [List.getElem?_set_ne (by omega),g2]
        have lx:=shp_len (hs x hxl)
        have ly:=shp_len (hs y hyl)
        have sx:=shp_all (hs x hxl)
        have sy:=shp_all (hs y hyl)
        simp only [shSize] at lx ly
        have t1:=fun i xs h1=>shp_st (hs x hxl) (hs y hyl) id i 0 xs h1
        have t2:=fun i xs h1=>shp_st (hs y hyl) (hs x hxl) id i 0 xs h1
        simp only [go_sem,hst,p1,hlen,hsl,pg,ps,g1,g2,g3,w2,b1,b2,hln,cx,cy,hcc,hxy,lx,ly,sx,sy,t1,t2,sw]
        refine ⟨(A,y :: C),rfl,⟨B ++ [y],by simp [q1],by simp [q2],fun b hb=>?_⟩,by simp⟩
        rw [List.mem_append,List.mem_singleton] at hb
        rcases hb with hb | rfl
        · exact q3 b hb
        · exact hxy
  · have hge' : ¬ i < l.length := by omega
    have e1 : l.take i = l:=List.take_of_length_le hge
    have e2 : l.drop i = []:=List.drop_of_length_le hge
    simp only [go_sem,hge',e1,e2]
    rfl
theorem SortO_int (id n o : Nat) (pre l tl : List PV) (ho : pre.length = o) (hn : n = o + (l.length + tl.length)) (hs : shps none l) (hl : l.length ≤ 12) (hh : h[id]? = some (.row none (pre ++ (l ++ tl)) 0)) {lt : PV → PV → Bool} (hc : ∀ x ∈ l,∀ y ∈ l,∀ (h : Heap) (K : Post),ACall X f_q00w [.p x,.p y] h K = K (AB (lt x y)) h []) :
    ACall X f_q069 [.own id n o l.length] h K = K (.tup []) (h.set id (.row none (pre ++ (isort lt l ++ tl)) 0)) []:=by
  refine rule ?_
  rw [c_q069]
  have w0 : IntKind.u64.wrap (l.length : Int) = l.length:=u64_wrap _ (by omega) (by omega)
  obtain ⟨m,hm⟩:=len_any (l.length : Int) (by omega) (by omega)
  have is:=fun h' (hq : h' = h) K=>insOrdO_int (h:=h) (K:=K) id n o pre l tl ho hn hs (by omega) hh hc
  have key : ∀ K : Post,ACall X f_q06z [.own id n o l.length,AI 0,AI l.length,AI m] h K = K (.tup []) (h.set id (.row none (pre ++ (isort lt l ++ tl)) 0)) []:=by
    intro K
    refine rule ?_
    rw [c_q06z]
    simp only [d_q06z,go_sem]
    refine N_loop (fun _ : Unit=>⟨[(0,.own id n o l.length),(1,AI 0),(2,AI l.length),(3,AI m),(8,AB true),(9,AB true)],h,[]⟩) (fun _=>True) (fun _=>0) () rfl trivial ?_
    intro _ _
    have w1 : IntKind.i64.wrap ((l.length : Int) - 0) = l.length:=by rw [i64_wrap _ (by omega) (by omega)]; omega
    have b1 : ((l.length : Int) ≤ 12):=by omega
    simp only [go_sem,w1,b1,is _ rfl]
  simp only [d_q069,go_sem,w0,hm,key]
end Go.Am
end
section
/- What is drawn: orders,tests. -/
open Go
set_option linter.all false
namespace Go.Am
variable {L : List Int} {a : Int} {h l : Heap} {id : Nat} {K : Post}
def GenK (f : Nat) (args : List AV) (L : List Int) (a : Int) (sh : Sh) (Q : List PV → Int → Prop) : Prop:=∀ (h : Heap) (id : Nat),h[id]? = some (strm L a) → ∃ xs a2,Q xs a2 ∧ ∀ K : Post,ACall X f (.ref id 0 :: args) h K = K (.own h.length xs.length 0 xs.length) (h.set id (strm L a2) ++ [.row sh xs 0]) []
theorem GenK.of {f : Nat} {args : List AV} {L : List Int} {a : Int} {sh : Sh} {Q : List PV → Int → Prop} (H : ∀ (h : Heap) (id : Nat),id < h.length → ACall X f (.ref id 0 :: args) (h.set id (strm L a)) fun v1 h1 x1=>∃ xs a2,Q xs a2 ∧ v1 = .own h.length xs.length 0 xs.length ∧ h1 = h.set id (strm L a2) ++ [.row sh xs 0] ∧ x1 = []) : GenK f args L a sh Q:=by
  intro h id hh
  have hid:=get_lt hh
  have k:=H h id hid
  rw [set_self hh] at k
  obtain ⟨v,h',x,⟨xs,a2,q,e0,e1,e2⟩,r⟩:=ACall.one X_noNext k
  subst e0; subst e1; subst e2
  exact ⟨xs,a2,q,r⟩
theorem swap_perm (l : List Int) (i k : Nat) (hi : i < l.length) (hk : k < l.length) : ((l.set i l[k]).set k l[i]).Perm l:=by
  have h:=Array.swap_perm (xs:=l.toArray) (i:=i) (j:=k) (by simpa using hi) (by simpa using hk)
  rw [Array.perm_iff_toList_perm] at h
  simpa [Array.swap_def] using h
def upI (n : Nat) : List Int:=(List.range n).map fun (k : Nat)=>(k : Int)
theorem upI_succ (n : Nat) : upI (n + 1) = upI n ++ [(n : Int)]:=by unfold upI; rw [List.range_succ,List.map_append]; rfl
theorem upI_len (n : Nat) : (upI n).length = n:=by simp [upI]
theorem upI_mem {n : Nat} {x : Int} : x ∈ upI n ↔ 0 ≤ x ∧ x < n:=by
  unfold upI
  simp only [List.mem_map,List.mem_range]
  constructor
  · rintro ⟨k,hk,rfl⟩; omega
  · intro ⟨h1,h2⟩; exact ⟨x.toNat,by omega,by omega⟩
theorem g_Order (n : Nat) (hn : n ≤ 1000) (hp : posN 2000 a) : GenK f_q03y [AI n] L a none (fun xs a2=>a ≤ a2 ∧ a2 ≤ a + n ∧ ∃ l : List Int,l.Perm (upI n) ∧ xs = l.map eI):=by
  refine GenK.of fun h id hid=>?_
  rw [c_q03y rfl]
  have hid' : id ≤ h.length:=by omega
  simp only [d_q03y,go_sem,hid]
  refine N_loop (fun k : Nat=>⟨[(0,.ref id 0),(1,AI n),(5,.own h.length k 0 k),(9,AI n),(10,AI k)],h.set id (strm L a) ++ [.row none ((upI k).map eI) 0],[]⟩) (fun k=>k ≤ n) (fun k=>n - k) 0 rfl (by omega) ?_
  intro k hk
  have hkl : ((upI k).map eI).length = k:=by rw [List.length_map,upI_len]
  rcases Nat.lt_or_ge k n with hlt | hge
  · have w2 : IntKind.i64.wrap ((k : Int) + 1) = ((k + 1 : Nat) : Int) := i64_wrap _ (by omega) (by omega)
    have hmx : k + 1 ≤ maxSl:=by unfold maxSl; omega
    simp only [go_sem,hid,hid',hlt,hkl,hmx,w2]
    refine ⟨k + 1,?_,by omega,by omega⟩
    rw [upI_succ,List.map_append]; rfl
  · have ek : k = n := by omega
    subst ek
    have w3 : IntKind.i64.wrap ((k : Int) - 1) = (k : Int) - 1:=i64_wrap _ (by omega) (by omega)
    simp only [go_sem,hid,hid',Nat.lt_irrefl,w3]
    refine N_loop (fun t : List Int × Int × Int=>⟨[(0,.ref id 0),(5,.own h.length k 0 k),(7,AI t.2.1)],h.set id (strm L t.2.2) ++ [.row none (t.1.map eI) 0],[]⟩)
      (fun t=>t.1.Perm (upI k) ∧ -1 ≤ t.2.1 ∧ t.2.1 < k ∧ a ≤ t.2.2 ∧ t.2.2 + t.2.1 + 1 ≤ a + k) (fun t=>t.2.1.toNat) (upI k,(k : Int) - 1,a) rfl ⟨List.Perm.refl _,by simp; omega,by simp; omega,by simp,by simp; omega⟩ ?_
    rintro ⟨l,i,b⟩ ⟨q1,q2,q3,q4,q5⟩
    dsimp only at q1 q2 q3 q4 q5 ⊢
    have hll : l.length = k:=by rw [q1.length_eq,upI_len]
    have hlm : (l.map eI).length = k:=by rw [List.length_map,hll]
    by_cases hi : 0 < i
    · have pb := posN_le (n := 0) hp q4 (by omega)
      obtain ⟨n1,n2⟩:=nextV_bd L b (i + 1) (by omega) (by omega)
      have w4 : IntKind.i64.wrap (i + 1) = i + 1:=i64_wrap _ (by omega) (by omega)
      have w5 : IntKind.i64.wrap (i - 1) = i - 1:=i64_wrap _ (by omega) (by omega)
      have e1:=natOf_int (k:=.i64) n1
      have e2:=natOf_int (k:=.i64) (show 0 ≤ i by omega)
      obtain ⟨c,hc⟩ : ∃ c,nextV L b (i + 1) = c:=⟨_,rfl⟩
      rw [hc] at n1 n2 e1
      have b1 : c.toNat < k:=by omega
      have b2 : i.toNat < k:=by omega
      have g1:=map_get eI (l:=l) (k:=c.toNat) (by omega)
      have g2:=map_get eI (l:=l) (k:=i.toNat) (by omega)
      have hsw:=swap_perm l i.toNat c.toNat (by omega) (by omega)
      have g3 : ((l.set i.toNat l[c.toNat]).map eI)[c.toNat]? = some (eI ((l.set i.toNat l[c.toNat])[c.toNat]'(by simp; omega))):=map_get eI (by simp; omega)
      have m1 : (l.map eI).set i.toNat (eI l[c.toNat]) = (l.set i.toNat l[c.toNat]).map eI:=by rw [List.map_set]
      have m2 : ((l.set i.toNat l[c.toNat]).map eI).set c.toNat (eI l[i.toNat]) = ((l.set i.toNat l[c.toNat]).set c.toNat l[i.toNat]).map eI:=List.map_set.symm
      have hl2 : ((l.set i.toNat l[c.toNat]).map eI).length = k:=by simp [hll]
      simp only [go_sem,hid,hid',hi,w4,pb,hc,e1,e2,hlm,b1,b2,g1,g2,m1,g3,m2,hl2,w5]
      exact ⟨((l.set i.toNat l[c.toNat]).set c.toNat l[i.toNat],i - 1,b + 1),rfl,⟨hsw.trans q1,by dsimp only; omega,by dsimp only; omega,by dsimp only; omega,by dsimp only; omega⟩,by dsimp only; omega⟩
    · simp only [go_sem, hi]
      refine ⟨l.map eI,b,⟨q4,by omega,l,q1,rfl⟩,by rw [hlm],?_⟩
      exact List.take_of_length_le (by simp)
end Go.Am
end
