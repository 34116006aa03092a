/- Texts of the proof, laid together: AmN, AmA, AmU, Am19, Am20, AmD, AmE, AmF. -/
import Derived.Lib.UnsafeStr
import Derived.Lib.Builder
import Derived.Laws.Externs
import GoSem.Extern.Table
import Derived.Orders
import Derived.Test.YtilloflkgbfjfaaDoorlawSM2
set_option linter.all false
section
/- The abstract machine,part N: ranges over maps,whatever the order. -/
set_option linter.unusedSimpArgs false
set_option linter.unusedVariables false
set_option maxHeartbeats 1000000
namespace Go.Am
variable {h h' : Heap} {μ μ' : Mu} {w w' : World} {P : Program} {M M' : Mem}
def chkRange (P : Program) (t : TypeId) : Bool:=match P.underlying t with
  | some (.map _ _)=>true
  | _=>false
theorem run_getAt {b s l : Nat} {m : Option Nat} {seen : Array Nat} (hb : w.heap[b]? = some (.mapIter m s seen l)) : (getObj b).run P w = .ok (.mapIter m s seen l) w:=by
  simp [getObj,Sem.run,hb]
theorem run_setAt {b s l : Nat} {m : Option Nat} {seen : Array Nat} (o' : Go.Obj) (hb : w.heap[b]? = some (.mapIter m s seen l)) : (setObj b o').run P w = .ok () (setBlk w b o'):=by
  simp [setObj,Sem.run,hb,setBlk]
theorem mrange_ok {t : TypeId} (hc : chkRange P t = true) {ev : Opd → AV} {p : Opd} {x : Value} {v : AV} {h1 : Heap} {e : Esc} (H : HeapRel h μ w) (Rp : RAV (imm h μ w) h μ (ev p) x)
    (he : aop (.mrange p) ev h = some (v,h1,e)) : OpOk P (do pure (.value (← Instr.range t x))) h μ w v h1 e:=by
  have hu : ∃ a b,P.underlying t = some (.map a b):=by
    unfold chkRange at hc
    split at hc
    · rename_i a b hu; exact ⟨a,b,hu⟩
    · cases hc
  obtain ⟨ka,kb,hu⟩:=hu
  simp only [aop] at he
  split at he
  · rename_i id es c hm
    simp only [Option.some.injEq,Prod.mk.injEq] at he
    obtain ⟨rfl,rfl,rfl⟩:=he
    obtain ⟨b,n,ces,rfl,A⟩:=map_at H Rp hm
    have hrun : (Instr.range t (.map (some b))).run P w = .ok (.pointer (some ⟨w.heap.size,0,none⟩)) { w with heap:=w.heap.push (.mapIter (some b) c #[] c) }:=by
      unfold Instr.range
      rw [Sem.run_bind,run_underlying_of hu]
      simp only [Result.andThen_ok]
      rw [Sem.run_bind,run_getMap A.hb]
      simp only [Result.andThen_ok]
      rfl
    obtain ⟨n1,n2⟩:=H.push (WExt.push w (.mapIter (some b) c #[] c)) (.iter (some id) c [] c) (some (w.heap.size,0)) (fun b n e=>by injection e with e; injection e with e1 e2; subst e1; exact ⟨Nat.le_refl _,by simp⟩)
      (fun M' E=>⟨w.heap.size,0,rfl,⟨b,n,es,c,get_left A.hm,get_left A.ho,by simp⟩⟩)
    exact ⟨_,_,_,run_v hrun,.inl ⟨_,rfl,.it h.length w.heap.size 0 (some id) c [] c (by simp) (by rw [← H.len]; simp)⟩,n1,n2,EscInv.push (by
      have:=lt_of_get A.ho
      simp only [Obj.top]; omega)⟩
  · split at he
    · rename_i hp
      simp only [Option.some.injEq,Prod.mk.injEq] at he
      obtain ⟨rfl,rfl,rfl⟩:=he
      rw [hp] at Rp
      cases Rp
      have hrun : (Instr.range t (.map none)).run P w = .ok (.pointer (some ⟨w.heap.size,0,none⟩)) { w with heap:=w.heap.push (.mapIter none 0 #[] 0) }:=by
        unfold Instr.range
        rw [Sem.run_bind,run_underlying_of hu]
        simp only [Result.andThen_ok]
        rfl
      obtain ⟨n1,n2⟩:=H.push (WExt.push w (.mapIter none 0 #[] 0)) (.iter none 0 [] 0) (some (w.heap.size,0)) (fun b n e=>by injection e with e; injection e with e1 e2; subst e1; exact ⟨Nat.le_refl _,by simp⟩)
        (fun M' E=>⟨w.heap.size,0,rfl,fun _=>by simp⟩)
      exact ⟨_,_,_,run_v hrun,.inl ⟨_,rfl,.it h.length w.heap.size 0 none 0 [] 0 (by simp) (by rw [← H.len]; simp)⟩,n1,n2,EscInv.push (by simp [Obj.top])⟩
    · cases he
theorem iter_at {id : Nat} {mm : Option Nat} {since : Nat} {seen : List Nat} {last : Nat} {x : Value} (H : HeapRel h μ w) (R : RAV (imm h μ w) h μ (.it id) x) (hi : h[id]? = some (.iter mm since seen last)) :
    ∃ b n,x = .pointer (some ⟨b,0,none⟩) ∧ μ[id]? = some (some (b,n)) ∧ (match (generalizing:=false) mm with
      | none=>since = 0 → w.heap[b]? = some (.mapIter none 0 #[] 0)
      | some i=>∃ bm nm es c,μ[i]? = some (some (bm,nm)) ∧ h[i]? = some (.amap es c) ∧ w.heap[b]? = some (.mapIter (some bm) since seen.toArray last)):=by
  cases R with | it _ b n m s sn l ho hm=>
  obtain ⟨b',n',hb',k1⟩:=H.obj _ _ _ hi hm
  injection hb' with hb'; injection hb' with hb1 hb2
  subst hb1
  exact ⟨_,_,rfl,hm,k1⟩
theorem mentry_ok {ev : Opd → AV} {p : Opd} {x : Value} {v : AV} {h1 : Heap} {e : Esc} (H : HeapRel h μ w) (Rp : RAV (imm h μ w) h μ (ev p) x)
    (he : aop (.mentry p) ev h = some (v,h1,e)) : OpOk P (do pure (.value (← Instr.entry x))) h μ w v h1 e:=by
  simp only [aop] at he
  split at he
  · rename_i id hp
    split at he
    · rename_i mi since seen last hi
      split at he
      · rename_i mid es c bo hm hl
        rw [hp] at Rp
        obtain ⟨b,n,rfl,hmu,bm,nm,es',c',k1,k2,k3⟩:=iter_at H Rp hi
        split at he
        · rename_i hcl
          simp only [Option.map_eq_some_iff,Prod.mk.injEq] at he
          obtain ⟨e0,hf,rfl,rfl,rfl⟩:=he
          have hm2 : h[mi]? = some (.amap es c):=by
            have:=(mget_inv hm).2
            have:=(mget_inv hm).1
            injection this with this
            subst this
            assumption
          have hmi : mid = mi:=by have:=(mget_inv hm).1; injection this with this; exact this.symm
          rw [k2] at hm2
          injection hm2 with hm2
          injection hm2 with q1 q2
          subst q1; subst q2
          obtain ⟨b3,n3,ces,hb3,w1,w2,w4,w3⟩:=H.obj _ _ _ k2 k1
          injection hb3 with hb3; injection hb3 with hb31 hb32
          subst hb31
          rw [List.find?_eq_some_iff_getElem] at hf
          obtain ⟨hb0,i,hi1,hei,hlt⟩:=hf
          have hi2 : i < ces.size:=by omega
          obtain ⟨q1,q2,q3,q4⟩:=w3 i _ _ (List.getElem?_eq_getElem hi1) (Array.getElem?_eq_getElem hi2)
          have hfind : ces.find? (·.born == bo) = some ces[i]:=by
            rw [Array.find?_eq_some_iff_getElem]
            refine ⟨by rw [q4,hei]; exact hb0,i,hi2,rfl,fun j hj=>?_⟩
            obtain ⟨_,_,_,q5⟩:=w3 j _ _ (List.getElem?_eq_getElem (show j < es'.length by omega)) (Array.getElem?_eq_getElem (show j < ces.size by omega))
            have:=hlt j hj
            rw [q5]; simpa using this
          have hback : seen.toArray.back? = some bo:=by rw [List.back?_toArray]; exact hl
          have hrun : (Instr.entry (.pointer (some ⟨b,0,none⟩))).run P w = .ok (.tuple #[ces[i].key,ces[i].val]) w:=by
            unfold Instr.entry
            simp only [Sem.run_bind,Sem.run_pure,Result.andThen_ok,run_getAt k3,hback,run_getMap w1,hcl,hfind]
            simp
          refine OpOk.pure H (run_v hrun) (.tup _ [ces[i].key,ces[i].val] rfl (fun j a c h1 h2=>?_))
          rw [hei] at q1 q3
          match j with
          | 0=>simp at h1 h2; subst h1; subst h2; exact .p _ _ q1
          | 1=>simp at h1 h2; subst h1; subst h2; exact q3
          | j + 2=>simp at h1
        · cases he
      · cases he
    · cases he
  · cases he
theorem left_rel {es : List ME} {ces : Array MapEntry} {seen : List Nat} (hsz : ces.size = es.length) (hb : ∀ (i : Nat) (e : ME) (ce : MapEntry),es[i]? = some e → ces[i]? = some ce → ce.born = e.born) :
    ∀ ce ∈ (ces.filter fun e=>!seen.toArray.contains e.born).toList,∃ (i : Nat) (e : ME),es[i]? = some e ∧ ces[i]? = some ce ∧ e ∈ es.filter fun e=>!seen.contains e.born:=by
  intro ce hce
  rw [Array.toList_filter,List.mem_filter] at hce
  obtain ⟨h1,h2⟩:=hce
  obtain ⟨i,hi,rfl⟩:=List.getElem_of_mem h1
  have hi1 : i < ces.size:=by simpa using hi
  have hi2 : i < es.length:=by omega
  have hc : ces[i]? = some ces[i]:=Array.getElem?_eq_getElem hi1
  have:=hb i _ _ (List.getElem?_eq_getElem hi2) hc
  refine ⟨i,es[i],List.getElem?_eq_getElem hi2,by simpa using hc,?_⟩
  rw [List.mem_filter]
  refine ⟨List.getElem_mem _,?_⟩
  rw [← this]
  simpa using h2
theorem left_none {es : List ME} {ces : Array MapEntry} {seen : List Nat} (hsz : ces.size = es.length) (hb : ∀ (i : Nat) (e : ME) (ce : MapEntry),es[i]? = some e → ces[i]? = some ce → ce.born = e.born)
    (h0 : (ces.filter fun e=>!seen.toArray.contains e.born) = #[]) : es.filter (fun e=>!seen.contains e.born) = []:=by
  rw [List.filter_eq_nil_iff]
  intro e he
  obtain ⟨i,hi,rfl⟩:=List.getElem_of_mem he
  have hi2 : i < ces.size:=by omega
  have:=hb i _ _ (List.getElem?_eq_getElem hi) (Array.getElem?_eq_getElem hi2)
  rw [Array.filter_eq_empty_iff] at h0
  have:=h0 ces[i] (Array.getElem_mem hi2)
  simp_all
theorem mnext_ok {ty : TypeId} {ev : Opd → AV} {p : Opd} {x : Value} {l : List (AV × Heap)} (H : HeapRel h μ w) (Rp : RAV (imm h μ w) h μ (ev p) x)
    (he : mnexts h (ev p) = some l) : ∃ y ∈ l,OpOk P (do pure (.value (← Instr.next x false ty))) h μ w y.1 y.2 []:=by
  unfold mnexts at he
  split at he
  · rename_i id hp
    rw [hp] at Rp
    split at he
    · rename_i s sn ls hi
      obtain ⟨b,n,rfl,hmu,k1⟩:=iter_at H Rp hi
      split at he
      case isFalse=>cases he
      rename_i hs0
      injection he with he
      subst he
      have k1:=k1 hs0
      refine ⟨_,List.mem_singleton.2 rfl,?_⟩
      have hrun : (Instr.next (.pointer (some ⟨b,0,none⟩)) false ty).run P w = .ok (.tuple #[.bool false]) w:=by
        unfold Instr.next
        simp [run_getAt k1]
      refine OpOk.pure H (run_v hrun) (.tup _ [.bool false] rfl (fun j a c h1 h2=>?_))
      match j with
      | 0=>simp at h1 h2; subst h1; subst h2; exact RAV.pbool _
      | j + 1=>simp at h1
    · rename_i mi since seen last hi
      obtain ⟨b,n,rfl,hmu,bm,nm,es',c',k1,k2,k3⟩:=iter_at H Rp hi
      split at he
      · rename_i mid es c hm
        have hm2:=(mget_inv hm).2
        have hmi : mi = mid:=by have:=(mget_inv hm).1; injection this
        subst hmi
        rw [k2] at hm2
        injection hm2 with hm2
        injection hm2 with q1 q2
        subst q1; subst q2
        obtain ⟨b3,n3,ces,hb3,w1,w2,w4,w3⟩:=H.obj _ _ _ k2 k1
        injection hb3 with hb3; injection hb3 with hb31 hb32
        subst hb31
        split at he
        · rename_i hcs
          obtain ⟨rfl,rfl⟩:=hcs
          have hbo : ∀ (i : Nat) (e : ME) (ce : MapEntry),es'[i]? = some e → ces[i]? = some ce → ce.born = e.born:=fun i e ce a1 a2=>(w3 i e ce a1 a2).2.2.2
          have hblt : ∀ ce ∈ ces,ce.born < last:=by
            intro ce hce
            obtain ⟨i,hi1,rfl⟩:=Array.getElem_of_mem hce
            have hi2 : i < es'.length:=by omega
            rw [hbo i _ _ (List.getElem?_eq_getElem hi2) (Array.getElem?_eq_getElem hi1)]
            exact w4 _ (List.getElem_mem hi2)
          have huns : (!seen.toArray.isEmpty && !ces.isEmpty && ces.all (fun e=>decide (e.born ≥ last))) = false:=by
            cases hz : ces.isEmpty with
            | true=>simp
            | false=>
              have h0 : 0 < ces.size:=by
                rcases Nat.eq_zero_or_pos ces.size with q | q
                · rw [Array.isEmpty_iff_size_eq_zero.2 q] at hz; cases hz
                · exact q
              have : ces.all (fun e=>decide (e.born ≥ last)) = false:=by
                rw [Bool.eq_false_iff]
                intro hall
                rw [Array.all_eq_true_iff_forall_mem] at hall
                have q1:=hall ces[0] (Array.getElem_mem h0)
                have q2:=hblt ces[0] (Array.getElem_mem h0)
                simp at q1; omega
              simp [this]
          have hold : (ces.filter fun e=>!seen.toArray.contains e.born).filter (fun e=>decide (e.born < last)) = ces.filter fun e=>!seen.toArray.contains e.born:=by
            rw [Array.filter_eq_self]
            intro ce hce
            rw [Array.mem_filter] at hce
            simpa using hblt ce hce.1
          have hnew : (ces.filter fun e=>!seen.toArray.contains e.born).filter (fun e=>decide (e.born ≥ last)) = #[]:=by
            rw [Array.filter_eq_empty_iff]
            intro ce hce
            rw [Array.mem_filter] at hce
            have:=hblt ce hce.1
            simp; omega
          generalize hL : (ces.filter fun e=>!seen.toArray.contains e.born) = L at *
          have hbody : ∀ (q : Nat) (w1' : World),(choose (.mapNext ((if L.isEmpty then #[none] else #[]) ++ (L ++ #[]).map some).size)).run P w = .ok q w1' → WExt w w1' →
              (Instr.next (.pointer (some ⟨b,0,none⟩)) false ty).run P w = (match ((if L.isEmpty then #[none] else #[]) ++ (L ++ #[]).map some)[q]? with
                | some (some e)=>(do setObj b (.mapIter (some bm) last (seen.toArray.push e.born) last); pure (.tuple #[.bool true,e.key,e.val]) : Sem Value)
                | some none=>pure (.tuple #[.bool false])
                | none=>stuck "Next: no such candidate").run P w1':=by
            intro q w1' hch _
            unfold Instr.next
            simp only [Sem.run_bind,Sem.run_pure,Result.andThen_ok,run_getAt k3,run_getMap w1,huns,Bool.false_eq_true,if_false,hL,hold,hnew,hch]
            rfl
          have hlen : es'.filter (fun e=>!seen.contains e.born) = [] ∨ L ≠ #[]:=by
            by_cases h0 : L = #[]
            · left; exact left_none w2 hbo (by rw [hL]; exact h0)
            · right; exact h0
          by_cases h0 : L = #[]
          · subst h0
            have hnil:=left_none w2 hbo hL
            rw [hnil] at he
            injection he with he
            subst he
            refine ⟨_,List.mem_singleton.2 rfl,?_⟩
            have hch : (choose (.mapNext ((if (#[] : Array MapEntry).isEmpty then #[none] else #[]) ++ ((#[] : Array MapEntry) ++ #[]).map some).size)).run P w = .ok 0 w:=by
              simp [Question.forced]
            have:=hbody 0 w hch (WExt.refl w)
            have hrun : (Instr.next (.pointer (some ⟨b,0,none⟩)) false ty).run P w = .ok (.tuple #[.bool false]) w:=by
              rw [this]; simp
            have hμ : μ.set id (some (b,n)) = μ:=by
              apply List.ext_getElem?
              intro j
              rw [List.getElem?_set]
              split
              · rename_i hj; subst hj; rw [if_pos (lt_of_get hmu),hmu]
              · rfl
            have:=H.set (w':=w) (id:=id) (o:=.iter (some mi) last seen last) (o':=.iter none 1 [] 0) (m:=some (b,n)) (m':=some (b,n)) hi hmu ⟨⟨_,_,_,_,rfl⟩,rfl⟩ rfl (Nat.le_refl _)
              (fun b' _ hne=>rfl) (fun b' n' e=>.inl ⟨n',e⟩) (fun b' n' sh xs fz _ e=>by cases e)
              (fun M' E=>⟨b,n,rfl,fun e=>by cases e⟩) (fun _ _ _ _ h=>h)
            rw [hμ] at this
            obtain ⟨n1,n2⟩:=this
            refine ⟨_,_,_,run_v hrun,.inl ⟨_,rfl,.tup _ [.bool false] rfl (fun j a c h1 h2=>?_)⟩,n1,n2,EscInv.set hi (by simp only [Obj.top,escTop]; omega)⟩
            match j with
            | 0=>simp at h1 h2; subst h1; subst h2; exact RAV.pbool _
            | j + 1=>simp at h1
          · have hne : L.isEmpty = false:=by
              cases hz : L.isEmpty with
              | false=>rfl
              | true=>exact absurd (Array.isEmpty_iff.1 hz) h0
            have hpos : 0 < L.size:=by
              rcases Nat.eq_zero_or_pos L.size with q | q
              · exact absurd (Array.eq_empty_of_size_eq_zero q) h0
              · exact q
            have hcand : ((if L.isEmpty then #[none] else #[]) ++ (L ++ #[]).map some) = L.map some:=by rw [hne]; simp
            obtain ⟨q,w1',hch,hq,hext⟩ : ∃ q w1',(choose (.mapNext ((if L.isEmpty then #[none] else #[]) ++ (L ++ #[]).map some).size)).run P w = .ok q w1' ∧ q < L.size ∧ WExt w w1':=by
              rw [hcand]
              simp only [Array.size_map,run_choose,Question.forced,Question.cut]
              by_cases h1 : L.size ≤ 1
              · exact ⟨0,w,by simp [h1],by omega,WExt.refl w⟩
              · exact ⟨w.tape w.drawn (Question.mapNext L.size) % L.size,{ w with drawn:=w.drawn + 1 },by simp [h1],Nat.mod_lt _ hpos,WExt.drew w _⟩
            have hb:=hbody q w1' hch hext
            rw [hcand] at hb
            have hLq : (L.map some)[q]? = some (some L[q]):=by simp [hq]
            rw [hLq] at hb
            dsimp only at hb
            obtain ⟨i,e,he1,he2,he3⟩:=left_rel (seen:=seen) w2 hbo L[q] (by rw [hL]; simp)
            have hes : es'.filter (fun e=>!seen.contains e.born) ≠ []:=fun hn=>by rw [hn] at he3; cases he3
            have hl : l = (es'.filter (fun e=>!seen.contains e.born)).map fun e=>(.tup [pbool true,.p e.key,e.val],h.set id (.iter (some mi) last (seen ++ [e.born]) last)):=by
              split at he
              · rename_i hn; exact absurd hn hes
              · injection he with he; exact he.symm
            obtain ⟨q1,q2,q3,q4⟩:=w3 i e _ he1 he2
            have k3' : w1'.heap[b]? = some (.mapIter (some bm) last seen.toArray last):=by rw [hext.right b (blk_lt k3)]; exact k3
            have hrun : (Instr.next (.pointer (some ⟨b,0,none⟩)) false ty).run P w = .ok (.tuple #[.bool true,L[q].key,L[q].val]) (setBlk w1' b (.mapIter (some bm) last (seen.toArray.push L[q].born) last)):=by
              rw [hb,Sem.run_bind,run_setAt _ k3']
              rfl
            obtain ⟨H1,E1⟩:=H.ext hext
            have hμ : μ.set id (some (b,n)) = μ:=by
              apply List.ext_getElem?
              intro j
              rw [List.getElem?_set]
              split
              · rename_i hj; subst hj; rw [if_pos (lt_of_get hmu),hmu]
              · rfl
            have hidm : id ≠ mi:=fun e=>by subst e; rw [k2] at hi; cases hi
            have:=H1.set (w':=setBlk w1' b (.mapIter (some bm) last (seen.toArray.push L[q].born) last)) (id:=id) (o:=.iter (some mi) last seen last) (o':=.iter (some mi) last (seen ++ [e.born]) last) (m:=some (b,n)) (m':=some (b,n)) hi hmu ⟨⟨_,_,_,_,rfl⟩,rfl⟩ rfl (by rw [setBlk_size]; exact Nat.le_refl _)
              (fun b' _ hne=>setBlk_ne (fun e=>hne n (by rw [e]))) (fun b' n' e=>.inl ⟨n',e⟩) (fun b' n' sh xs fz _ e=>by cases e)
              (fun M' E=>⟨b,n,rfl,bm,nm,es',last,by rw [List.getElem?_set_ne hidm]; exact k1,by rw [List.getElem?_set_ne hidm]; exact k2,by
                rw [setBlk_at k3',← q4]; simp⟩)
              (fun b' n' t e ht=>by
                injection e with e
                injection e with e1 _
                subst e1
                unfold ety at ht
                rw [k3'] at ht
                cases ht)
            rw [hμ] at this
            obtain ⟨n1,n2⟩:=this
            refine ⟨(.tup [pbool true,.p e.key,e.val],h.set id (.iter (some mi) last (seen ++ [e.born]) last)),?_,_,_,_,run_v hrun,.inl ⟨_,rfl,.tup _ [.bool true,L[q].key,L[q].val] rfl (fun j a c h1 h2=>?_)⟩,n1,E1.trans n2,EscInv.set hi (by simp only [Obj.top,escTop]; omega)⟩
            · rw [hl]; exact List.mem_map.2 ⟨e,he3,rfl⟩
            · match j with
              | 0=>simp at h1 h2; subst h1; subst h2; exact RAV.pbool _
              | 1=>simp at h1 h2; subst h1; subst h2; exact .p _ _ (q1.mono (E1.trans n2).le)
              | 2=>simp at h1 h2; subst h1; subst h2; exact q3.evo (E1.trans n2)
              | j + 3=>simp at h1
        · cases he
      · cases he
    · cases he
  · cases he
theorem appq_ok {sh : Sh} {t u ty : TypeId} (hc : chkApp P sh t u = true) {ev : Opd → AV} {p q : Opd} {s x : Value} {l : List (AV × Heap)} (H : HeapRel h μ w) (Rs : RAV (imm h μ w) h μ (ev p) s) (Rx : RAV (imm h μ w) h μ (ev q) x)
    (he : choices h (some sh) ([p,q].map ev) = some l) : ∃ y ∈ l,OpOk P (do pure (.value (← Builtin.append_ #[t,u] ty #[s,x]))) h μ w y.1 y.2 []:=by
  simp only [List.map_cons,List.map_nil,choices] at he
  unfold appq at he
  split at he
  case h_2=>cases he
  rename_i sh' ys hr
  split at he
  case isFalse=>cases he
  rename_i hsh
  subst hsh
  have S:=src_sound (P:=P) H Rx hr
  obtain ⟨c,hck,hc2⟩:=S.2 ys.length (Nat.le_refl _)
  rw [List.take_length] at hc2
  have hck0 : (Builtin.firstCells (shSize sh') ys.length x).run P w = .ok c w:=hck w.drawn
  split at he
  case h_2=>cases he
  rename_i id g off len hs0
  split at he
  case h_2=>cases he
  rename_i rsh xs fz ho
  split at he
  case isTrue hcond=>
    obtain ⟨rfl,hg,hlen,hmax,hfz⟩:=hcond
    injection he with he
    subst he
    rw [hs0] at Rs
    have RR:=own_read H Rs ho hg
    obtain ⟨_,k2,a,cap,rfl,hlc,hcap⟩:=RR
    obtain ⟨m,hm,hO⟩:=obj_at H ho
    obtain ⟨kf,_,kO⟩:=hO
    subst hg
    by_cases hroom : len + ys.length ≤ cap
    · by_cases hc0 : 0 < cap
      · obtain ⟨b, n, c', hm', rfl, hB, hn1, hn2, hcell⟩ := hcap hc0
        refine ⟨_,List.mem_cons_self,?_⟩
        obtain ⟨w',r1,r2,r3,r4⟩:=row_write (P:=P) (at_:=xs.length) H ho hm' hB hc2 hfz (Nat.le_refl _) (Nat.le_trans (Nat.mul_le_mul_right _ (by omega)) hn1)
        rw [splice_end] at r2 r3 r4
        have hrun:=run_append_room' (ty:=ty) (base:=some ⟨b,off * shSize rsh,none⟩) (sLen:=len) (sCap:=cap) hc S.1 hck0 hroom (w':=w') (by
          have e : off * shSize rsh + len * shSize rsh = xs.length * shSize rsh:=by rw [← Nat.add_mul,hlen]
          simpa [add_at,e] using r1)
        refine ⟨_,_,_,run_v hrun,.inl ⟨_,rfl,?_⟩,r2,r3,r4⟩
        refine .own id (xs.length + ys.length) off (len + ys.length) _ cap rsh (xs ++ ys) fz (some (b,n)) hroom (set_same ho) hm' (by simp) (by omega) (fun _=>?_)
        right
        exact ⟨rfl,hn1⟩
      · have hl0 : len = 0 := by omega
        have hy0 : ys = []:=by apply List.length_eq_zero_iff.1; omega
        subst hy0; subst hl0
        have hcap0 : cap = 0:=by omega
        subst hcap0
        refine ⟨_,List.mem_cons_self,?_⟩
        have hrun:=run_append_room' (ty:=ty) (base:=a) (sLen:=0) (sCap:=0) hc S.1 hck0 (by simp) (w':=w) (by
          have : c.toList = []:=by apply List.length_eq_zero_iff.1; rw [hc2.1]; simp
          cases a with
          | none=>rfl
          | some a=>rw [this]; rfl)
        have hs : h.set id (.row rsh (xs ++ []) fz) = h:=by rw [List.append_nil]; exact set_eq_self ho
        rw [hs]
        refine ⟨_,_,_,run_v hrun,.inl ⟨_,rfl,?_⟩,H,Evo.refl _ _ _,EscInv.refl _ _⟩
        exact Rs
    · have hr0 : rds h (.own id xs.length off len) = some (rsh, win xs off len) := by simp [rds, rd, ho]; omega
      have hwl : (win xs off len).length = len:=by simp [win]; omega
      obtain ⟨newCap,n,w',c',g1,g2,g3,g4,g5,g6,g7,_⟩:=grow_run (ty:=ty) (base:=a) (sCap:=cap) (xs:=win xs off len) (v0:=.own id xs.length off len) hc H Rx hr (by omega) (by omega) (by rw [hwl]; exact Rs) hr0
      rw [hwl] at g1 g3
      obtain ⟨n1,n2⟩:=newRow' H g4 (Nat.le_refl _) g5 g6 (by rw [← g2]; exact Nat.mul_le_mul_right _ (by rw [List.length_append,hwl]; exact g1)) g7.2.1 g7.2.2
      refine ⟨_,List.mem_cons_of_mem _ List.mem_cons_self,?_⟩
      refine ⟨_,_,_,run_v g3,.inl ⟨_,rfl,?_⟩,n1,n2,EscInv.push (by simp [Obj.top])⟩
      refine .own h.length (len + ys.length) 0 (len + ys.length) _ newCap rsh (win xs off len ++ ys) 0 (some (w.heap.size,n)) g1 (by simp) (by rw [← H.len]; simp) (by simp [hwl]) (by simp) (fun _=>?_)
      right
      exact ⟨by simp,by rw [← g2]; simp⟩
  split at he
  case isFalse=>cases he
  rename_i hcond
  obtain ⟨rfl,hg,hlen,hfz,hmax⟩:=hcond
  injection he with he
  subst he
  rw [hs0] at Rs
  have RR:=own_read H Rs ho hg
  obtain ⟨_,k2,a,cap,rfl,hlc,hcap⟩:=RR
  obtain ⟨m,hm,hO⟩:=obj_at H ho
  obtain ⟨kf,_,kO⟩:=hO
  subst hg
  have hsl : ∀ zs : List PV,xs.length ≤ (splice xs (off + len) zs).length:=by intro zs; simp [splice]; omega
  have hsl2 : ∀ zs : List PV,off + len + zs.length ≤ (splice xs (off + len) zs).length:=by intro zs; simp [splice]; omega
  by_cases hroom : len + ys.length ≤ cap
  · by_cases hc0 : 0 < cap
    · obtain ⟨b, n, c', hm', rfl, hB, hn1, hn2, hcell⟩ := hcap hc0
      refine ⟨_,List.mem_cons_self,?_⟩
      obtain ⟨w',r1,r2,r3,r4⟩:=row_write (P:=P) (at_:=off + len) H ho hm' hB hc2 hfz (by omega) (Nat.le_trans (Nat.mul_le_mul_right _ (by omega)) hn1)
      have hrun:=run_append_room' (ty:=ty) (base:=some ⟨b,off * shSize rsh,none⟩) (sLen:=len) (sCap:=cap) hc S.1 hck0 hroom (w':=w') (by
        have e : off * shSize rsh + len * shSize rsh = (off + len) * shSize rsh:=by rw [← Nat.add_mul]
        simpa [add_at,e] using r1)
      refine ⟨_,_,_,run_v hrun,.inl ⟨_,rfl,?_⟩,r2,r3,r4⟩
      refine .own id (splice xs (off + len) ys).length off (len + ys.length) _ cap rsh (splice xs (off + len) ys) fz (some (b,n)) hroom (set_same ho) hm' (Nat.le_refl _) (by have:=hsl2 ys; omega) (fun _=>?_)
      right
      exact ⟨rfl,hn1⟩
    · have hl0 : len = 0 := by omega
      have hy0 : ys = []:=by apply List.length_eq_zero_iff.1; omega
      subst hy0; subst hl0
      have hcap0 : cap = 0:=by omega
      subst hcap0
      refine ⟨_,List.mem_cons_self,?_⟩
      have hrun:=run_append_room' (ty:=ty) (base:=a) (sLen:=0) (sCap:=0) hc S.1 hck0 (by simp) (w':=w) (by
        have : c.toList = []:=by apply List.length_eq_zero_iff.1; rw [hc2.1]; simp
        cases a with
        | none=>rfl
        | some a=>rw [this]; rfl)
      have hsp : splice xs (off + 0) [] = xs:=by simp [splice]
      have hs : h.set id (.row rsh (splice xs (off + 0) []) fz) = h:=by rw [hsp]; exact set_eq_self ho
      rw [hs]
      refine ⟨_,_,_,run_v hrun,.inl ⟨_,rfl,?_⟩,H,Evo.refl _ _ _,EscInv.refl _ _⟩
      rw [hsp]
      exact Rs
  · have hr0 : rds h (.own id xs.length off len) = some (rsh, win xs off len) := by simp [rds, rd, ho]; omega
    have hwl : (win xs off len).length = len:=by simp [win]; omega
    obtain ⟨newCap,n,w',c',g1,g2,g3,g4,g5,g6,g7,_⟩:=grow_run (ty:=ty) (base:=a) (sCap:=cap) (xs:=win xs off len) (v0:=.own id xs.length off len) hc H Rx hr (by omega) (by omega) (by rw [hwl]; exact Rs) hr0
    rw [hwl] at g1 g3
    obtain ⟨n1,n2⟩:=newRow' H g4 (Nat.le_refl _) g5 g6 (by rw [← g2]; exact Nat.mul_le_mul_right _ (by rw [List.length_append,hwl]; exact g1)) g7.2.1 g7.2.2
    refine ⟨_,List.mem_cons_of_mem _ List.mem_cons_self,?_⟩
    refine ⟨_,_,_,run_v g3,.inl ⟨_,rfl,?_⟩,n1,n2,EscInv.push (by simp [Obj.top])⟩
    refine .own h.length (len + ys.length) 0 (len + ys.length) _ newCap rsh (win xs off len ++ ys) 0 (some (w.heap.size,n)) g1 (by simp) (by rw [← H.len]; simp) (by simp [hwl]) (by simp) (fun _=>?_)
    right
    exact ⟨by simp,by rw [← g2]; simp⟩
end Go.Am
end
section
/- The abstract machine: rows whose elements name rows (made,put tov). -/
set_option linter.unusedSimpArgs false
set_option linter.unusedVariables false
namespace Go.Am
variable {h h' : Heap} {μ μ' : Mu} {w w' : World} {P : Program} {M M' : Mem}
theorem newNilA (H : HeapRel h μ w) (sh : Sh) :
    HeapRel (h ++ [.arow sh []]) (μ ++ [none]) w ∧ Evo (imm h μ w) h μ (imm (h ++ [.arow sh []]) (μ ++ [none]) w) (h ++ [.arow sh []]) (μ ++ [none]):=
  H.push (WExt.refl w) _ _ (fun b' n e=>by cases e) (fun M' E=>⟨by simp,rfl⟩)
theorem new10_ok {t : Nat} (H : HeapRel h μ w) : OpOk P (pure (.value (.slice none 0 0))) h μ w (.bt 3 t h.length 0) (h ++ [.arow (decSh t) []]) []:=by
  obtain ⟨k1,k2⟩:=newNilA H (decSh t)
  refine ⟨_,_,_,Sem.run_pure ..,.inl ⟨_,rfl,?_⟩,k1,k2,EscInv.push (by simp [Obj.top,AV.tops])⟩
  exact .bt3 t h.length 0 none 0 (.arow (decSh t) []) none (Nat.le_refl _) (by simp) (by rw [← H.len]; simp) (fun sh cs e=>by
    injection e with e1 e2
    subst e1; subst e2
    exact ⟨by simp,fun _=>by simp [OwnAt]⟩)
def chk9 (P : Program) (sh : Sh) (t : TypeId) : Bool:=match P.underlying t with
  | some (.slice e)=>shOf P e == some sh && decide (shSize sh ≤ 2 ^ 24) && decide (shSize sh ≠ 0) && (match P.info? e with
    | some i=>(match i.zero with | some v=>v.cells.size == shSize sh | none=>false)
    | none=>false)
  | _=>false
theorem build9_ok {t : TypeId} {sh : Sh} {e9 : Nat} (hsh : decSh e9 = sh) (hc : chk9 P sh t = true) {a : AV} {x : Value} {cs : List AV} (H : HeapRel h μ w) (R : RAV (imm h μ w) h μ a x) (hv : a.cells = some cs) (hl : cs.length = shSize sh) :
    OpOk P (do pure (.value (← Instr.buildSlice t 1 #[(0,x)]))) h μ w (.bt 3 e9 h.length 1) (h ++ [.arow sh cs]) []:=by
  unfold chk9 at hc
  split at hc
  case h_2=>cases hc
  rename_i el hu
  simp only [Bool.and_eq_true,beq_iff_eq,decide_eq_true_eq] at hc
  obtain ⟨⟨⟨c1,c4⟩,c5⟩,c6⟩:=hc
  split at c6
  case h_2=>cases c6
  rename_i i hi
  split at c6
  case h_2=>cases c6
  rename_i zv hz
  simp only [beq_iff_eq] at c6
  obtain ⟨s1,s2⟩:=cells_sound R hv
  obtain ⟨c0,hc0⟩ : ∃ c0 : Array Value,c0 = (Array.range (1 * shSize sh)).map (fun k=>zv.cells[k % zv.cells.size]!):=⟨_,rfl⟩
  have h0 : c0.size = shSize sh:=by rw [hc0]; simp
  have hsz : 0 + x.cells.toList.length ≤ c0.size:=by rw [h0]; simp [s1,hl]
  have hrun : (Instr.buildSlice t 1 #[(0,x)]).run P w = .ok (.slice (some ⟨w.heap.size,0,none⟩) 1 1) { w with heap:=w.heap.push (.cells (setAll c0 0 x.cells.toList) el (0,0)) }:=by
    unfold Instr.buildSlice
    rw [Sem.run_bind,run_underlying_of hu]
    simp only [Result.andThen_ok,Sem.run_bind,run_sizeOf_of c1]
    rw [if_neg (by omega),if_neg (by omega)]
    have hf : Instr.fill (fun i=>some (i * shSize sh,shSize sh)) c0 [(0,x)] = some (setAll c0 0 x.cells.toList):=by
      simp only [Instr.fill]
      have hneg : ¬ ((decide (x.cells.size ≠ shSize sh) || decide (0 * shSize sh + x.cells.size > c0.size)) = true):=by
        simp [s1,hl,h0]
      rw [if_neg hneg,foldl_fill,Nat.zero_mul]
    simp only [Sem.run_bind,run_zero hi hz,Result.andThen_ok,Sem.run_pure,← hc0,hf,run_newObj_cells]
  have hB : Block { w with heap:=w.heap.push (.cells (setAll c0 0 x.cells.toList) el (0,0)) } w.heap.size (setAll c0 0 x.cells.toList).size (setAll c0 0 x.cells.toList):=Block.push _ el
  have hsz2 : (setAll c0 0 x.cells.toList).size = shSize sh:=by rw [setAll_size,h0]
  obtain ⟨n1,n2⟩:=H.push (WExt.push w (.cells (setAll c0 0 x.cells.toList) el (0,0))) (.arow sh cs) (some (w.heap.size,shSize sh)) (fun b' n e=>by injection e with e; injection e with e1 e2; subst e1; exact ⟨Nat.le_refl _,by simp⟩)
    (fun M' E=>⟨fun y hy=>by obtain ⟨j,hj⟩:=List.getElem?_of_mem hy; exact (s2 j y hj).1,_,hsz2 ▸ hB,by omega,fun j y hy=>by
      obtain ⟨_,u,q1,q2⟩:=s2 j y hy
      refine ⟨u,?_,q2.evo E⟩
      have hj:=lt_of_get hy
      rw [setAll_get _ _ _ _ hsz,if_pos (by simp [s1]; omega)]
      simpa using q1⟩)
  refine ⟨_,_,_,run_v hrun,.inl ⟨_,rfl,?_⟩,n1,n2,EscInv.push ?_⟩
  · exact .bt3 e9 h.length 1 _ 1 (.arow sh cs) (some (w.heap.size,shSize sh)) (Nat.le_refl _) (by simp) (by rw [← H.len]; simp) (fun sh2 cs2 e=>by
      injection e with e1 e2
      subst e1; subst e2
      refine ⟨by omega,fun _=>.inr ⟨by simp,by omega⟩⟩)
  · have := cells_top hv
    have:=R.top_le
    simp only [Obj.top]
    omega
theorem asrc (H : HeapRel h μ w) {t id g : Nat} {x : Value} (R : RAV (imm h μ w) h μ (.bt 3 t id g) x) {sh : Sh} {ds : List AV} (ho : h[id]? = some (.arow sh ds)) (hg : g * shSize sh = ds.length) (h0 : shSize sh ≠ 0) :
    ∃ a cap m,x = .slice a g cap ∧ g ≤ cap ∧ μ[id]? = some m ∧ OwnAt m (shSize sh) 0 a cap ∧ (Builtin.lenOf x).run P w = .ok g w ∧
      ∃ c : Array Value,(∀ k,(Builtin.firstCells (shSize sh) g x).run P { w with drawn:=k } = .ok c { w with drawn:=k }) ∧ c.size = ds.length ∧ ∀ (j : Nat) (y : AV),ds[j]? = some y → y.sc = true ∧ ∃ v,c[j]? = some v ∧ RAV (imm h μ w) h μ y v:=by
  cases R with | bt3 _ _ _ a cap ob m hl ho' hm hv=>
  rw [ho] at ho'
  injection ho' with ho'
  obtain ⟨q1,q2⟩:=hv sh ds ho'.symm
  have q3:=q2 hg
  refine ⟨a,cap,m,rfl,hl,hm,q3,by simp [Builtin.lenOf],?_⟩
  obtain ⟨k1,k2⟩:=H.obj id _ m ho hm
  by_cases hz : g = 0
  · subst hz
    have hd : ds = []:=by
      rw [Nat.zero_mul] at hg
      exact List.length_eq_zero_iff.1 hg.symm
    subst hd
    refine ⟨#[],fun k=>?_,rfl,fun j y hy=>by simp at hy⟩
    cases a with
    | none=>simp [Builtin.firstCells]
    | some a=>simp [Builtin.firstCells,loadCells,loadCellsFrom]
  · cases m with
    | none=>simp [OwnAt] at q3; omega
    | some m=>
      obtain ⟨b,n⟩:=m
      obtain ⟨c,c1,c2,c3⟩:=k2
      have ha : a = some ⟨b,0,none⟩:=by
        rcases q3 with q3 | q3
        · omega
        · rw [q3.1,Nat.zero_mul]
      subst ha
      refine ⟨((List.range (g * shSize sh)).map fun j=>(c[j]?).getD undef).toArray,fun k=>?_,by simp [hg],fun j y hy=>?_⟩
      · simp only [Builtin.firstCells]
        refine run_loadCells (fun j hj=>?_)
        have hlt : j < c.size:=by rw [c1.1]; omega
        have hB : Block { w with drawn:=k } b n c:=c1
        rw [cell_of_block hB,Nat.zero_add]
        simp [hlt]
      · obtain ⟨v, v1, v2⟩ := c3 j y hy
        have hj:=lt_of_get hy
        exact ⟨k1 y (List.mem_of_getElem? hy),v,by simp [hg,hj,v1],v2⟩
theorem tops_app : ∀ (a b : List AV),AV.tops (a ++ b) = max (AV.tops a) (AV.tops b)
  | [],b=>by simp [AV.tops]
  | x :: a,b=>by simp only [List.cons_append,AV.tops,tops_app a b]; omega
theorem apA_ok {t u ty : TypeId} {e9 : Nat} {sh : Sh} (hsh : decSh e9 = sh) (hc : chkApp P sh t u = true) (h0 : shSize sh ≠ 0) {s x : Value} {vs vx v : AV} {h1 : Heap} {e : Esc} (H : HeapRel h μ w) (Rs : RAV (imm h μ w) h μ vs s) (Rx : RAV (imm h μ w) h μ vx x)
    (he : apA sh h vs vx = some (v,h1,e)) : OpOk P (do pure (.value (← Builtin.append_ #[t,u] ty #[s,x]))) h μ w v h1 e:=by
  unfold apA at he
  split at he
  case h_2=>cases he
  rename_i k tt id g k' tt' id' g'
  cases hk : (Nat.beq k 3 && Nat.beq k' 3) with
  | false=>rw [hk] at he; cases he
  | true=>
    rw [hk] at he
    simp only [Bool.and_eq_true] at hk
    have hk1:=Nat.eq_of_beq_eq_true hk.1
    have hk2:=Nat.eq_of_beq_eq_true hk.2
    subst hk1; subst hk2
    simp only [cond_true] at he
    split at he
    case h_2=>cases he
    rename_i rsh cs rsh' ds ho ho'
    split at he
    case isFalse=>cases he
    rename_i hcond
    obtain ⟨rfl,rfl,hg,hg',hmax⟩:=hcond
    simp only [Option.some.injEq,Prod.mk.injEq] at he
    obtain ⟨rfl,rfl,rfl⟩:=he
    obtain ⟨a,cap,m,rfl,hl,hm,hO,_,old,hok,holdn,hold⟩:=asrc (P:=P) H Rs ho hg h0
    obtain ⟨a',cap',m',rfl,hl',hm',hO',hlen',c,hck,hcn,hcc⟩:=asrc (P:=P) H Rx ho' hg' h0
    have hmul : (g + g') * shSize rsh' = cs.length + ds.length:=by rw [Nat.add_mul,hg,hg']
    have hesc : ∀ o : Obj,EscInv h (h.set id (.arow rsh' (cs ++ ds))) (bif decide (id < AV.tops ds) then [(id,AV.tops ds)] else []):=fun _=>by
      refine EscInv.set ho ?_
      simp only [Obj.top,tops_app]
      cases hd : decide (id < AV.tops ds) with
      | false=>simp at hd; simp only [cond_false,escTop]; omega
      | true=>simp only [cond_true,escTop]; simp; omega
    by_cases hroom : g + g' ≤ cap
    · cases m with
      | none=>
        have hc0 : cap = 0:=hO
        have hg0 : g = 0:=by omega
        have hg0' : g' = 0:=by omega
        subst hg0; subst hg0'
        have hd0 : ds = []:=by rw [Nat.zero_mul] at hg'; exact List.length_eq_zero_iff.1 hg'.symm
        have hcs0 : cs = []:=by rw [Nat.zero_mul] at hg; exact List.length_eq_zero_iff.1 hg.symm
        subst hd0; subst hcs0
        have hc00 : c = #[]:=by apply Array.eq_empty_of_size_eq_zero; simpa using hcn
        subst hc00
        have hrun:=run_append_room' (P:=P) (w:=w) (ty:=ty) (base:=a) (sLen:=0) (sCap:=cap) hc hlen' (hck w.drawn) hroom (w':=w) (by cases a <;> simp [storeCells])
        have hs : h.set id (.arow rsh' ([] ++ [])) = h:=set_eq_self ho
        rw [hs]
        exact ⟨_,_,_,run_v hrun,.inl ⟨_,rfl,by simpa using Rs⟩,H,Evo.refl _ _ _,EscInv.refl _ _⟩
      | some m=>
        obtain ⟨b,n⟩:=m
        obtain ⟨k1,c1,hB,hn,hcell⟩:=H.obj id _ _ ho hm
        by_cases hz : g' = 0
        · subst hz
          have hd0 : ds = []:=by rw [Nat.zero_mul] at hg'; exact List.length_eq_zero_iff.1 hg'.symm
          subst hd0
          have hc00 : c = #[]:=by apply Array.eq_empty_of_size_eq_zero; simpa using hcn
          subst hc00
          have hrun:=run_append_room' (P:=P) (w:=w) (ty:=ty) (base:=a) (sLen:=g) (sCap:=cap) hc hlen' (hck w.drawn) hroom (w':=w) (by cases a <;> simp [storeCells])
          have hs : h.set id (.arow rsh' (cs ++ [])) = h:=by rw [List.append_nil]; exact set_eq_self ho
          rw [hs]
          exact ⟨_,_,_,run_v hrun,.inl ⟨_,rfl,by simpa using Rs⟩,H,Evo.refl _ _ _,EscInv.refl _ _⟩
        · have hOa : a = some ⟨b,0,none⟩ ∧ cap * shSize rsh' ≤ n:=by
            rcases hO with q | q
            · omega
            · exact ⟨by rw [q.1,Nat.zero_mul],by rw [← Nat.zero_add cap]; exact q.2⟩
          obtain ⟨rfl,hcapn⟩:=hOa
          have hfit : (g + g') * shSize rsh' ≤ n:=Nat.le_trans (Nat.mul_le_mul_right _ hroom) hcapn
          have hone : ∀ u ∈ c.toList,u.oneCell' = true:=fun u hu=>by
            obtain ⟨j,hj⟩:=List.getElem?_of_mem hu
            have hjl : j < ds.length:=by have:=lt_of_get hj; simp at this; omega
            obtain ⟨q1,u',q2,q3⟩:=hcc j ds[j] (List.getElem?_eq_getElem hjl)
            rw [Array.getElem?_toList,q2] at hj
            injection hj with hj
            subst hj
            exact sc_one q3 q1
          obtain ⟨E,lo,hi,g1,g2⟩:=run_storeCells (P:=P) (o:=g * shSize rsh') c.toList w c1 0 hB (by simp; omega) hone
          simp only [Nat.add_zero] at g2
          have hlo : ¬ False → lo < hi → n ≤ lo:=by
            obtain ⟨_,E',lo',hi'',q1,q2⟩:=hB
            rw [g1] at q1; injection q1 with q1; injection q1 with _ _ q3; injection q3 with q3 q4; subst q3; subst q4; exact q2
          have hsz : g * shSize rsh' + c.toList.length ≤ c1.size:=by rw [hB.1]; simp; omega
          have hμ : μ.set id (some (b,n)) = μ:=set_eq_self hm
          have key:=H.set (w':=setBlk w b (.cells (setAll c1 (g * shSize rsh') c.toList) E (lo,hi))) (o':=.arow rsh' (cs ++ ds)) (m':=some (b,n)) ho hm (.inl ⟨_,rfl,by simp,fun _=>rfl⟩)
            rfl (Nat.le_of_eq (setBlk_size _ _).symm) (fun b' _ hb'=>setBlk_ne (fun e=>hb' n (by rw [e])))
            (fun b' n e=>.inl ⟨n,e⟩) (fun b' n' sh2 xs2 fz2 e1 e2=>by cases e2)
            (fun M' Ev=>by
              refine ⟨fun y hy=>?_,setAll c1 (g * shSize rsh') c.toList,⟨by rw [setAll_size,hB.1],E,lo,hi,setBlk_at g1,hlo⟩,by rw [List.length_append]; omega,fun j y hy=>?_⟩
              · rcases List.mem_append.1 hy with hy | hy
                · exact k1 y hy
                · obtain ⟨j, hj⟩ := List.getElem?_of_mem hy
                  exact (hcc j y hj).1
              · rw [setAll_get _ _ _ _ hsz]
                rcases Nat.lt_or_ge j cs.length with hj | hj
                · rw [List.getElem?_append_left hj] at hy
                  rw [if_neg (by omega)]
                  obtain ⟨u,p,q⟩:=hcell j y hy
                  exact ⟨u,p,q.evo Ev⟩
                · rw [List.getElem?_append_right hj] at hy
                  have:=lt_of_get hy
                  rw [if_pos (by simp; omega)]
                  obtain ⟨_,u,p,q⟩:=hcc _ y hy
                  exact ⟨u,by rw [Array.getElem?_toList,hg]; exact p,q.evo Ev⟩) (ety_set g1)
          rw [hμ] at key
          have hrun:=run_append_room' (P:=P) (ty:=ty) (base:=some ⟨b,0,none⟩) (sLen:=g) (sCap:=cap) hc hlen' (hck w.drawn) hroom (by simpa [add_at] using g2)
          refine ⟨_,_,_,run_v hrun,.inl ⟨_,rfl,?_⟩,key.1,key.2,hesc (.box [])⟩
          exact .bt3 tt id (g + g') _ cap _ _ hroom (set_same ho) hm (fun sh2 cs2 e=>by
            injection e with e1 e2
            subst e1; subst e2
            exact ⟨by rw [hmul,List.length_append]; exact Nat.le_refl _,fun _=>.inr ⟨by simp,by simpa using hcapn⟩⟩)
    · obtain ⟨el, newCap, rest, r0, r1, r2, r3⟩ := run_append_grow' (P := P) (w := w) (ty := ty) (base := a) (sLen := g) (sCap := cap) hc hlen' hck (by omega) hmax hok
      have hbsz : (old ++ c ++ rest).size = newCap * shSize rsh':=by
        simp only [Array.size_append,holdn,hcn,r2,Nat.sub_mul]
        have:=Nat.mul_le_mul_right (shSize rsh') r1
        omega
      have hB : Block { w with drawn:=w.drawn + 1,heap:=w.heap.push (.cells (old ++ c ++ rest) el (0,0)) } w.heap.size (old ++ c ++ rest).size (old ++ c ++ rest):=⟨rfl,el,0,0,by simp,fun _ h=>by omega⟩
      have hfit : (g + g') * shSize rsh' ≤ newCap * shSize rsh':=Nat.mul_le_mul_right _ r1
      have key:=H.set (w':={ w with drawn:=w.drawn + 1,heap:=w.heap.push (.cells (old ++ c ++ rest) el (0,0)) }) (o':=.arow rsh' (cs ++ ds)) (m':=some (w.heap.size,(old ++ c ++ rest).size)) ho hm
        (.inl ⟨_,rfl,by simp,fun he=>by
          exfalso
          rw [List.length_append] at he
          have : g' * shSize rsh' = 0:=by omega
          rcases Nat.mul_eq_zero.1 this with q | q
          · subst q
            omega
          · exact h0 q⟩)
        rfl (by simp) (fun b' hb' _=>by simp [Array.getElem?_push,Nat.ne_of_lt hb'])
        (fun b' n e=>by injection e with e; injection e with e1 e2; subst e1; exact .inr ⟨Nat.le_refl _,by simp⟩) (fun b' n' sh2 xs2 fz2 e1 e2=>by cases e2)
        (fun M' Ev=>by
          refine ⟨fun y hy=>?_,_,hB,by rw [List.length_append,hbsz]; omega,fun j y hy=>?_⟩
          · rcases List.mem_append.1 hy with hy | hy
            · obtain ⟨j, hj⟩ := List.getElem?_of_mem hy
              exact (hold j y hj).1
            · obtain ⟨j, hj⟩ := List.getElem?_of_mem hy
              exact (hcc j y hj).1
          · rcases Nat.lt_or_ge j cs.length with hj | hj
            · rw [List.getElem?_append_left hj] at hy
              obtain ⟨_,u,p,q⟩:=hold j y hy
              refine ⟨u,?_,q.evo Ev⟩
              rw [Array.append_assoc,Array.getElem?_append_left (by omega)]
              exact p
            · rw [List.getElem?_append_right hj] at hy
              have:=lt_of_get hy
              obtain ⟨_,u,p,q⟩:=hcc _ y hy
              refine ⟨u,?_,q.evo Ev⟩
              rw [Array.append_assoc,Array.getElem?_append_right (by omega),Array.getElem?_append_left (by omega),holdn]
              exact p) (fun b' n' t' e ht=>by
                rw [ety_heap (w:=w)]
                · exact ht
                · have := ety_lt ht
                  simp [Array.getElem?_push,Nat.ne_of_lt this])
      refine ⟨_,_,_,run_v r3,.inl ⟨_,rfl,?_⟩,key.1,key.2,hesc (.box [])⟩
      exact .bt3 tt id (g + g') _ newCap _ _ r1 (set_same ho) (set_same hm) (fun sh2 cs2 e=>by
        injection e with e1 e2
        subst e1; subst e2
        exact ⟨by rw [hmul,List.length_append]; exact Nat.le_refl _,fun _=>.inr ⟨by simp,by rw [hbsz]; simp⟩⟩)
end Go.Am
end
section
/- The abstract machine: a strings.Builder's operations (unsOp) are sound. -/
set_option linter.unusedSimpArgs false
set_option linter.unusedVariables false
namespace Go.Am
variable {h h' : Heap} {μ μ' : Mu} {w w' : World} {P : Program} {M M' : Mem}
def chkBld (P : Program) (t : TypeId) : Bool:=match P.info? t with
  | some i=>i.size == 2 && (match i.zero with | some v=>(match v.cells.toList with | [.pointer none,.slice none 0 0]=>true | _=>false) | none=>false) && liesAt P P.depth t (2 / P.cellsOf t) 0 t 1
  | none=>false
def chkUp (P : Program) (t s d : TypeId) : Bool:=match P.underlying s with
  | some (.pointer t')=>t' == t && (match P.underlying d with | some .unsafePointer=>true | _=>false)
  | some .unsafePointer=>match P.underlying d with
    | some (.pointer t')=>t' == t
    | _=>false
  | _=>false
def chkPt (P : Program) (s : TypeId) : Bool:=match P.underlying s with
  | some (.pointer t)=>(P.info? t).isSome
  | _=>false
def chkPtr (P : Program) (t s : TypeId) : Bool:=match P.underlying s with
  | some (.pointer t')=>t' == t
  | _=>false
def chkSlT (P : Program) (t s : TypeId) : Bool:=match P.underlying s with
  | some (.slice t')=>t' == t
  | _=>false
theorem newBld {t te : TypeId} (hc : chkBld P t = true) (H : HeapRel h μ w) :
    OpOk P (do pure (.value (← Instr.alloc t true (.tuple #[])))) h μ w (.ref h.length 0) (h ++ [.box [.bt 0 t h.length 0,.bt 1 te (h.length + 1) 0],.row none [] 0]) [(h.length,h.length + 2)]:=by
  unfold chkBld at hc
  split at hc
  case h_2=>cases hc
  rename_i i hi
  simp only [Bool.and_eq_true,beq_iff_eq] at hc
  obtain ⟨⟨c1,c2⟩,c3⟩:=hc
  split at c2
  case h_2=>cases c2
  rename_i v hv
  split at c2
  case h_2=>cases c2
  rename_i hcells
  have hvc : v.cells = #[.pointer none,.slice none 0 0]:=by rw [← hcells]
  have hrun : (Instr.alloc t true (.tuple #[])).run P w = .ok (.pointer (some ⟨w.heap.size,0,none⟩)) { w with heap:=w.heap.push (.cells v.cells t (0,0)) }:=by
    unfold Instr.alloc
    rw [Sem.run_bind]
    have : (zeroValue t).run P w = .ok v w:=by
      unfold zeroValue
      rw [Sem.run_bind,run_typeInfo_of hi]
      simp [hv]
    rw [this]
    simp [newVar,run_newObj_cells]
  have hB : Block { w with heap:=w.heap.push (.cells v.cells t (0,0)) } w.heap.size 2 v.cells:=by
    have:=Block.push (w:=w) v.cells t
    rwa [show v.cells.size = 2 by rw [hvc]; rfl] at this
  obtain ⟨h1,h2⟩:=newBox (cs:=[.nilp,.sl0 none]) H (WExt.push w _) (Nat.le_refl _) (by simp) hB (c:=v.cells) (fun j x hx=>by
    rw [hvc]
    match j with
    | 0=>simp at hx; subst hx; exact ⟨rfl,_,rfl,.nilp⟩
    | 1=>simp at hx; subst hx; exact ⟨rfl,_,rfl,.sl0 _ _⟩
    | j + 2=>simp at hx)
  simp only [List.length_cons,List.length_nil,Nat.zero_add,Nat.reduceAdd] at h1 h2
  obtain ⟨h3,h4⟩:=newNil h1 none
  simp only [List.append_assoc,List.cons_append,List.nil_append] at h3 h4
  have ho : (h ++ [Obj.box [.nilp,.sl0 none],.row none [] 0])[h.length]? = some (.box [.nilp,.sl0 none]):=by simp
  have hm : (μ ++ [some (w.heap.size,2),none])[h.length]? = some (some (w.heap.size,2)):=by rw [← H.len]; simp
  have ho2 : (h ++ [Obj.box [.nilp,.sl0 none],.row none [] 0])[h.length + 1]? = some (.row none [] 0):=by
    rw [List.getElem?_append_right (by omega)]; simp
  have hm2 : (μ ++ [some (w.heap.size,2),none])[h.length + 1]? = some none:=by
    rw [← H.len,List.getElem?_append_right (by omega)]; simp
  have hg : ({ w with heap:=w.heap.push (.cells v.cells t (0,0)) } : World).heap[w.heap.size]? = some (.cells v.cells t (0,0)):=by simp
  have key:=h3.set (w':={ w with heap:=w.heap.push (.cells v.cells t (0,0)) }) (o':=.box [.bt 0 t h.length 0,.bt 1 te (h.length + 1) 0]) (m':=some (w.heap.size,2)) ho hm ⟨⟨_,rfl⟩,rfl⟩ rfl (Nat.le_refl _) (fun _ _ _=>rfl)
    (fun b n e=>.inl ⟨n,e⟩) (fun b n sh xs fz _ e=>by cases e)
    (fun M' E=>⟨w.heap.size,v.cells,rfl,hB,fun j x hx=>by
      rw [hvc]
      match j with
      | 0=>simp at hx; subst hx; exact ⟨rfl,_,rfl,.bt0 t h.length 0 w.heap.size 2 _ (set_same ho) (set_same hm) (E.le.s _ _ (ety_cells hg))⟩
      | 1=>simp at hx; subst hx; exact ⟨rfl,_,rfl,.bt1 te (h.length + 1) 0 none 0 [] 0 none (Nat.le_refl _) (by rw [List.getElem?_set_ne (by omega)]; exact ho2) (by rw [List.getElem?_set_ne (by omega)]; exact hm2) (Nat.le_refl _) (fun _=>⟨rfl,rfl⟩)⟩
      | j + 2=>simp at hx⟩)
    (fun _ _ _ _ h=>h)
  have es : (h ++ [Obj.box [.nilp,.sl0 none],.row none [] 0]).set h.length (.box [.bt 0 t h.length 0,.bt 1 te (h.length + 1) 0]) = h ++ [.box [.bt 0 t h.length 0,.bt 1 te (h.length + 1) 0],.row none [] 0]:=by simp
  have em : (μ ++ [some (w.heap.size,2),none]).set h.length (some (w.heap.size,2)) = μ ++ [some (w.heap.size,2),none]:=set_eq_self hm
  have hE : EscInv h (h ++ [.box [.bt 0 t h.length 0,.bt 1 te (h.length + 1) 0],.row none [] 0]) [(h.length,h.length + 2)]:=by
    have a:=EscInv.push (h:=h) (o:=.box [.nilp,.sl0 none]) (by simp [Obj.top,AV.tops,AV.top])
    have a2:=EscInv.push (h:=h ++ [.box [.nilp,.sl0 none]]) (o:=.row none [] 0) (by simp [Obj.top])
    have a3:=a.trans a2
    simp only [List.append_assoc,List.cons_append,List.nil_append] at a3
    have b:=EscInv.set (x:=[(h.length,h.length + 2)]) (o':=.box [.bt 0 t h.length 0,.bt 1 te (h.length + 1) 0]) ho (by simp [Obj.top,AV.tops,AV.top,escTop])
    rw [es] at b
    exact a3.trans b
  rw [es,em] at key
  exact ⟨_,_,_,run_v hrun,.inl ⟨_,rfl,.ref h.length 0 w.heap.size 2 [.bt 0 t h.length 0,.bt 1 te (h.length + 1) 0] (by simp) (by rw [← H.len]; simp)⟩,key.1,(h2.trans h4).trans key.2,hE⟩
theorem shape_cells {w : World} {b : Nat} {c : Array Value} {E : TypeId} {f : Nat × Nat} (e : w.heap[b]? = some (.cells c E f)) : w.shape? b = some (E,c.size):=by
  unfold World.shape?
  simp only [e]
theorem upB_ok {t s d : TypeId} (hb : chkBld P t = true) (hc : chkUp P t s d = true) {id : Nat} {x : Value} (H : HeapRel h μ w) (R : RAV (imm h μ w) h μ (.ref id 0) x) {t' id' g : Nat} {v2 : AV} (ho : h[id]? = some (.box [.bt 0 t' id' g,v2])) (e1 : t' = t) (e2 : id' = id) :
    OpOk P (do pure (.value (← convert s d x))) h μ w (.ref id 0) h []:=by
  subst e1; subst e2
  have R0:=R
  cases R with | ref _ _ b n cs ho' hm=>
  rw [ho] at ho'
  injection ho' with ho'
  injection ho' with ho'
  subst ho'
  obtain ⟨b',c,hbn,hB,hcell⟩:=H.obj id' _ _ ho hm
  injection hbn with hbn
  injection hbn with q1 q2
  subst q1
  obtain ⟨_,vv,_,hR⟩:=hcell 0 _ rfl
  have hty : ety w b = some t':=by
    cases hR with | bt0 _ _ _ b2 n2 cs2 ho2 hm2 hs2=>
    rw [hm] at hm2
    injection hm2 with hm2
    injection hm2 with hm2
    injection hm2 with r1 r2
    subst r1
    exact hs2
  obtain ⟨hsz,E,lo,hi,he,_⟩:=hB
  have hE : E = t':=by rw [ety_cells he] at hty; injection hty
  subst hE
  have hsh : w.shape? b = some (E,2):=by rw [shape_cells he,hsz]; rfl
  unfold chkBld at hb
  split at hb
  case h_2=>cases hb
  rename_i i hi
  simp only [Bool.and_eq_true,beq_iff_eq] at hb
  obtain ⟨⟨c1,c2⟩,c3⟩:=hb
  unfold chkUp at hc
  split at hc
  · rename_i t'' hs
    simp only [Bool.and_eq_true,beq_iff_eq] at hc
    obtain ⟨rfl,hd⟩:=hc
    have hd : P.underlying d = some .unsafePointer:=by split at hd <;> simp_all
    exact OpOk.pure H (run_v (Lib.run_to_unsafe w ⟨b,0,none⟩ hs hd hi (by rw [c1]; decide) hsh (Nat.zero_lt_succ 1))) R0
  · rename_i hs
    split at hc
    case h_2=>cases hc
    rename_i t'' hd
    simp only [beq_iff_eq] at hc
    subst hc
    exact OpOk.pure H (run_v (Lib.run_from_unsafe w ⟨b,0,none⟩ hs hd hi hsh c3)) R0
  · cases hc
theorem neqB_ok {t : TypeId} (hc : chkPt P t = true) {a b : Operand} {id o : Nat} {x y : Value} (H : HeapRel h μ w) (Rx : RAV (imm h μ w) h μ (.ref id o) x) (Ry : RAV (imm h μ w) h μ (.ref id o) y) :
    OpOk P (do pure (.value (← (do eqGuard .neq t a b x y; binOp .neq t x y)))) h μ w (pbool false) h []:=by
  cases Rx with | ref _ _ b1 n1 cs1 ho1 hm1=>
  cases Ry with | ref _ _ b2 n2 cs2 ho2 hm2=>
  rw [hm1] at hm2
  injection hm2 with hm2
  injection hm2 with hm2
  injection hm2 with r1 r2
  subst r1
  unfold chkPt at hc
  split at hc
  case h_2=>cases hc
  rename_i te ht
  obtain ⟨j,hj⟩:=Option.isSome_iff_exists.1 hc
  refine OpOk.pure H (run_v ?_) (RAV.pbool false)
  have hg : (eqGuard .neq t a b (.pointer (some ⟨b1,o,none⟩)) (.pointer (some ⟨b1,o,none⟩))).run P w = .ok () w:=rfl
  rw [Sem.run_bind,hg]
  exact Lib.run_neq_ptr_same w _ ht hj
theorem lenB_ok {t ty : TypeId} {ts : List TypeId} {n : Nat} {x : Value} {a : Option Addr} {cap : Nat} (hx : x = .slice a n cap) (H : HeapRel h μ w) (hc : chkLen P t = 1) :
    OpOk P (do pure (.value (← Builtin.len_ (t :: ts).toArray ty #[x]))) h μ w (pint n) h []:=by
  have hu : ∃ el,P.underlying t = some (.slice el):=by
    unfold chkLen at hc
    split at hc <;> simp_all
  obtain ⟨el,hu⟩:=hu
  subst hx
  refine OpOk.pure H (run_v ?_) (RAV.pint n)
  simp [Builtin.len_,run_underlying_of hu]
theorem appB_ok {t u ty te : TypeId} (hc : chkApp P none t u = true) (ht : chkSlT P te t = true) {s x : Value} {vs vx v : AV} {h1 : Heap} {e : Esc} (H : HeapRel h μ w) (Rs : RAV (imm h μ w) h μ vs s) (Rx : RAV (imm h μ w) h μ vx x)
    (he : appB te h vs vx = some (v,h1,e)) : OpOk P (do pure (.value (← Builtin.append_ #[t,u] ty #[s,x]))) h μ w v h1 e:=by
  have htt : P.underlying t = some (.slice te):=by
    unfold chkSlT at ht
    split at ht
    · rename_i t' h'
      simp only [beq_iff_eq] at ht
      subst ht
      exact h'
    · cases ht
  unfold appB at he
  split at he
  case h_2=>cases he
  rename_i ys hr
  have S:=src_sound (P:=P) H Rx hr
  obtain ⟨c,hck,hc2⟩:=S.2 ys.length (Nat.le_refl _)
  rw [List.take_length] at hc2
  have hck0 : (Builtin.firstCells (shSize none) ys.length x).run P w = .ok c w:=hck w.drawn
  split at he
  · rename_i t0 id g
    split at he
    case h_2=>cases he
    rename_i xs fz ho
    split at he
    case isFalse=>cases he
    rename_i hcond
    obtain ⟨rfl,rfl,hfz,hmax⟩:=hcond
    simp only [Option.some.injEq,Prod.mk.injEq] at he
    obtain ⟨rfl,rfl,rfl⟩:=he
    have Rs0:=Rs
    cases Rs with | bt1 _ _ _ a cap xs' fz' m hl ho' hm hg hv=>
    rw [ho] at ho'
    injection ho' with ho'
    injection ho' with _ q2 q3
    subst q2; subst q3
    have hb:=hv rfl
    obtain ⟨kf,ks,kO⟩:=H.obj id _ _ ho hm
    cases m with
    | none=>
      obtain ⟨rfl,rfl⟩:=hb
      have hx0 : xs = []:=kO
      subst hx0
      by_cases hz : ys.length = 0
      · have hy0 : ys = [] := List.length_eq_zero_iff.1 hz
        subst hy0
        have hrun:=run_append_room' (ty:=ty) (base:=none) (sLen:=0) (sCap:=0) hc S.1 hck0 (by simp) (w':=w) rfl
        have hs : h.set id (.row none ([] ++ []) fz) = h:=set_eq_self ho
        rw [hs]
        exact ⟨_,_,_,run_v hrun,.inl ⟨_,rfl,Rs0⟩,H,Evo.refl _ _ _,EscInv.refl _ _⟩
      · obtain ⟨newCap, n, w', c', g1, g2, g3, g4, g5, g6, g7, g8⟩ := grow_run (ty := ty) (base := none) (sCap := 0) (xs := []) (v0 := .sl0 none) hc H Rx hr (by simp; omega) (by simpa using hmax) (.sl0 none none) rfl
        have key:=H.set (w':=w') (o':=.row none ([] ++ ys) fz) (m':=some (w.heap.size,n)) ho hm ⟨[] ++ ys,fz,rfl,by simp,fun hl=>by rw [List.length_append] at hl; simp only [List.length_nil] at hl; omega⟩
          g4.zz g4.1 (fun b hb _=>g4.2 b hb) (fun b n' e=>by injection e with e; injection e with e1 e2; subst e1; exact .inr ⟨Nat.le_refl _,g5⟩)
          (fun b n' sh2 xs2 fz2 e1 e2=>by cases e1)
          (fun M' Ev=>by
            refine ⟨by have q : fz ≤ 0:=hfz; omega,g7.2.1,c',g6.sealed _,?_,fun i j x y hx hy=>?_⟩
            · rw [← g2]; exact Nat.mul_le_mul_right _ (by simpa using g1)
            · obtain ⟨v, q1, q2⟩ := g7.2.2 i j x y hx hy
              exact ⟨v,q1,q2.mono Ev.le⟩) (fun b n t e ht=>by cases e)
        refine ⟨_,_,_,run_v g3,.inl ⟨_,rfl,?_⟩,key.1,key.2,EscInv.set ho (by simp [Obj.top])⟩
        exact .bt1 t0 id (0 + ys.length) _ newCap ([] ++ ys) fz (some (w.heap.size,n)) (by simpa using g1) (set_same ho) (set_same hm) (by simp) (fun _=>⟨rfl,⟨by omega,by rw [← g2]; simp [shSize]⟩,g8 _ htt⟩)
    | some m=>
      obtain ⟨b,n⟩:=m
      obtain ⟨rfl,hcn,hst⟩:=hb
      obtain ⟨c',hB,hn2,hcell⟩:=kO
      by_cases hroom : xs.length + ys.length ≤ cap
      · obtain ⟨w', r1, r2, r3, r4⟩ := row_write (P := P) (at_ := xs.length) H ho hm hB hc2 hfz (Nat.le_refl _) (by simp only [shSize]; omega)
        rw [splice_end] at r2 r3 r4
        have hrun:=run_append_room' (ty:=ty) (base:=some ⟨b,0,none⟩) (sLen:=xs.length) (sCap:=cap) hc S.1 hck0 hroom (w':=w') (by simpa [add_at] using r1)
        refine ⟨_,_,_,run_v hrun,.inl ⟨_,rfl,?_⟩,r2,r3,r4⟩
        exact .bt1 t0 id (xs.length + ys.length) _ cap (xs ++ ys) fz (some (b,n)) hroom (set_same ho) hm (by simp) (fun _=>⟨rfl,hcn,r3.le.s _ _ hst⟩)
      · have Ro : RAV (imm h μ w) h μ (.own id xs.length 0 xs.length) (.slice (some ⟨b, 0, none⟩) xs.length cap) := .own id xs.length 0 xs.length _ cap none xs fz (some (b, n)) hl ho hm (Nat.le_refl _) (by simp) (fun _ => .inr ⟨by simp, by simp [shSize]; exact hcn.2⟩)
        have hr0 : rds h (.own id xs.length 0 xs.length) = some (none,xs):=by simp [rds,rd,ho,win]
        obtain ⟨newCap,n',w',c'',g1,g2,g3,g4,g5,g6,g7,g8⟩:=grow_run (ty:=ty) (base:=some ⟨b,0,none⟩) (sCap:=cap) (xs:=xs) (v0:=.own id xs.length 0 xs.length) hc H Rx hr (by omega) hmax Ro hr0
        have hpos : 0 < ys.length:=by omega
        have key:=H.set (w':=w') (o':=.row none (xs ++ ys) fz) (m':=some (w.heap.size,n')) ho hm ⟨xs ++ ys,fz,rfl,by simp,fun hl=>by rw [List.length_append] at hl; omega⟩
          g4.zz g4.1 (fun b hb _=>g4.2 b hb) (fun b n' e=>by injection e with e; injection e with e1 e2; subst e1; exact .inr ⟨Nat.le_refl _,g5⟩)
          (fun b n' sh2 xs2 fz2 e1 e2=>by
            injection e2 with e2 e3 e4
            subst e2; subst e3; subst e4
            refine ⟨_,fz,rfl,fun j hj=>⟨cell_of_heap (g4.2 b (H.inside id b n' (e1 ▸ hm))),fun n'' e3=>hj⟩⟩)
          (fun M' Ev=>by
            refine ⟨by simp; omega,g7.2.1,c'',g6.sealed _,?_,fun i j x y hx hy=>?_⟩
            · rw [← g2]; exact Nat.mul_le_mul_right _ (by simpa using g1)
            · obtain ⟨v, q1, q2⟩ := g7.2.2 i j x y hx hy
              exact ⟨v,q1,q2.mono Ev.le⟩) (fun b n t e ht=>by rw [ety_heap (g4.2 b (H.inside id b n (e ▸ hm)))]; exact ht)
        refine ⟨_,_,_,run_v g3,.inl ⟨_,rfl,?_⟩,key.1,key.2,EscInv.set ho (by simp [Obj.top])⟩
        exact .bt1 t0 id (xs.length + ys.length) _ newCap (xs ++ ys) fz (some (w.heap.size,n')) g1 (set_same ho) (set_same hm) (by simp) (fun _=>⟨rfl,⟨by omega,by rw [← g2]; simp [shSize]⟩,g8 _ htt⟩)
  · cases he
theorem dataB_ok {ts : Array TypeId} {ty te : TypeId} {x : Value} {vx v : AV} (H : HeapRel h μ w) (Rx : RAV (imm h μ w) h μ vx x) {h1 : Heap} {e : Esc}
    (he : dataB te h vx = some (v,h1,e)) : OpOk P (do pure (.value (← Builtin.unsafeSliceData_ ts ty #[x]))) h μ w v h1 e:=by
  unfold dataB at he
  split at he
  · rename_i t0 id g
    split at he
    case h_2=>cases he
    rename_i xs fz ho
    split at he
    case isFalse=>cases he
    rename_i hcond
    obtain ⟨rfl,rfl⟩:=hcond
    cases Rx with | bt1 _ _ _ a cap xs' fz' m hl ho' hm hg hv=>
    rw [ho] at ho'
    injection ho' with ho'
    injection ho' with _ q2 q3
    subst q2; subst q3
    have hb:=hv rfl
    obtain ⟨kf,ks,kO⟩:=H.obj id _ _ ho hm
    cases m with
    | none=>
      obtain ⟨rfl,rfl⟩:=hb
      have hx0 : xs = []:=kO
      subst hx0
      simp only [List.length_nil,if_true,Option.some.injEq,Prod.mk.injEq] at he
      obtain ⟨rfl,rfl,rfl⟩:=he
      exact OpOk.pure H (run_v (Lib.run_unsafeSliceData_nil w ts ty 0 0)) (.anyp none)
    | some m=>
      obtain ⟨b,n⟩:=m
      obtain ⟨rfl,hcn,hst⟩:=hb
      have hrun:=Lib.run_unsafeSliceData_row (P:=P) w ts ty ⟨b,0,none⟩ xs.length cap (by omega)
      split at he
      · simp only [Option.some.injEq, Prod.mk.injEq] at he
        obtain ⟨rfl,rfl,rfl⟩:=he
        exact OpOk.pure H (run_v hrun) (.anyp _)
      · simp only [Option.some.injEq, Prod.mk.injEq] at he
        obtain ⟨rfl,rfl,rfl⟩:=he
        exact OpOk.pure H (run_v hrun) (.bt2 t0 id xs.length _ xs fz (some (b,n)) ho hm (Nat.le_refl _) (fun _=>⟨b,n,rfl,rfl,hst⟩))
  · cases he
theorem freeze_blk {b n : Nat} {c : Array Value} {E : TypeId} {lo hi : Nat} (hb : w.heap[b]? = some (.cells c E (lo,hi))) (hn : n ≠ 0) : ∃ lo' hi',w.freeze ⟨b,0,none⟩ n = setBlk w b (.cells c E (lo',hi')):=by
  have hlt : b < w.heap.size:=blk_lt hb
  have hb' : w.heap[b] = .cells c E (lo,hi):=by
    rw [Array.getElem?_eq_getElem hlt] at hb; injection hb
  refine ⟨if lo == hi then 0 else min lo 0,if lo == hi then 0 + n else max hi (0 + n),?_⟩
  unfold World.freeze
  rw [if_neg hn]
  simp only [setBlk]
  congr 1
  apply Array.ext_getElem?
  intro i
  by_cases hi' : b = i
  · subst hi'
    rw [Array.getElem?_setIfInBounds_self_of_lt hlt,Array.getElem?_modify]
    simp only [if_true,Array.getElem?_eq_getElem hlt,Option.map_some,hb']
    by_cases hq : lo = hi <;> simp [hq]
  · rw [Array.getElem?_setIfInBounds_ne hi', Array.getElem?_modify]
    simp [hi']
theorem toBytes_get : ∀ {xs : List PV} {s : List UInt8},toBytes xs = some s → s.length = xs.length ∧ ∀ (j : Nat) (b : UInt8),s[j]? = some b → xs[j]? = some (.int .u8 b.toNat):=by
  intro xs s h
  rw [toBytes_spec h]
  exact ⟨by simp [bytesP],fun j b hb=>by rw [bytesP_get,hb]; rfl⟩
theorem strB_ok {ts : List TypeId} {pt it ty te : TypeId} (ht : chkPtr P te pt = true) (hcell1 : P.cellsOf te = 1) {x : Value} {vx v : AV} {n : Nat} (H : HeapRel h μ w) (Rx : RAV (imm h μ w) h μ vx x) {h1 : Heap} {e : Esc}
    (he : strB te h vx n = some (v,h1,e)) : OpOk P (do pure (.value (← Builtin.unsafeString_ #[pt,it] ty #[x,.int .i64 n]))) h μ w v h1 e:=by
  have htt : P.underlying pt = some (.pointer te):=by
    unfold chkPtr at ht
    split at ht
    · rename_i t' h'
      simp only [beq_iff_eq] at ht
      subst ht
      exact h'
    · cases ht
  unfold strB at he
  split at he
  · split at he
    case isFalse=>cases he
    rename_i h0
    subst h0
    simp only [Option.some.injEq,Prod.mk.injEq] at he
    obtain ⟨rfl,rfl,rfl⟩:=he
    cases Rx with | anyp a=>
    exact OpOk.pure H (run_v (Lib.run_unsafeString_none w pt it ty a)) (.p _ _ (.str []))
  · rename_i t0 id g
    split at he
    case h_2=>cases he
    rename_i xs fz ho
    split at he
    case isFalse=>cases he
    rename_i hcond
    obtain ⟨rfl,rfl,rfl,hpos,hmax⟩:=hcond
    simp only [Option.map_eq_some_iff,Prod.mk.injEq] at he
    obtain ⟨s,hs,rfl,rfl,rfl⟩:=he
    obtain ⟨hsl,hsg⟩:=toBytes_get hs
    cases Rx with | bt2 _ _ _ a xs' fz' m ho' hm hg hv=>
    rw [ho] at ho'
    injection ho' with ho'
    injection ho' with _ q2 q3
    subst q2; subst q3
    obtain ⟨b,n,rfl,rfl,hst⟩:=hv rfl
    obtain ⟨kf,ks,c,hB,hn2,hcell⟩:=H.obj id _ _ ho hm
    obtain ⟨hsz,E,lo,hi,hE,_⟩:=hB
    have hEt : E = t0:=by
      have hst : ety w b = some t0:=hst
      rw [ety_cells hE] at hst
      injection hst
    subst hEt
    have hne : s ≠ []:=by intro h0; subst h0; simp at hsl; omega
    have hrun:=Lib.run_unsafeString_row (P:=P) w pt it ty E htt hcell1 b c.size (shape_cells hE) s hne (by simp only [shSize] at hn2; omega) (by unfold maxSl at hmax; omega) (fun j y hy=>by
      rw [add_at,Nat.zero_add]
      obtain ⟨v,v1,v2⟩:=hcell j 0 _ (.int .u8 y.toNat) (hsg j y hy) rfl
      cases v2
      have : w.cell? ⟨b,j,none⟩ = c[j]?:=by
        unfold World.cell?
        simp [hE]
      rw [this]
      simpa [shSize] using v1)
    rw [hsl] at hrun
    have hw2 : ∃ lo' hi',w.freeze ⟨b,0,none⟩ xs.length = setBlk w b (.cells c E (lo',hi')):=freeze_blk hE (by omega)
    obtain ⟨lo',hi',hw2⟩:=hw2
    have key:=H.set (w':=setBlk w b (.cells c E (lo',hi'))) (o':=.row none xs (xs.length + 1)) (m':=some (b,n)) ho hm ⟨xs,_,rfl,Nat.le_refl _,fun _=>rfl⟩
      rfl (Nat.le_of_eq (setBlk_size _ _).symm) (fun b' _ hb'=>setBlk_ne (fun e=>hb' n (by rw [e]))) (fun b' n e=>.inl ⟨n,e⟩)
      (fun b' n' sh2 xs2 fz2 e1 e2=>by
        injection e2 with e2 e3 e4
        subst e2; subst e3; subst e4
        injection e1 with e1; injection e1 with e1 _; subst e1
        refine ⟨_,_,rfl,fun j hj=>⟨?_,fun _ _=>by simp only [shSize] at hj ⊢; omega⟩⟩
        unfold World.cell?
        simp [hE,setBlk_at hE])
      (fun M' Ev=>by
        refine ⟨by omega,ks,c,⟨hsz,E,lo',hi',setBlk_at hE,fun q=>absurd (by omega) q⟩,hn2,fun i j x y hx hy=>?_⟩
        obtain ⟨v,v1,v2⟩:=hcell i j x y hx hy
        exact ⟨v,v1,v2.mono Ev.le⟩) (ety_set hE)
    rw [set_eq_self hm] at key
    rw [hw2] at hrun
    exact ⟨_,_,_,run_v hrun,.inl ⟨_,rfl,.p _ _ (.str s)⟩,key.1,key.2,EscInv.set ho (by simp [Obj.top])⟩
  · cases he
def callOf (o : Op) : Option (Operand × List Operand):=match o with
  | .call c=>match c.callee with
    | .value f=>some (f,c.args.toList)
    | _=>none
  | _=>none
theorem run_call {o : Oper} {f : Operand} {ys : List Operand} (hc : callOf o.op = some (f,ys)) {ρ : Operand → Value} {g : Nat} {caps : Array Value} (hf : ρ f = .func (.func g) #[] caps) :
    (execOp ρ o).run P w = (callFunc g ((ys.map ρ).toArray ++ caps)).run P w:=by
  unfold callOf at hc
  split at hc
  · rename_i c hop
    split at hc
    · rename_i f' hcal
      injection hc with hc
      injection hc with h1 h2
      subst h1; subst h2
      unfold execOp
      rw [hop]
      simp only [resolve,hcal,Deferred.ofValue,hf,Sem.run_bind,Sem.run_pure,Result.andThen_ok,invoke]
      have e1 : (List.map ρ c.args.toList).toArray = c.args.map ρ:=by rw [← Array.toList_map]
      rw [e1]
      simp
    · cases hc
  · cases hc
def chkSame (P : Program) (f : Nat) : Bool:=match P.funcs[f]? with
  | some fn=>fn.name == "internal/abi.NoEscape" && fn.body.isNone && (Extern.findNext fn).isNone
  | none=>false
theorem find_same {fn : Func} (h : fn.name = "internal/abi.NoEscape") : Extern.find fn = some Extern.AbiNoEscape.same:=by
  have h1 : (Extern.allGenericRows.lookup "internal/abi.NoEscape").isNone = true:=by kernel_rfl
  have h2 : (Extern.allTypedRows.lookup "internal/abi.NoEscape").isNone = true:=by kernel_rfl
  have h3 : Extern.allRows.lookup "internal/abi.NoEscape" = some Extern.AbiNoEscape.same:=by kernel_rfl
  unfold Extern.find
  rw [h]
  simp only [Option.isNone_iff_eq_none.1 h1,Option.isNone_iff_eq_none.1 h2,h3]
  rfl
theorem sameB_ok {f : Nat} (hc : chkSame P f = true) {o : Oper} {g y : Operand} (ho : callOf o.op = some (g,[y])) {ρ : Operand → Value} (hg : ρ g = .func (.func f) #[] #[]) {v : AV} (H : HeapRel h μ w) (R : RAV (imm h μ w) h μ v (ρ y)) :
    OpOk P (execOp ρ o) h μ w v h []:=by
  unfold chkSame at hc
  split at hc
  case h_2=>cases hc
  rename_i fn hf
  simp only [Bool.and_eq_true,beq_iff_eq] at hc
  obtain ⟨⟨c1,c2⟩,c3⟩:=hc
  refine OpOk.pure H ?_ R
  rw [run_call ho hg,run_callFunc_extern hf (by rw [c1]; rfl) c2 (Option.isNone_iff_eq_none.1 c3) (find_same c1)]
  rfl
def nilSl : AV → Value → Bool
  | .sl0 _,.slice none 0 0=>true
  | .sl0 _,_=>false
  | _,_=>true
def zOkR : List AV → List Value → Bool
  | [],[]=>true
  | a :: r,b :: s=>(match a with
    | .bt k _ _ _=>Nat.beq k 3 && nilSl (.sl0 none) b
    | a=>a.sc && constOk a b && nilSl a b) && zOkR r s
  | _,_=>false
theorem zOkR_len : ∀ {z : List AV} {c : List Value},zOkR z c = true → z.length = c.length
  | [],[],_=>rfl
  | [],_ :: _,e=>by simp [zOkR] at e
  | _ :: _,[],e=>by simp [zOkR] at e
  | a :: r,b :: s,e=>by
    simp only [zOkR,Bool.and_eq_true] at e
    simp [zOkR_len e.2]
theorem nilSl_sl0 {sh : Sh} {b : Value} (e4 : nilSl (.sl0 sh) b = true) : b = .slice none 0 0:=by
  unfold nilSl at e4
  split at e4
  · rfl
  · cases e4
  · rename_i h1 h2
    first | exact absurd rfl (h2 _) | exact (h1 _ rfl).elim | exact (h2 _ rfl).elim | exact absurd rfl (h1 _)
def chkAllocR (P : Program) (z : List AV) (t : TypeId) : Bool:=match P.info? t with
  | some i=>match i.zero with
    | some v=>zOkR z v.cells.toList
    | none=>false
  | none=>false
theorem rowsUp_ok : ∀ (z : List AV) (c : List Value) {h : Heap} {μ : Mu},HeapRel h μ w → zOkR z c = true →
    ∃ μ',HeapRel (rowsUp z h).2 μ' w ∧ Evo (imm h μ w) h μ (imm (rowsUp z h).2 μ' w) (rowsUp z h).2 μ' ∧ EscInv h (rowsUp z h).2 [] ∧ (rowsUp z h).1.length = z.length ∧
      ∀ (j : Nat) (x : AV),(rowsUp z h).1[j]? = some x → x.sc = true ∧ ∃ v,c[j]? = some v ∧ RAV (imm (rowsUp z h).2 μ' w) (rowsUp z h).2 μ' x v
  | [],c,h,μ,H,_=>⟨μ,H,Evo.refl _ _ _,EscInv.refl _ _,rfl,fun j x hx=>by simp [rowsUp] at hx⟩
  | a :: r,[],h,μ,H,e=>by simp [zOkR] at e
  | a :: r,b :: s,h,μ,H,e=>by
    simp only [zOkR,Bool.and_eq_true] at e
    obtain ⟨e1,e3⟩:=e
    by_cases ha : ∃ sh,a = .sl0 sh
    · obtain ⟨sh, rfl⟩ := ha
      simp only [Bool.and_eq_true] at e1
      obtain ⟨k1,k2⟩:=newNil H sh
      obtain ⟨μ',g1,g2,g3,g4,g5⟩:=rowsUp_ok r s k1 e3
      have hb' : b = .slice none 0 0:=nilSl_sl0 e1.2
      refine ⟨μ',g1,k2.trans g2,?_,by simp [rowsUp,g4],fun j x hx=>?_⟩
      · simpa [rowsUp] using (EscInv.push (h:=h) (o:=.row sh [] 0) (by simp [Obj.top])).trans g3
      · cases j with
        | zero=>
          simp [rowsUp] at hx
          subst hx
          refine ⟨rfl,b,rfl,?_⟩
          subst hb'
          have q : RAV (imm (h ++ [.row sh [] 0]) (μ ++ [none]) w) (h ++ [.row sh [] 0]) (μ ++ [none]) (.own h.length 0 0 0) (.slice none 0 0):=
            .own h.length 0 0 0 none 0 sh [] 0 none (Nat.le_refl _) (by simp) (by rw [← H.len]; simp) (Nat.zero_le _) (Nat.le_refl _) (fun _=>by simp [OwnAt])
          exact q.evo g2
        | succ j=>exact g5 j x (by simpa [rowsUp] using hx)
    · by_cases hb : ∃ k t id g, a = .bt k t id g
      · obtain ⟨k, t, id, g, rfl⟩ := hb
        simp only [Bool.and_eq_true] at e1
        obtain ⟨k1,k2⟩:=newNilA H (decSh t)
        obtain ⟨μ',g1,g2,g3,g4,g5⟩:=rowsUp_ok r s k1 e3
        have hb' : b = .slice none 0 0:=nilSl_sl0 e1.2
        refine ⟨μ',g1,k2.trans g2,?_,by simp [rowsUp,g4],fun j x hx=>?_⟩
        · simpa [rowsUp] using (EscInv.push (h:=h) (o:=.arow (decSh t) []) (by simp [Obj.top,AV.tops])).trans g3
        · cases j with
          | zero=>
            simp [rowsUp] at hx
            subst hx
            refine ⟨rfl,b,rfl,?_⟩
            subst hb'
            have q : RAV (imm (h ++ [.arow (decSh t) []]) (μ ++ [none]) w) (h ++ [.arow (decSh t) []]) (μ ++ [none]) (.bt 3 t h.length 0) (.slice none 0 0):=
              .bt3 t h.length 0 none 0 (.arow (decSh t) []) none (Nat.le_refl _) (by simp) (by rw [← H.len]; simp) (fun sh cs e=>by
                injection e with q1 q2
                subst q1; subst q2
                exact ⟨by simp,fun _=>by simp [OwnAt]⟩)
            exact q.evo g2
          | succ j=>exact g5 j x (by simpa [rowsUp] using hx)
      · obtain ⟨μ', g1, g2, g3, g4, g5⟩ := rowsUp_ok r s H e3
        have hr : rowsUp (a :: r) h = (a :: (rowsUp r h).1,(rowsUp r h).2):=by
          cases a <;> first | rfl | exact absurd ⟨_,rfl⟩ ha | exact absurd ⟨_,_,_,_,rfl⟩ hb
        have e2 : a.sc = true ∧ constOk a b = true:=by
          cases a <;> first | exact absurd ⟨_,rfl⟩ ha | exact absurd ⟨_,_,_,_,rfl⟩ hb | (simp only [Bool.and_eq_true] at e1; exact e1.1)
        rw [hr]
        refine ⟨μ',g1,g2,g3,by simp [g4],fun j x hx=>?_⟩
        cases j with
        | zero=>
          simp at hx
          subst hx
          exact ⟨e2.1,b,rfl,(constOk_sound e2.2).evo g2⟩
        | succ j=>exact g5 j x (by simpa using hx)
theorem allocr_ok {z : List AV} {t : TypeId} (hc : chkAllocR P z t = true) (H : HeapRel h μ w) :
    OpOk P (do pure (.value (← Instr.alloc t true (.tuple #[])))) h μ w (.ref (rowsUp z h).2.length 0) ((rowsUp z h).2 ++ [.box (rowsUp z h).1]) []:=by
  unfold chkAllocR at hc
  split at hc
  · rename_i i hi
    split at hc
    · rename_i v hv
      obtain ⟨μ',g1,g2,g3,g4,g5⟩:=rowsUp_ok z v.cells.toList H hc
      have hl:=zOkR_len hc
      obtain ⟨_,_,μ2,k1,k2,k3,k4,k5⟩:=ok_box (P:=P) g1 (s:=do pure (.value (← Instr.alloc t true (.tuple #[])))) (c:=v.cells) t (by rw [g4,hl]; simp) (fun j x hx=>by simpa using g5 j x hx) (by
        refine run_v ?_
        unfold Instr.alloc
        rw [Sem.run_bind]
        have : (zeroValue t).run P w = .ok v w:=by
          unfold zeroValue
          rw [Sem.run_bind,run_typeInfo_of hi]
          simp [hv]
        rw [this]
        simp [newVar,run_newObj_cells])
      exact ⟨_,_,μ2,k1,k2,k3,g2.trans k4,by simpa using g3.trans k5⟩
    · cases hc
  · cases hc
theorem rowsB_ok : ∀ (z : List AV) (c : List Value) {h : Heap} {μ : Mu},HeapRel h μ w → c.length = z.length → (∀ (j : Nat) (x : AV),z[j]? = some x → x.sc = true ∧ ∃ v,c[j]? = some v ∧ RAV (imm h μ w) h μ x v) →
    ∃ μ',HeapRel (rowsB z h).2 μ' w ∧ Evo (imm h μ w) h μ (imm (rowsB z h).2 μ' w) (rowsB z h).2 μ' ∧ EscInv h (rowsB z h).2 [] ∧ (rowsB z h).1.length = z.length ∧
      ∀ (j : Nat) (x : AV),(rowsB z h).1[j]? = some x → x.sc = true ∧ ∃ v,c[j]? = some v ∧ RAV (imm (rowsB z h).2 μ' w) (rowsB z h).2 μ' x v
  | [],c,h,μ,H,_,_=>⟨μ,H,Evo.refl _ _ _,EscInv.refl _ _,rfl,fun j x hx=>by simp [rowsB] at hx⟩
  | a :: r,[],h,μ,H,e,_=>by simp at e
  | a :: r,b :: s,h,μ,H,e,hr=>by
    have e3 : s.length = r.length:=by simpa using e
    obtain ⟨a1,b',hb',a2⟩:=hr 0 a rfl
    have hbb : b' = b:=by simpa using hb'.symm
    subst hbb
    by_cases ha : ∃ sh,a = .sl0 sh
    · obtain ⟨sh, rfl⟩ := ha
      obtain ⟨k1,k2⟩:=newNil H sh
      obtain ⟨μ',g1,g2,g3,g4,g5⟩:=rowsB_ok r s k1 e3 (fun j x hx=>by
        obtain ⟨q1,v,q2,q3⟩:=hr (j + 1) x (by simpa using hx)
        exact ⟨q1,v,by simpa using q2,q3.evo k2⟩)
      refine ⟨μ',g1,k2.trans g2,?_,by simp [rowsB,g4],fun j x hx=>?_⟩
      · simpa [rowsB] using (EscInv.push (h:=h) (o:=.row sh [] 0) (by simp [Obj.top])).trans g3
      · cases j with
        | zero=>
          simp [rowsB] at hx
          subst hx
          refine ⟨rfl,b',rfl,?_⟩
          cases a2 with
          | sl0 _ aa=>
            have q : RAV (imm (h ++ [.row sh [] 0]) (μ ++ [none]) w) (h ++ [.row sh [] 0]) (μ ++ [none]) (.own h.length 0 0 0) (.slice aa 0 0):=
              .own h.length 0 0 0 aa 0 sh [] 0 none (Nat.le_refl _) (by simp) (by rw [← H.len]; simp) (Nat.zero_le _) (Nat.le_refl _) (fun _=>by simp [OwnAt])
            exact q.evo g2
        | succ j=>exact g5 j x (by simpa [rowsB] using hx)
    · obtain ⟨μ',g1,g2,g3,g4,g5⟩:=rowsB_ok r s H e3 (fun j x hx=>by
        obtain ⟨q1,v,q2,q3⟩:=hr (j + 1) x (by simpa using hx)
        exact ⟨q1,v,by simpa using q2,q3⟩)
      have hrw : rowsB (a :: r) h = (a :: (rowsB r h).1,(rowsB r h).2):=by
        cases a <;> first | rfl | exact absurd ⟨_,rfl⟩ ha
      rw [hrw]
      refine ⟨μ',g1,g2,g3,by simp [g4],fun j x hx=>?_⟩
      cases j with
      | zero=>
        simp at hx
        subst hx
        exact ⟨a1,b',rfl,a2.evo g2⟩
      | succ j=>exact g5 j x (by simpa using hx)
theorem boxr_ok {t : TypeId} {v : AV} {x : Value} {cs : List AV} (H : HeapRel h μ w) (R : RAV (imm h μ w) h μ v x) (hc : v.cells = some cs) :
    OpOk P (do pure (.value (← Instr.box t x))) h μ w (.ref (rowsB cs h).2.length 0) ((rowsB cs h).2 ++ [.box (rowsB cs h).1]) []:=by
  have hs:=cells_sound R hc
  obtain ⟨μ',g1,g2,g3,g4,g5⟩:=rowsB_ok cs x.cells.toList H (by simpa using hs.1) (fun j y hy=>by
    obtain ⟨q1,u,q2,q3⟩:=hs.2 j y hy
    exact ⟨q1,u,by simpa using q2,q3⟩)
  obtain ⟨_,_,μ2,k1,k2,k3,k4,k5⟩:=ok_box (P:=P) g1 (s:=do pure (.value (← Instr.box t x))) (c:=x.cells) t (by rw [g4]; exact hs.1) (fun j y hy=>by simpa using g5 j y hy) (by
    refine run_v ?_
    simp [Instr.box,newVar,run_newObj_cells])
  exact ⟨_,_,μ2,k1,k2,k3,g2.trans k4,by simpa using g3.trans k5⟩
end Go.Am
end
section
/- The abstract machine,part 19: which operation stands for which (chkOp),and that it is sound. -/
set_option linter.unusedSimpArgs false
set_option linter.unusedVariables false
set_option maxHeartbeats 1000000
namespace Go.Am
variable {h h' : Heap} {μ μ' : Mu} {w w' : World} {P : Program} {M M' : Mem}
def ifaceNot (P : Program) (t : TypeId) : Bool:=match P.underlying t with | some (.interface _)=>false | some _=>true | none=>false
def bargs (b : Builtin) (o : Op) : Option (List Operand × List TypeId):=match o with
  | .call c=>match c.callee with
    | .builtin b'=>if b = b' then some (c.args.toList,c.argTypes.toList) else none
    | _=>none
  | _=>none
def optCs : List Opd → Option (List AV)
  | []=>some []
  | .c v :: r=>(optCs r).map (v :: ·)
  | _ :: _=>none
theorem optCs_ev {ev : Opd → AV} (he : ∀ v,ev (.c v) = v) : ∀ {xs : List Opd} {vs : List AV},optCs xs = some vs → xs.map ev = vs
  | [],vs,h=>by cases h; rfl
  | .c v :: r,vs,h=>by
    obtain ⟨y,hy,rfl⟩:=Option.map_eq_some_iff.1 h
    simp [he,optCs_ev he hy]
  | .t _ :: _,vs,h=>by cases h
  | .f _ :: _,vs,h=>by cases h
  | .g _ :: _,vs,h=>by cases h
def one9 : Op → Option (TypeId × Operand)
  | .buildSlice t n qs=>if n = 1 then match qs.toList with
    | [(0,y)]=>some (t,y)
    | _=>none
    else none
  | _=>none
theorem one9_eq {o : Op} {t : TypeId} {y : Operand} (h : one9 o = some (t,y)) : o = .buildSlice t 1 #[(0,y)]:=by
  unfold one9 at h
  split at h
  · rename_i t' n qs
    split at h
    · rename_i hn
      split at h
      · rename_i y' hq
        simp only [Option.some.injEq,Prod.mk.injEq] at h
        obtain ⟨rfl,rfl⟩:=h
        subst hn
        have : qs = #[(0,y')]:=by rw [← Array.toList_inj]; exact hq
        rw [this]
      · cases h
    · cases h
  · cases h
def chkUns (P : Program) (k t : Nat) (xs : List Opd) (o : Op) : Bool:=match k with
  | 0=>match o,xs with
    | .alloc t',[_]=>t' == t && chkBld P t
    | _,_=>false
  | 1=>match o,xs with
    | .convert s d y,[x]=>chkBld P t && chkUp P t s d && opdOk x y
    | _,_=>false
  | 2=>match o,xs with
    | .binOp op' t' x' y' _,[x,y]=>decide (op' = .neq) && chkPt P t' && opdOk x x' && opdOk y y'
    | _,_=>false
  | 3=>match bargs .append o,xs with
    | some ([x',y'],[t0,u]),[x,y]=>chkApp P none t0 u && chkSlT P t t0 && opdOk x x' && opdOk y y'
    | _,_=>false
  | 4=>match bargs .len o,xs with
    | some ([y],t0 :: _),[x]=>chkLen P t0 == 1 && opdOk x y
    | _,_=>false
  | 5=>match bargs .unsafeSliceData o,xs with
    | some ([y],_),[x]=>opdOk x y
    | _,_=>false
  | 6=>match bargs .unsafeString o,xs with
    | some ([p',n'],[pt,_]),[p,n]=>chkPtr P t pt && P.cellsOf t == 1 && opdOk p p' && opdOk n n'
    | _,_=>false
  | 7=>match callOf o,xs with
    | some (g,[y]),[f,x]=>chkSame P t && opdOk f g && opdOk x y
    | _,_=>false
  | 8=>match o,optCs xs with
    | .alloc t',some z=>chkAllocR P z t'
    | _,_=>false
  | 9=>match one9 o,xs with
    | some (t',y),[x]=>chk9 P (decSh t) t' && opdOk x y
    | _,_=>false
  | 10=>match o,xs with
    | .move (.const (.slice none 0 0)),[]=>true
    | .assign (.const (.slice none 0 0)),[]=>true
    | _,_=>false
  | 11=>match bargs .append o,xs with
    | some ([x',y'],[t0,u]),[x,y]=>chkApp P (decSh t) t0 u && decide (shSize (decSh t) ≠ 0) && opdOk x x' && opdOk y y'
    | _,_=>false
  | 12=>match o,xs with
    | .box _ y,[x]=>opdOk x y
    | _,_=>false
  | _=>false
def chkOp (P : Program) (a : AO) (o : Op) : Bool:=match a with
  | .uns k t xs=>chkUns P k t xs o
  | .mv x=>match o with
    | .move y=>opdOk x y
    | .assign y=>opdOk x y
    | _=>false
  | .pick c x y=>match o with
    | .pick c' x' y'=>opdOk c c' && opdOk x x' && opdOk y y'
    | _=>false
  | .alloc z=>match o with
    | .alloc t=>chkAlloc P z t
    | _=>false
  | .box x=>match o with
    | .box _ y=>opdOk x y
    | _=>false
  | .build z ps=>match o with
    | .build t qs=>chkBuild P z ps t qs.toList
    | _=>false
  | .bsl _ sh n z ps=>match o with
    | .buildSlice t n' qs=>chkBsl P sh n z ps t n' qs.toList
    | _=>false
  | .load sh x=>match o with
    | .load t y=>shOf P t == some sh && opdOk x y
    | _=>false
  | .store sh x v=>match o with
    | .store t y u=>shOf P t == some sh && opdOk x y && opdOk v u
    | _=>false
  | .nilchk x=>match o with
    | .nilCheck y=>opdOk x y
    | _=>false
  | .bin op x y=>match o with
    | .binOp op' _ x' y' _=>decide (op = op') && opdOk x x' && opdOk y y'
    | _=>false
  | .eqa ks neg x y=>match o with
    | .binOp op' t x' y' _=>decide (op' = if neg then .neq else .eql) && chkEqs P t ks && opdOk x x' && opdOk y y'
    | _=>false
  | .isnil k neg x=>match o with
    | .binOp op' t x' y' _=>decide (op' = if neg then .neq else .eql) && chkNil P k t y' && opdOk x x'
    | _=>false
  | .mkif _=>match o with
    | .makeInterface t _=>ifaceNot P t
    | _=>false
  | .un op x=>match o with
    | .unOp op' _ y=>decide (op = op') && opdOk x y
    | _=>false
  | .conv c x=>match o with
    | .convert s d y=>chkConv P c s d && opdOk x y
    | _=>false
  | .mkfn f caps=>match o with
    | .makeFunc fn first cs=>(match fn with | .func f'=>f == f' | _=>false) && first.size == 0 && opdsOk caps cs.toList
    | _=>false
  | .mkmap=>match o with
    | .makeMap _ r=>r.isNone
    | _=>false
  | .mksl sh z l c=>match o with
    | .makeSlice t l' c'=>chkMksl P sh z t && opdOk l l' && opdOk c c'
    | _=>false
  | .slice sh x lo hi mx=>match o with
    | .slice t x' lo' hi' mx'=>chkSlice P t sh && opdOk x x' && oOpdOk lo lo' && oOpdOk hi hi' && oOpdOk mx mx' && (mx.isNone || hi.isSome)
    | _=>false
  | .slstr x lo hi=>match o with
    | .slice t x' lo' hi' mx'=>chkStr P t && opdOk x x' && oOpdOk lo lo' && oOpdOk hi hi' && mx'.isNone
    | _=>false
  | .faddr off sh x=>match o with
    | .fieldAddr s y f=>chkFaddr P s f off sh && opdOk x y
    | _=>false
  | .field off sh x=>match o with
    | .field s y f=>chkFaddr P s f off sh && opdOk x y
    | _=>false
  | .iaddr sh x i=>match o with
    | .indexAddr t y j=>chkSlice P t sh && opdOk x y && opdOk i j
    | _=>false
  | .iaddra n sh x i=>match o with
    | .indexAddr t y j=>chkArray P t n sh && opdOk x y && opdOk i j
    | _=>false
  | .idxa n sh x i=>match o with
    | .index t y j=>chkArray P t n sh && opdOk x y && opdOk i j
    | _=>false
  | .idxs x i=>match o with
    | .index t y j=>chkStr P t && opdOk x y && opdOk i j
    | _=>false
  | .ext x i=>match o with
    | .extract y j=>opdOk x y && i == j
    | _=>false
  | .len x=>match bargs .len o with
    | some ([y],t :: _)=>chkLen P t == 1 && opdOk x y
    | _=>false
  | .lens x=>match bargs .len o with
    | some ([y],t :: _)=>chkLen P t == 2 && opdOk x y
    | _=>false
  | .lenm x=>match bargs .len o with
    | some ([y],t :: _)=>chkLen P t == 3 && opdOk x y
    | _=>false
  | .app sh x y=>match bargs .append o with
    | some ([x',y'],[t,u])=>chkApp P sh t u && opdOk x x' && opdOk y y'
    | _=>false
  | .copy sh x y=>match bargs .copy o with
    | some ([x',y'],t :: _)=>chkCopy P sh t && opdOk x x' && opdOk y y'
    | _=>false
  | .clr sh z x=>match bargs .clear o with
    | some ([x'],t :: _)=>chkClr P sh z t && opdOk x x'
    | _=>false
  | .look kk ok z x k=>match o with
    | .lookup t x' k' ok'=>chkMapZ P kk z t && ok == ok' && opdOk x x' && opdOk k k'
    | _=>false
  | .mupd kk m k v=>match o with
    | .mapUpdate t m' k' v'=>chkMapT P kk t && opdOk m m' && opdOk k k' && opdOk v v'
    | .insert t m' k' v'=>chkMapT P kk t && opdOk m m' && opdOk k k' && opdOk v v'
    | _=>false
  | .ment kk z m k=>match o with
    | .mapEntry t m' k'=>chkMapZ P kk z t && opdOk m m' && opdOk k k'
    | _=>false
  | .estore m s v=>match o with
    | .entryStore _ m' s' v'=>opdOk m m' && opdOk s s' && opdOk v v'
    | _=>false
  | .mdel kk m k=>match bargs .delete o with
    | some ([m',k'],t :: _)=>chkMapT P kk t && opdOk m m' && opdOk k k'
    | _=>false
  | .mrange x=>match o with
    | .range t y=>chkRange P t && opdOk x y
    | _=>false
  | .mentry x=>match o with
    | .entry y=>opdOk x y
    | _=>false
  | .mx xs=>match bargs .max o with
    | some (ys,_)=>opdsOk xs ys
    | _=>false
  | .mn xs=>match bargs .min o with
    | some (ys,_)=>opdsOk xs ys
    | _=>false
  | .new0 _=>match o with
    | .move (.const (.slice none 0 0))=>true
    | .assign (.const (.slice none 0 0))=>true
    | _=>false
  | _=>false
theorem bargs_spec {b : Builtin} {o : Oper} {ys : List Operand} {ts : List TypeId} (hb : bargs b o.op = some (ys,ts)) {ρ : Operand → Value} :
    ∃ cs,(execOp ρ o).run P w = (builtin b ts.toArray o.type cs (ys.map ρ).toArray).run P w:=by
  unfold bargs at hb
  split at hb
  · rename_i c hc
    split at hb
    · rename_i b' hcb
      split at hb
      · rename_i hbb
        subst hbb
        injection hb with hb
        injection hb with h1 h2
        subst h1; subst h2
        refine ⟨(c.args.map fun | .const _=>true | _=>false),?_⟩
        unfold execOp
        rw [hc]
        simp only [resolve,hcb,Sem.run_bind,Sem.run_pure,Result.andThen_ok,invoke]
        have e1 : (List.map ρ c.args.toList).toArray = c.args.map ρ:=by rw [← Array.toList_map]
        rw [e1]
        rfl
      · cases hb
    · cases hb
  · cases hb
theorem OpOk.congr {s s' : Sem Next} {v : AV} {h1 : Heap} {e : Esc} (hr : s.run P w = s'.run P w) (H : OpOk P s' h μ w v h1 e) : OpOk P s h μ w v h1 e:=by
  obtain ⟨nx,w',μ',r,q⟩:=H
  exact ⟨nx,w',μ',hr.trans r,q⟩
theorem n64_inv {v : AV} {x : Value} {n : Nat} (H : RAV M h μ v x) (hn : n64 v = some n) : x = .int .i64 n:=by
  unfold n64 at hn
  split at hn
  · rename_i m
    split at hn
    · injection hn with hn
      have:=H.p_inv
      cases this
      rw [← hn]
      congr 1
      omega
    · cases hn
  · cases hn
theorem uns_sound {k t : Nat} {xs : List Opd} {o : Oper} (hc : chkUns P k t xs o.op = true) {ev : Opd → AV} (hev : ∀ v,ev (.c v) = v) {ρ : Operand → Value} (hρ : ∀ v,ρ (.const v) = v) {v : AV} {h1 : Heap} {e : Esc} (H : HeapRel h μ w) (R : OpdRel (imm h μ w) h μ ev ρ)
    (he : unsOp k t (xs.map ev) h = some (v,h1,e)) : OpOk P (execOp ρ o) h μ w v h1 e:=by
  have E : ∀ {s : Sem Next},execOp ρ o = s → OpOk P s h μ w v h1 e → OpOk P (execOp ρ o) h μ w v h1 e:=fun hs H=>hs ▸ H
  unfold chkUns at hc
  split at hc
  · split at hc
    case h_2=>cases hc
    rename_i t' x ho
    simp only [Bool.and_eq_true,beq_iff_eq] at hc
    obtain ⟨rfl,c2⟩:=hc
    simp only [unsOp,List.map_cons,List.map_nil] at he
    split at he
    case h_2=>cases he
    simp only [Option.some.injEq,Prod.mk.injEq] at he
    obtain ⟨rfl,rfl,rfl⟩:=he
    exact E (by unfold execOp; rw [ho]) (newBld c2 H)
  · split at hc
    case h_2=>cases hc
    rename_i s d y x ho
    simp only [Bool.and_eq_true] at hc
    obtain ⟨⟨c1,c2⟩,c3⟩:=hc
    simp only [unsOp,List.map_cons,List.map_nil] at he
    have Rx:=R _ _ c3
    unfold upcB at he
    split at he
    case h_2=>cases he
    rename_i id hx
    split at he
    case h_2=>cases he
    rename_i t' id' g v2 hob
    split at he
    case isFalse=>cases he
    rename_i hcond
    simp only [Option.some.injEq,Prod.mk.injEq] at he
    obtain ⟨rfl,rfl,rfl⟩:=he
    rw [hx] at Rx
    exact E (by unfold execOp; rw [ho]) (upB_ok c1 c2 H Rx hob hcond.1 hcond.2)
  · split at hc
    case h_2=>cases hc
    rename_i op' t' x' y' u x y ho
    simp only [Bool.and_eq_true,decide_eq_true_eq] at hc
    obtain ⟨⟨⟨rfl,c2⟩,c3⟩,c4⟩:=hc
    simp only [unsOp,List.map_cons,List.map_nil] at he
    have Rx:=R _ _ c3
    have Ry:=R _ _ c4
    unfold neqB at he
    split at he
    case h_2=>cases he
    rename_i id o1 id' o2 hx hy
    split at he
    case isFalse=>cases he
    rename_i hcond
    obtain ⟨rfl,rfl⟩:=hcond
    simp only [Option.some.injEq,Prod.mk.injEq] at he
    obtain ⟨rfl,rfl,rfl⟩:=he
    rw [hx] at Rx
    rw [hy] at Ry
    exact E (by unfold execOp; rw [ho]) (neqB_ok c2 H Rx Ry)
  · split at hc
    case h_2=>cases hc
    rename_i x' y' t0 u x y hb
    simp only [Bool.and_eq_true] at hc
    obtain ⟨⟨⟨c1,c2⟩,c3⟩,c4⟩:=hc
    simp only [unsOp,List.map_cons,List.map_nil] at he
    obtain ⟨cs,hr⟩:=bargs_spec (P:=P) (w:=w) hb (ρ:=ρ)
    exact OpOk.congr hr (appB_ok c1 c2 H (R _ _ c3) (R _ _ c4) he)
  · split at hc
    case h_2=>cases hc
    rename_i y t0 ts x hb
    simp only [Bool.and_eq_true,beq_iff_eq] at hc
    simp only [unsOp,List.map_cons,List.map_nil,Option.map_eq_some_iff,Prod.mk.injEq] at he
    obtain ⟨n,hn,rfl,rfl,rfl⟩:=he
    obtain ⟨cs,hr⟩:=bargs_spec (P:=P) (w:=w) hb (ρ:=ρ)
    have Rx:=R _ _ hc.2
    have hx : ∃ a cap,ρ y = .slice a n cap:=by
      unfold lenB at hn
      split at hn
      · rename_i hx
        rw [hx] at Rx
        injection hn with hn
        subst hn
        generalize ρ y = z at Rx
        cases Rx with | bt1 _ _ _ a cap xs' fz' m hl ho' hm hg hv=>exact ⟨_,_,rfl⟩
      · cases hn
    obtain ⟨a,cap,hx⟩:=hx
    exact OpOk.congr hr (lenB_ok hx H hc.1)
  · split at hc
    case h_2=>cases hc
    rename_i y ts x hb
    simp only [unsOp,List.map_cons,List.map_nil] at he
    obtain ⟨cs,hr⟩:=bargs_spec (P:=P) (w:=w) hb (ρ:=ρ)
    exact OpOk.congr hr (dataB_ok H (R _ _ hc) he)
  · split at hc
    case h_2=>cases hc
    rename_i p' n' pt it p n hb
    simp only [Bool.and_eq_true,beq_iff_eq] at hc
    obtain ⟨⟨⟨c1,c2⟩,c3⟩,c4⟩:=hc
    simp only [unsOp,List.map_cons,List.map_nil] at he
    obtain ⟨cs,hr⟩:=bargs_spec (P:=P) (w:=w) hb (ρ:=ρ)
    split at he
    · rename_i m hm
      have hn:=n64_inv (R _ _ c4) hm
      refine OpOk.congr hr ?_
      simp only [List.map_cons,List.map_nil,hn]
      exact strB_ok (ts:=[]) c1 c2 H (R _ _ c3) he
    · cases he
  · split at hc
    case h_2=>cases hc
    rename_i g y f x hb
    simp only [Bool.and_eq_true] at hc
    obtain ⟨⟨c1,c2⟩,c3⟩:=hc
    simp only [unsOp,List.map_cons,List.map_nil] at he
    have Rf:=R _ _ c2
    have Rx:=R _ _ c3
    unfold sameB at he
    split at he
    case h_2=>cases he
    rename_i g' hf
    split at he
    case isFalse=>cases he
    rename_i hcond
    subst hcond
    simp only [Option.some.injEq,Prod.mk.injEq] at he
    obtain ⟨rfl,rfl,rfl⟩:=he
    rw [hf] at Rf
    have hg : ρ g = .func (.func g') #[] #[]:=by
      generalize ρ g = z at Rf
      cases Rf with | fn _ cs vs hl hr=>
      have : vs = []:=List.length_eq_zero_iff.1 (by rw [← hl]; rfl)
      subst this
      rfl
    exact sameB_ok c1 hb hg H Rx
  · split at hc
    case h_2=>cases hc
    rename_i t' z ho hz
    rw [optCs_ev hev hz] at he
    simp only [unsOp,Option.some.injEq,Prod.mk.injEq] at he
    obtain ⟨rfl,rfl,rfl⟩:=he
    exact E (by unfold execOp; rw [ho]) (allocr_ok hc H)
  · split at hc
    case h_2=>cases hc
    rename_i t' y x ho
    simp only [Bool.and_eq_true] at hc
    obtain ⟨c1,c2⟩:=hc
    have ho:=one9_eq ho
    simp only [unsOp,List.map_cons,List.map_nil] at he
    split at he
    case h_2=>cases he
    rename_i cs hv
    split at he
    case isFalse=>cases he
    rename_i hl
    simp only [Option.some.injEq,Prod.mk.injEq] at he
    obtain ⟨rfl,rfl,rfl⟩:=he
    exact E (s:=do pure (.value (← Instr.buildSlice t' 1 #[(0,ρ y)]))) (by unfold execOp; rw [ho]; simp) (build9_ok rfl c1 H (R _ _ c2) hv hl)
  · split at hc
    · rename_i ho
      simp only [unsOp,List.map_nil,Option.some.injEq,Prod.mk.injEq] at he
      obtain ⟨rfl,rfl,rfl⟩:=he
      exact E (by unfold execOp; rw [ho]; simp only [hρ]) (new10_ok H)
    · rename_i ho
      simp only [unsOp,List.map_nil,Option.some.injEq,Prod.mk.injEq] at he
      obtain ⟨rfl,rfl,rfl⟩:=he
      exact E (by unfold execOp; rw [ho]; simp only [hρ]) (new10_ok H)
    · cases hc
  · split at hc
    case h_2=>cases hc
    rename_i x' y' t0 u x y hb
    simp only [Bool.and_eq_true,decide_eq_true_eq] at hc
    obtain ⟨⟨⟨c1,c2⟩,c3⟩,c4⟩:=hc
    simp only [unsOp,List.map_cons,List.map_nil] at he
    obtain ⟨cs,hr⟩:=bargs_spec (P:=P) (w:=w) hb (ρ:=ρ)
    exact OpOk.congr hr (apA_ok rfl c1 c2 H (R _ _ c3) (R _ _ c4) he)
  · split at hc
    case h_2=>cases hc
    rename_i t' y x ho
    simp only [unsOp,List.map_cons,List.map_nil] at he
    split at he
    case h_2=>cases he
    rename_i cs hv
    simp only [Option.some.injEq,Prod.mk.injEq] at he
    obtain ⟨rfl,rfl,rfl⟩:=he
    exact E (by unfold execOp; rw [ho]) (boxr_ok H (R _ _ hc) hv)
  · cases hc
theorem op_sound {a : AO} {o : Oper} (hc : chkOp P a o.op = true) {ev : Opd → AV} (hev : ∀ v,ev (.c v) = v) {ρ : Operand → Value} (hρ : ∀ v,ρ (.const v) = v) {v : AV} {h1 : Heap} {e : Esc} (H : HeapRel h μ w) (R : OpdRel (imm h μ w) h μ ev ρ)
    (he : aop a ev h = some (v,h1,e)) : OpOk P (execOp ρ o) h μ w v h1 e:=by
  have E : ∀ {s : Sem Next},execOp ρ o = s → OpOk P s h μ w v h1 e → OpOk P (execOp ρ o) h μ w v h1 e:=fun hs H=>hs ▸ H
  cases a <;> simp only [chkOp] at hc
  case mv x=>
    split at hc
    · rename_i y ho; exact E (by unfold execOp; rw [ho]) (mv_ok H (R _ _ hc) he)
    · rename_i y ho; exact E (by unfold execOp; rw [ho]) (mv_ok H (R _ _ hc) he)
    · cases hc
  case uns k t xs=>exact uns_sound hc hev hρ H R he
  case pick c x y=>
    split at hc
    · rename_i c' x' y' ho
      simp only [Bool.and_eq_true] at hc
      exact E (by unfold execOp; rw [ho]) (pick_ok H (R _ _ hc.1.1) (R _ _ hc.1.2) (R _ _ hc.2) he)
    · cases hc
  case alloc z=>
    split at hc
    · rename_i t ho
      simp only [aop,Option.some.injEq,Prod.mk.injEq] at he
      obtain ⟨rfl,rfl,rfl⟩:=he
      exact E (by unfold execOp; rw [ho]) (alloc_ok hc H)
    · cases hc
  case box x=>
    split at hc
    · rename_i t y ho
      simp only [aop] at he
      split at he
      · rename_i cs hcs
        simp only [Option.some.injEq,Prod.mk.injEq] at he
        obtain ⟨rfl,rfl,rfl⟩:=he
        exact E (by unfold execOp; rw [ho]) (box_ok H (R _ _ hc) hcs)
      · cases he
    · cases hc
  case build z ps=>
    split at hc
    · rename_i t qs ho
      simp only [aop,Option.map_eq_some_iff,Prod.mk.injEq] at he
      obtain ⟨cs,hcs,rfl,rfl,rfl⟩:=he
      exact E (by unfold execOp; rw [ho]) (build_ok hc H R hcs)
    · cases hc
  case bsl own sh n z ps=>
    split at hc
    · rename_i t n' qs ho
      exact E (by unfold execOp; rw [ho]) (bsl_ok hc H R he)
    · cases hc
  case load sh x=>
    split at hc
    · rename_i t y ho
      simp only [Bool.and_eq_true,beq_iff_eq] at hc
      exact E (by unfold execOp; rw [ho]) (load_ok hc.1 H (R _ _ hc.2) ev x rfl he)
    · cases hc
  case store sh x u=>
    split at hc
    · rename_i t y z ho
      simp only [Bool.and_eq_true,beq_iff_eq] at hc
      exact E (by unfold execOp; rw [ho]) (store_ok hc.1.1 H ev x u (R _ _ hc.1.2) (R _ _ hc.2) he)
    · cases hc
  case nilchk x=>
    split at hc
    · rename_i y ho; exact nilchk_ok H (R _ _ hc) he rfl ho
    · cases hc
  case bin op x y=>
    split at hc
    · rename_i op' t x' y' u ho
      simp only [Bool.and_eq_true,decide_eq_true_eq] at hc
      obtain ⟨⟨rfl,c2⟩,c3⟩:=hc
      exact E (by unfold execOp; rw [ho]) (bin_ok H (R _ _ c2) (R _ _ c3) he)
    · cases hc
  case eqa ks neg x y=>
    split at hc
    · rename_i op' t x' y' u ho
      simp only [Bool.and_eq_true,decide_eq_true_eq] at hc
      obtain ⟨⟨⟨c1,c2⟩,c3⟩,c4⟩:=hc
      exact E (by unfold execOp; rw [ho]) (eqa_ok c1 c2 H (R _ _ c3) (R _ _ c4) he)
    · cases hc
  case isnil k neg x=>
    split at hc
    · rename_i op' t x' y' u ho
      simp only [Bool.and_eq_true,decide_eq_true_eq] at hc
      obtain ⟨⟨c1,c2⟩,c3⟩:=hc
      have hy : ∃ z,y' = .const z:=by
        unfold chkNil at c2
        split at c2 <;> first | exact ⟨_,rfl⟩ | cases c2
      obtain ⟨z,rfl⟩:=hy
      have:=isnil_ok (P:=P) (a:=x') c1 c2 H (R _ _ c3) he
      refine E (by unfold execOp; rw [ho]) ?_
      simp only [hρ]
      exact this
    · cases hc
  case mkif x=>
    split at hc
    · rename_i t y ho; exact E (by unfold execOp; rw [ho]) (mkif_ok hc H he)
    · cases hc
  case un op x=>
    split at hc
    · rename_i op' t y ho
      simp only [Bool.and_eq_true,decide_eq_true_eq] at hc
      obtain ⟨rfl,c2⟩:=hc
      exact E (by unfold execOp; rw [ho]) (un_ok H (R _ _ c2) he)
    · cases hc
  case conv c x=>
    split at hc
    · rename_i s d y ho
      simp only [Bool.and_eq_true] at hc
      exact E (by unfold execOp; rw [ho]) (conv_ok hc.1 H (R _ _ hc.2) he)
    · cases hc
  case mkfn f caps=>
    split at hc
    · rename_i fn first cs ho
      simp only [Bool.and_eq_true,beq_iff_eq] at hc
      obtain ⟨⟨c1,c2⟩,c3⟩:=hc
      split at c1
      · simp only [beq_iff_eq] at c1
        subst c1
        exact E (by unfold execOp; rw [ho]) (mkfn_ok c3 (Array.eq_empty_of_size_eq_zero c2) H R he)
      · cases c1
    · cases hc
  case mkmap=>
    split at hc
    · rename_i t r ho
      rw [Option.isNone_iff_eq_none] at hc
      subst hc
      exact E (s:=do pure (.value (← Instr.makeMap t none))) (by unfold execOp; rw [ho]; rfl) (mkmap_ok rfl H he)
    · cases hc
  case mksl sh z l c=>
    split at hc
    · rename_i t l' c' ho
      simp only [Bool.and_eq_true] at hc
      exact E (by unfold execOp; rw [ho]) (mksl_ok hc.1.1 H (R _ _ hc.1.2) (R _ _ hc.2) he)
    · cases hc
  case slice sh x lo hi mx=>
    split at hc
    · rename_i t x' lo' hi' mx' ho
      simp only [Bool.and_eq_true,Bool.or_eq_true] at hc
      obtain ⟨⟨⟨⟨⟨c1,c2⟩,c3⟩,c4⟩,c5⟩,c6⟩:=hc
      refine E (by unfold execOp; rw [ho]) (slice_ok c1 H R c2 c3 c4 c5 (fun hm=>?_) he)
      rcases c6 with c6 | c6
      · cases mx <;> simp_all
      · exact c6
    · cases hc
  case slstr x lo hi=>
    split at hc
    · rename_i t x' lo' hi' mx' ho
      simp only [Bool.and_eq_true] at hc
      obtain ⟨⟨⟨⟨c1,c2⟩,c3⟩,c4⟩,c5⟩:=hc
      rw [Option.isNone_iff_eq_none] at c5
      subst c5
      exact E (s:=do pure (.value (← Instr.sliceAt t (ρ x') (lo'.map ρ) (hi'.map ρ) none))) (by unfold execOp; rw [ho]; rfl) (slstr_ok c1 H R c2 c3 c4 he)
    · cases hc
  case faddr off sh x=>
    split at hc
    · rename_i s y f ho
      simp only [Bool.and_eq_true] at hc
      exact E (by unfold execOp; rw [ho]) (faddr_ok hc.1 H ev x (R _ _ hc.2) he)
    · cases hc
  case field off sh x=>
    split at hc
    · rename_i s y f ho
      simp only [Bool.and_eq_true] at hc
      exact E (by unfold execOp; rw [ho]) (field_ok hc.1 H ev x (R _ _ hc.2) he)
    · cases hc
  case iaddr sh x i=>
    split at hc
    · rename_i t y j ho
      simp only [Bool.and_eq_true] at hc
      exact E (by unfold execOp; rw [ho]) (iaddr_ok hc.1.1 H ev x i (R _ _ hc.1.2) (R _ _ hc.2) he)
    · cases hc
  case iaddra n sh x i=>
    split at hc
    · rename_i t y j ho
      simp only [Bool.and_eq_true] at hc
      exact E (by unfold execOp; rw [ho]) (iaddra_ok hc.1.1 H ev x i (R _ _ hc.1.2) (R _ _ hc.2) he)
    · cases hc
  case idxa n sh x i=>
    split at hc
    · rename_i t y j ho
      simp only [Bool.and_eq_true] at hc
      exact E (by unfold execOp; rw [ho]) (idxa_ok hc.1.1 H ev x i (R _ _ hc.1.2) (R _ _ hc.2) he)
    · cases hc
  case idxs x i=>
    split at hc
    · rename_i t y j ho
      simp only [Bool.and_eq_true] at hc
      exact E (by unfold execOp; rw [ho]) (idxs_ok hc.1.1 H ev x i (R _ _ hc.1.2) (R _ _ hc.2) he)
    · cases hc
  case ext x i=>
    split at hc
    · rename_i y j ho
      simp only [Bool.and_eq_true,beq_iff_eq] at hc
      obtain ⟨c1,rfl⟩:=hc
      exact E (by unfold execOp; rw [ho]) (ext_ok H (R _ _ c1) he)
    · cases hc
  case len x=>
    split at hc
    · rename_i y t ts hb
      simp only [Bool.and_eq_true,beq_iff_eq] at hc
      obtain ⟨cs,hr⟩:=bargs_spec (P:=P) (w:=w) hb (ρ:=ρ)
      exact OpOk.congr hr (len_ok hc.1 H (R _ _ hc.2) he)
    · cases hc
  case lens x=>
    split at hc
    · rename_i y t ts hb
      simp only [Bool.and_eq_true,beq_iff_eq] at hc
      obtain ⟨cs,hr⟩:=bargs_spec (P:=P) (w:=w) hb (ρ:=ρ)
      exact OpOk.congr hr (lens_ok hc.1 H (R _ _ hc.2) he)
    · cases hc
  case lenm x=>
    split at hc
    · rename_i y t ts hb
      simp only [Bool.and_eq_true,beq_iff_eq] at hc
      obtain ⟨cs,hr⟩:=bargs_spec (P:=P) (w:=w) hb (ρ:=ρ)
      exact OpOk.congr hr (lenm_ok hc.1 H (R _ _ hc.2) he)
    · cases hc
  case app sh x y=>
    split at hc
    · rename_i x' y' t u hb
      simp only [Bool.and_eq_true] at hc
      obtain ⟨cs,hr⟩:=bargs_spec (P:=P) (w:=w) hb (ρ:=ρ)
      exact OpOk.congr hr (app_ok hc.1.1 H (R _ _ hc.1.2) (R _ _ hc.2) he)
    · cases hc
  case copy sh x y=>
    split at hc
    · rename_i x' y' t ts hb
      simp only [Bool.and_eq_true] at hc
      obtain ⟨cs,hr⟩:=bargs_spec (P:=P) (w:=w) hb (ρ:=ρ)
      exact OpOk.congr hr (copy_ok hc.1.1 H (R _ _ hc.1.2) (R _ _ hc.2) he)
    · cases hc
  case clr sh z x=>
    split at hc
    · rename_i x' t ts hb
      simp only [Bool.and_eq_true] at hc
      obtain ⟨cs,hr⟩:=bargs_spec (P:=P) (w:=w) hb (ρ:=ρ)
      exact OpOk.congr hr (clr_ok hc.1 H (R _ _ hc.2) he)
    · cases hc
  case look kk ok z x k=>
    split at hc
    · rename_i t x' k' ok' ho
      simp only [Bool.and_eq_true,beq_iff_eq] at hc
      obtain ⟨⟨⟨c1,rfl⟩,c3⟩,c4⟩:=hc
      exact E (by unfold execOp; rw [ho]) (look_ok c1 H (R _ _ c3) (R _ _ c4) he)
    · cases hc
  case mupd kk m k u=>
    split at hc
    · rename_i t m' k' v' ho
      simp only [Bool.and_eq_true] at hc
      obtain ⟨⟨⟨c1,c2⟩,c3⟩,c4⟩:=hc
      exact E (by unfold execOp; rw [ho]) (mupd_ok c1 H (R _ _ c2) (R _ _ c3) (R _ _ c4) he)
    · rename_i t m' k' v' ho
      simp only [Bool.and_eq_true] at hc
      obtain ⟨⟨⟨c1,c2⟩,c3⟩,c4⟩:=hc
      exact E (by unfold execOp; rw [ho]) (mupd_ok c1 H (R _ _ c2) (R _ _ c3) (R _ _ c4) he)
    · cases hc
  case ment kk z m k=>
    split at hc
    · rename_i t m' k' ho
      simp only [Bool.and_eq_true] at hc
      exact E (by unfold execOp; rw [ho]) (ment_ok hc.1.1 H (R _ _ hc.1.2) (R _ _ hc.2) he)
    · cases hc
  case estore m s u=>
    split at hc
    · rename_i t m' s' v' ho
      simp only [Bool.and_eq_true] at hc
      exact E (by unfold execOp; rw [ho]) (estore_ok H (R _ _ hc.1.1) (R _ _ hc.1.2) (R _ _ hc.2) he)
    · cases hc
  case mdel kk m k=>
    split at hc
    · rename_i m' k' t ts hb
      simp only [Bool.and_eq_true] at hc
      obtain ⟨cs,hr⟩:=bargs_spec (P:=P) (w:=w) hb (ρ:=ρ)
      exact OpOk.congr hr (mdel_ok hc.1.1 H (R _ _ hc.1.2) (R _ _ hc.2) he)
    · cases hc
  case mrange x=>
    split at hc
    · rename_i t y ho
      simp only [Bool.and_eq_true] at hc
      exact E (by unfold execOp; rw [ho]) (mrange_ok hc.1 H (R _ _ hc.2) he)
    · cases hc
  case mentry x=>
    split at hc
    · rename_i y ho
      exact E (by unfold execOp; rw [ho]) (mentry_ok H (R _ _ hc) he)
    · cases hc
  case mx xs=>
    split at hc
    · rename_i ys ts hb
      obtain ⟨cs,hr⟩:=bargs_spec (P:=P) (w:=w) hb (ρ:=ρ)
      refine OpOk.congr hr ?_
      have:=mx_ok (P:=P) (cs:=ys.toArray) (ts:=ts.toArray) (ty:=o.type) hc H R he
      have h2 : Array.map ρ ys.toArray = (List.map ρ ys).toArray:=by simp
      rw [h2] at this
      exact this
    · cases hc
  case mn xs=>
    split at hc
    · rename_i ys ts hb
      obtain ⟨cs,hr⟩:=bargs_spec (P:=P) (w:=w) hb (ρ:=ρ)
      refine OpOk.congr hr ?_
      have:=mn_ok (P:=P) (cs:=ys.toArray) (ts:=ts.toArray) (ty:=o.type) hc H R he
      have h2 : Array.map ρ ys.toArray = (List.map ρ ys).toArray:=by simp
      rw [h2] at this
      exact this
    · cases hc
  case new0 sh=>
    split at hc
    · rename_i ho
      refine E (s:=pure (.value (.slice none 0 0))) (by unfold execOp; rw [ho]; simp only [hρ]) (new0_ok H he)
    · rename_i ho
      refine E (s:=pure (.value (.slice none 0 0))) (by unfold execOp; rw [ho]; simp only [hρ]) (new0_ok H he)
    · cases hc
  all_goals cases hc
end Go.Am
end
section
/- The abstract machine,part 20: regions in their own order. -/
set_option linter.unusedSimpArgs false
set_option linter.unusedVariables false
set_option maxHeartbeats 1000000
namespace Go.Am
variable {h h' : Heap} {μ μ' : Mu} {w w' : World} {P : Program} {M M' : Mem}
def GInv (gl : Nat → Option PV) (M : Mem) : Prop:=∀ n v,gl n = some v → RAV M [] [] (.vp v) (.pointer (some ⟨n,0,none⟩)) ∧ ∃ cs t x,M.b n = some (.cells cs t x) ∧ cs.size = v.cells.length
theorem RAV.vp_any {v : PV} {x : Value} {h' : Heap} {μ' : Mu} (H : RAV M h μ (.vp v) x) : RAV M h' μ' (.vp v) x:=by
  cases H with | vp _ b o f hm hr=>exact .vp v b o f hm hr
theorem GInv.mono {gl : Nat → Option PV} (hM : M.le M') (H : GInv gl M) : GInv gl M':=fun n v hv=>by
  obtain ⟨h1,cs,t,x,h2,h3⟩:=H n v hv
  refine ⟨?_,cs,t,x,hM.b _ _ h2,h3⟩
  cases h1 with | vp _ _ _ f hm hr=>exact .vp v n 0 f (fun j y hy=>hM.c _ _ _ (hm j y hy)) (fun j y hy=>(hr j y hy).mono hM)
structure Rel (gl : Nat → Option PV) (nt : Nat) (M0 : Mem) (h0 : Heap) (μ0 : Mu) (e : List (Nat × AV)) (h : Heap) (x : Esc) (a : Act) (w : World) (μ : Mu) : Prop where
  heap : HeapRel h μ w
  env : ∀ t,RAV (imm h μ w) h μ (aget e t) (a.tmps.getD t undef)
  glob : GInv gl (imm h μ w)
  evo : Evo M0 h0 μ0 (imm h μ w) h μ
  esc : EscInv h0 h x
  size : nt ≤ a.tmps.size
  defers : a.defers = []
variable {gl : Nat → Option PV} {nt : Nat} {M0 : Mem} {h0 : Heap} {μ0 : Mu} {e : List (Nat × AV)} {x : Esc} {a : Act}
theorem Rel.opds (H : Rel gl nt M0 h0 μ0 e h x a w μ) : OpdRel (imm h μ w) h μ (Opd.ev gl e) a.eval:=by
  intro p q hpq
  unfold opdOk at hpq
  split at hpq
  · simp only [beq_iff_eq] at hpq
    subst hpq
    exact H.env _
  · exact constOk_sound hpq
  · simp only [beq_iff_eq] at hpq
    subst hpq
    exact .fn _ [] [] rfl (fun j y v h1 h2=>by simp at h1)
  · simp only [beq_iff_eq] at hpq
    subst hpq
    simp only [Opd.ev]
    split
    · rename_i v hv; exact (H.glob _ v hv).1.vp_any
    · exact .und _
  · cases hpq
theorem aget_put {d : Option Nat} {v : AV} {t : Nat} : aget (put d v e) t = if d = some t then v else aget e t:=by
  cases d with
  | none=>simp [put]
  | some d=>simp [put,aget]
theorem put_getD {d : Option Nat} {u : Value} {t : Nat} (hd : ∀ i,d = some i → i < a.tmps.size) : (a.put d u).tmps.getD t undef = if d = some t then u else a.tmps.getD t undef:=by
  cases d with
  | none=>simp [Act.put]
  | some d=>
    have:=hd d rfl
    by_cases h : d = t
    · subst h; simp [Act.put,this]
    · simp [Act.put,h,Array.getElem?_setIfInBounds]
theorem put_size {d : Option Nat} {u : Value} : (a.put d u).tmps.size = a.tmps.size:=by
  cases d <;> simp [Act.put]
theorem put_defers {d : Option Nat} {u : Value} : (a.put d u).defers = a.defers:=by
  cases d <;> rfl
theorem Rel.step (H : Rel gl nt M0 h0 μ0 e h x a w μ) {d : Option Nat} (hd : ∀ i,d = some i → i < nt) {v : AV} {u : Value} {h' : Heap} {x' : Esc} {w' : World} {μ' : Mu} (H' : HeapRel h' μ' w') (E : Evo (imm h μ w) h μ (imm h' μ' w') h' μ') (I : EscInv h h' x')
    (hv : RAV (imm h' μ' w') h' μ' v u) : Rel gl nt M0 h0 μ0 (put d v e) h' (x' ++ x) (a.put d u) w' μ':=by
  have hd' : ∀ i,d = some i → i < a.tmps.size:=fun i hi=>Nat.lt_of_lt_of_le (hd i hi) H.size
  refine ⟨H',fun t=>?_,H.glob.mono E.le,H.evo.trans E,EscInv.trans H.esc I,by rw [put_size]; exact H.size,by rw [put_defers]; exact H.defers⟩
  rw [aget_put,put_getD hd']
  split
  · exact hv
  · exact (H.env t).evo E
theorem Rel.skip (H : Rel gl nt M0 h0 μ0 e h x a w μ) {d : Option Nat} (hd : ∀ i,d = some i → i < nt) : Rel gl nt M0 h0 μ0 (put d .skp e) h x (a.put d undef) w μ:=by
  have:=H.step hd H.heap (Evo.refl _ _ _) (EscInv.refl h []) (.skp)
  simpa using this
def CallOk (P : Program) (gl : Nat → Option PV) : Hd:=fun f asv h K=>
  ∀ (μ : Mu) (w : World) (vs : List Value),HeapRel h μ w → GInv gl (imm h μ w) → asv.length = vs.length → (∀ (j : Nat) (y : AV) (v : Value),asv[j]? = some y → vs[j]? = some v → RAV (imm h μ w) h μ y v) →
    ((∀ w,(callFunc f vs.toArray).run P w = .ok (.enter f vs.toArray) w) ∧
    Calls P f vs.toArray w fun
      | .returned r,w'=>∃ v h' x μ',K v h' x ∧ RAV (imm h' μ' w') h' μ' v r ∧ HeapRel h' μ' w' ∧ Evo (imm h μ w) h μ (imm h' μ' w') h' μ' ∧ EscInv h h' x
      | _,_=>False) ∨
    ∃ r w' v h' x μ',(callFunc f vs.toArray).run P w = .ok (.value r) w' ∧ K v h' x ∧ RAV (imm h' μ' w') h' μ' v r ∧ HeapRel h' μ' w' ∧ Evo (imm h μ w) h μ (imm h' μ' w') h' μ' ∧ EscInv h h' x
theorem CallOk.mono (P : Program) (gl : Nat → Option PV) : (CallOk P gl).Mono:=by
  intro f asv h K K' hK H μ w vs h1 h2 h3 h4
  rcases H μ w vs h1 h2 h3 h4 with ⟨q1,q2⟩ | ⟨r,w',v,h',x,μ',q1,k,rest⟩
  case inr=>exact .inr ⟨r,w',v,h',x,μ',q1,hK _ _ _ k,rest⟩
  refine .inl ⟨q1,q2.mono fun e w' he=>?_⟩
  cases e with
  | returned r=>obtain ⟨v,h',x,μ',k,rest⟩:=he; exact ⟨v,h',x,μ',hK _ _ _ k,rest⟩
  | panicked _=>exact he
  | outgrown=>exact he
def chkGuard (ops : Array Oper) (nt : Nat) : Option (Nat × Bool) → Option (Nat × Bool) → Bool
  | none,none=>true
  | some (t,b),some (j,b')=>b == b' && decide (t < nt) && (match ops[j]? with | some o=>o.dst == some t | none=>false)
  | _,_=>false
def chkAOp (P : Program) (nt : Nat) (ops : Array Oper) (o : AOp) (p : Oper) : Bool:=
  o.dst == p.dst && (match o.dst with | some d=>decide (d < nt) | none=>true) && chkGuard ops nt o.guard p.guard && match o.op with
    | .call f args=>match callOf p.op with
      | some (g,ys)=>opdOk (.f f) g && opdsOk args ys
      | none=>false
    | .callv f args=>match callOf p.op with
      | some (g,ys)=>opdOk f g && opdsOk args ys
      | none=>false
    | .mnext none xs=>match p.op with
      | .next y isS=>!isS && opdsOk xs [y]
      | _=>false
    | .mnext (some sh) xs=>match bargs .append p.op with
      | some ([x',y'],[t,u])=>chkApp P sh t u && opdsOk xs [x',y']
      | _=>false
    | op=>chkOp P op p.op
def chkOps (P : Program) (nt : Nat) (ops : Array Oper) : List AOp → Nat → Bool
  | [],i=>i == ops.size
  | o :: r,i=>match ops[i]? with
    | some p=>chkAOp P nt ops o p && chkOps P nt ops r (i + 1)
    | none=>false
theorem wanted_ok (H : Rel gl nt M0 h0 μ0 e h x a w μ) {ops : Array Oper} {g : Option (Nat × Bool)} {p : Oper} (hc : chkGuard ops nt g p.guard = true) {b : Bool} (hw : wanted g e = some b) : Region.wanted p (yielded ops a.tmps) = b:=by
  unfold Region.wanted
  unfold chkGuard at hc
  split at hc
  · rename_i hg
    rw [hg]
    simp only [wanted,Option.some.injEq] at hw
    exact hw
  · rename_i t b1 j b2 hg
    rw [hg]
    simp only [Bool.and_eq_true,beq_iff_eq,decide_eq_true_eq] at hc
    obtain ⟨⟨rfl,ht⟩,hj⟩:=hc
    split at hj
    · rename_i o ho
      simp only [beq_iff_eq] at hj
      have hsz : t < a.tmps.size:=Nat.lt_of_lt_of_le ht H.size
      have hR:=H.env t
      have hget : a.tmps[t]? = some (a.tmps.getD t undef):=by simp [Array.getElem?_eq_getElem hsz,Array.getD,hsz]
      simp only [yielded,ho,Option.bind_some,hj,hget]
      unfold wanted at hw
      dsimp only at hw
      split at hw
      · rename_i c hv
        rw [hv] at hR
        rw [hR.p_bool]
        have hw':=Option.some.inj hw
        rw [← hw']
        cases c <;> cases b1 <;> rfl
      · rename_i hv
        rw [hv] at hR
        generalize a.tmps.getD t undef = z at hR
        injection hw with hw
        subst hw
        cases hR
        cases b1 <;> rfl
      · cases hw
    · cases hj
  · cases hc
theorem reg_sound {C : Hd} (hC : ∀ f a h K,C f a h K → CallOk P gl f a h K) {ops : Array Oper} {Q : Exit → Act → World → Prop} :
    ∀ (aops : List AOp) (i : Nat) {e : List (Nat × AV)} {h : Heap} {x : Esc} {K : List (Nat × AV) → Heap → Esc → Prop} {a : Act} {w : World} {μ : Mu},chkOps P nt ops aops i = true → AReg C gl aops e h x K → Rel gl nt M0 h0 μ0 e h x a w μ →
      (∀ e h x a w μ,K e h x → Rel gl nt M0 h0 μ0 e h x a w μ → Q .normal a w) → wpOps P ops Q (List.range' i (ops.size - i)) a w
  | [],i,e,h,x,K,a,w,μ,hc,H,R,hK=>by
    simp only [chkOps,beq_iff_eq] at hc
    subst hc
    simp only [Nat.sub_self,List.range'_zero,wpOps]
    exact hK _ _ _ _ _ _ H R
  | o :: r,i,e,h,x,K,a,w,μ,hc,H,R,hK=>by
    simp only [chkOps] at hc
    split at hc
    · rename_i p hp
      have hi : i < ops.size:=by
        rcases Nat.lt_or_ge i ops.size with q | q
        · exact q
        · rw [Array.getElem?_eq_none q] at hp; cases hp
      simp only [Bool.and_eq_true] at hc
      obtain ⟨c1,c2⟩:=hc
      have hr : List.range' i (ops.size - i) = i :: List.range' (i + 1) (ops.size - (i + 1)):=by
        rw [show ops.size - i = (ops.size - (i + 1)) + 1 by omega,List.range'_succ]
      rw [hr]
      simp only [wpOps,hp]
      obtain ⟨dst,guard,op⟩:=o
      unfold chkAOp at c1
      simp only [Bool.and_eq_true,beq_iff_eq] at c1
      obtain ⟨⟨⟨d1,d2⟩,d3⟩,d4⟩:=c1
      have hd : ∀ j,dst = some j → j < nt:=fun j hj=>by subst hj; simpa using d2
      subst d1
      unfold AReg at H
      dsimp only at H
      split at H
      · rename_i hw
        rw [if_pos (wanted_ok R d3 hw)]
        left
        have call : ∀ (f : Nat) (asv : List AV) (g : Operand) (ys : List Operand) (caps : List AV) (cvs : List Value),callOf p.op = some (g,ys) → a.eval g = .func (.func f) #[] cvs.toArray → caps.length = cvs.length →
            (∀ (j : Nat) (y : AV) (v : Value),caps[j]? = some y → cvs[j]? = some v → RAV (imm h μ w) h μ y v) → asv.length = ys.length →
            (∀ (j : Nat) (y : AV) (v : Value),asv[j]? = some y → (ys.map a.eval)[j]? = some v → RAV (imm h μ w) h μ y v) →
            C f (asv ++ caps) h (fun v h' x'=>AReg C gl r (put p.dst v e) h' (x' ++ x) K) → p.wp P a w (wpOps P ops Q (List.range' (i + 1) (ops.size - (i + 1)))) Q:=by
          intro f asv g ys caps cvs hcall hg hcl hcr hal har HC
          have hco:=hC _ _ _ _ HC μ w (ys.map a.eval ++ cvs) R.heap R.glob (by simp [hal,hcl]) (fun j y v hy hv=>by
            rcases Nat.lt_or_ge j asv.length with q | q
            · rw [List.getElem?_append_left q] at hy
              rw [List.getElem?_append_left (by simpa [← hal] using q)] at hv
              exact har j y v hy hv
            · rw [List.getElem?_append_right q] at hy
              rw [List.getElem?_append_right (by simpa [← hal] using q)] at hv
              exact hcr _ y v hy (by simpa [← hal] using hv))
          unfold Oper.wp
          have harr : (ys.map a.eval ++ cvs).toArray = (ys.map a.eval).toArray ++ cvs.toArray:=by simp
          rcases hco with ⟨q1,q2⟩ | ⟨u,w',v,h',x',μ',q1,k1,k2,k3,k4,k5⟩
          case inr=>
            rw [run_call hcall hg,← harr,q1,Oper.upon_value]
            exact reg_sound hC r (i + 1) c2 k1 (R.step hd k3 k4 k5 k2) hK
          rw [run_call hcall hg,← harr,q1 w]
          rw [Oper.upon_enter]
          refine q2.mono fun en w' he=>?_
          cases en with
          | returned u=>
            obtain ⟨v,h',x',μ',k1,k2,k3,k4,k5⟩:=he
            exact reg_sound hC r (i + 1) c2 k1 (R.step hd k3 k4 k5 k2) hK
          | panicked _=>exact he.elim
          | outgrown=>exact he.elim
        cases op
        case call f args=>
          dsimp only at H d4
          split at d4
          · rename_i g ys hcall
            simp only [Bool.and_eq_true] at d4
            have hg:=R.opds _ _ d4.1
            have hgv : a.eval g = .func (.func f) #[] #[]:=by
              simp only [Opd.ev] at hg
              generalize a.eval g = z at hg
              cases hg with
              | fn _ _ vs hl hr=>
                have : vs = []:=List.length_eq_zero_iff.1 (by simpa using hl.symm)
                subst this; rfl
            exact call f _ g ys [] [] hcall hgv rfl (fun j y v h1 h2=>by simp at h1) (by simp [opds_len d4.2]) (opds_rel R.opds d4.2) (by simpa using H)
          · cases d4
        case callv f args=>
          dsimp only at H d4
          split at d4
          · rename_i g ys hcall
            simp only [Bool.and_eq_true] at d4
            split at H
            · rename_i fn caps hf
              have hg:=R.opds _ _ d4.1
              rw [hf] at hg
              generalize hz : a.eval g = z at hg
              cases hg with
              | fn _ _ vs hl hr=>exact call fn _ g ys caps vs hcall hz hl hr (by simp [opds_len d4.2]) (opds_rel R.opds d4.2) H
            · exact H.elim
          · cases d4
        case mnext osh xs=>
          cases osh with
          | some sh=>
            dsimp only at H d4
            split at d4
            · rename_i x' y' t u hb
              simp only [Bool.and_eq_true] at d4
              obtain ⟨d5,d6⟩:=d4
              obtain ⟨q1,q2,rfl,d7,d8⟩:=opds_two d6
              split at H
              · rename_i l hl
                obtain ⟨z,hz,hok⟩:=appq_ok (ty:=p.type) d5 R.heap (R.opds _ _ d7) (R.opds _ _ d8) hl
                obtain ⟨cs,hr⟩:=bargs_spec (P:=P) (w:=w) hb (ρ:=a.eval)
                obtain ⟨nx,w',μ',r1,r2,r3,r4,r5⟩:=OpOk.congr hr hok
                unfold Oper.wp
                rw [r1]
                rcases r2 with ⟨u,rfl,hu⟩ | ⟨rfl,hv⟩
                · rw [Oper.upon_value]
                  exact reg_sound hC r (i + 1) c2 (H.2 z hz) (R.step hd r3 r4 r5 hu) hK
                · rw [Oper.upon_skip]
                  exact reg_sound hC r (i + 1) c2 (H.2 z hz) (R.step hd r3 r4 r5 (by rw [hv]; exact .und undef)) hK
              · exact H.elim
            · cases d4
          | none=>
          dsimp only at H d4
          split at d4
          · rename_i y isS hop
            simp only [Bool.and_eq_true,Bool.not_eq_true'] at d4
            obtain ⟨rfl,d5⟩:=d4
            obtain ⟨q1,rfl,d6⟩:=opds_one d5
            split at H
            · rename_i l hl
              obtain ⟨z,hz,nx,w',μ',r1,r2,r3,r4,r5⟩:=mnext_ok (ty:=p.type) R.heap (R.opds _ _ d6) hl
              unfold Oper.wp
              have e1 : execOp a.eval p = (do pure (.value (← Instr.next (a.eval y) false p.type)) : Sem Next):=by unfold execOp; rw [hop]
              rw [e1,r1]
              rcases r2 with ⟨u,rfl,hu⟩ | ⟨rfl,hv⟩
              · rw [Oper.upon_value]
                exact reg_sound hC r (i + 1) c2 (H.2 z hz) (R.step hd r3 r4 r5 hu) hK
              · rw [Oper.upon_skip]
                exact reg_sound hC r (i + 1) c2 (H.2 z hz) (R.step hd r3 r4 r5 (by rw [hv]; exact .und undef)) hK
            · exact H.elim
          · cases d4
        all_goals
          dsimp only at H d4
          split at H
          · rename_i v h' x' ha
            obtain ⟨nx,w',μ',r1,r2,r3,r4,r5⟩:=op_sound (o:=p) d4 (fun _=>rfl) (fun _=>rfl) R.heap R.opds ha
            unfold Oper.wp
            rw [r1]
            rcases r2 with ⟨u,rfl,hu⟩ | ⟨rfl,rfl⟩
            · rw [Oper.upon_value]
              exact reg_sound hC r (i + 1) c2 H (R.step hd r3 r4 r5 hu) hK
            · rw [Oper.upon_skip]
              exact reg_sound hC r (i + 1) c2 H (R.step hd r3 r4 r5 (.und _)) hK
          · exact H.elim
      · rename_i hw
        rw [if_neg (by rw [wanted_ok R d3 hw]; simp)]
        exact reg_sound hC r (i + 1) c2 H (R.skip hd) hK
      · exact H.elim
    · cases hc
end Go.Am
end
section
/- The abstract machine,part D: regions whose order is left open. -/
set_option linter.unusedSimpArgs false
set_option linter.unusedVariables false
set_option maxHeartbeats 1000000
namespace Go.Am
variable {h h' : Heap} {μ μ' : Mu} {w w' : World} {P : Program} {M M' : Mem}
variable {gl : Nat → Option PV} {nt : Nat} {M0 : Mem} {h0 : Heap} {μ0 : Mu} {e : List (Nat × AV)} {x : Esc} {a : Act}
theorem do_sound {C : Hd} (hC : ∀ f a h K,C f a h K → CallOk P gl f a h K) {ops : Array Oper} {Q : Exit → Act → World → Prop} {o : AOp} {p : Oper} {i : Nat} (hp : ops[i]? = some p) (hc : chkAOp P nt ops o p = true)
    {g g' : Heap} {v : AV} {y : Esc} (R : Rel gl nt M0 h0 μ0 e g x a w μ) (H : ADo C gl o e g v g' y) {K : Act → World → Prop}
    (hK : ∀ a' w' μ' u,a' = a.put p.dst u → HeapRel g' μ' w' → Evo (imm g μ w) g μ (imm g' μ' w') g' μ' → EscInv g g' y → RAV (imm g' μ' w') g' μ' v u → K a' w') : wpOp P ops Q i K a w:=by
  unfold wpOp
  rw [hp]
  dsimp only
  obtain ⟨dst,guard,op⟩:=o
  unfold chkAOp at hc
  simp only [Bool.and_eq_true,beq_iff_eq] at hc
  obtain ⟨⟨⟨d1,d2⟩,d3⟩,d4⟩:=hc
  subst d1
  unfold ADo at H
  dsimp only at H
  split at H
  · rename_i hw
    rw [if_pos (wanted_ok R d3 hw)]
    left
    have call : ∀ (f : Nat) (asv : List AV) (gg : Operand) (ys : List Operand) (caps : List AV) (cvs : List Value),callOf p.op = some (gg,ys) → a.eval gg = .func (.func f) #[] cvs.toArray → caps.length = cvs.length →
        (∀ (j : Nat) (y : AV) (v : Value),caps[j]? = some y → cvs[j]? = some v → RAV (imm g μ w) g μ y v) → asv.length = ys.length →
        (∀ (j : Nat) (y : AV) (v : Value),asv[j]? = some y → (ys.map a.eval)[j]? = some v → RAV (imm g μ w) g μ y v) →
        C f (asv ++ caps) g (fun v1 h1 x1=>v1 = v ∧ h1 = g' ∧ x1 = y) → p.wp P a w K Q:=by
      intro f asv gg ys caps cvs hcall hg hcl hcr hal har HC
      have hco:=hC _ _ _ _ HC μ w (ys.map a.eval ++ cvs) R.heap R.glob (by simp [hal,hcl]) (fun j y v hy hv=>by
        rcases Nat.lt_or_ge j asv.length with q | q
        · rw [List.getElem?_append_left q] at hy
          rw [List.getElem?_append_left (by simpa [← hal] using q)] at hv
          exact har j y v hy hv
        · rw [List.getElem?_append_right q] at hy
          rw [List.getElem?_append_right (by simpa [← hal] using q)] at hv
          exact hcr _ y v hy (by simpa [← hal] using hv))
      unfold Oper.wp
      have harr : (ys.map a.eval ++ cvs).toArray = (ys.map a.eval).toArray ++ cvs.toArray:=by simp
      rcases hco with ⟨q1,q2⟩ | ⟨u,w',v1,h1,x1,μ',q1,⟨rfl,rfl,rfl⟩,k2,k3,k4,k5⟩
      case inr=>
        rw [run_call hcall hg,← harr,q1,Oper.upon_value]
        exact hK _ _ μ' u rfl k3 k4 k5 k2
      rw [run_call hcall hg,← harr,q1 w]
      rw [Oper.upon_enter]
      refine q2.mono fun en w' he=>?_
      cases en with
      | returned u=>
        obtain ⟨v1,h1,x1,μ',⟨rfl,rfl,rfl⟩,k2,k3,k4,k5⟩:=he
        exact hK _ _ μ' u rfl k3 k4 k5 k2
      | panicked _=>exact he.elim
      | outgrown=>exact he.elim
    cases op
    case call f args=>
      dsimp only at H d4
      split at d4
      · rename_i gg ys hcall
        simp only [Bool.and_eq_true] at d4
        have hg:=R.opds _ _ d4.1
        have hgv : a.eval gg = .func (.func f) #[] #[]:=by
          simp only [Opd.ev] at hg
          generalize a.eval gg = z at hg
          cases hg with
          | fn _ _ vs hl hr=>
            have : vs = []:=List.length_eq_zero_iff.1 (by simpa using hl.symm)
            subst this; rfl
        exact call f _ gg ys [] [] hcall hgv rfl (fun j y v h1 h2=>by simp at h1) (by simp [opds_len d4.2]) (opds_rel R.opds d4.2) (by simpa using H)
      · cases d4
    case callv f args=>
      dsimp only at H d4
      split at d4
      · rename_i gg ys hcall
        simp only [Bool.and_eq_true] at d4
        split at H
        · rename_i fn caps hf
          have hg:=R.opds _ _ d4.1
          rw [hf] at hg
          generalize hz : a.eval gg = z at hg
          cases hg with
          | fn _ _ vs hl hr=>exact call fn _ gg ys caps vs hcall hz hl hr (by simp [opds_len d4.2]) (opds_rel R.opds d4.2) H
        · exact H.elim
      · cases d4
    case mnext sh xs=>exact H.elim
    all_goals
      dsimp only at H d4
      obtain ⟨nx,w',μ',r1,r2,r3,r4,r5⟩:=op_sound (o:=p) d4 (fun _=>rfl) (fun _=>rfl) R.heap R.opds H
      unfold Oper.wp
      rw [r1]
      rcases r2 with ⟨u,rfl,hu⟩ | ⟨rfl,hv⟩
      · rw [Oper.upon_value]
        exact hK _ _ μ' u rfl r3 r4 r5 hu
      · rw [Oper.upon_skip]
        exact hK _ _ μ' undef rfl r3 r4 r5 (hv ▸ .und _)
  · rename_i hw
    obtain ⟨rfl,rfl,rfl⟩:=H
    rw [if_neg (by rw [wanted_ok R d3 hw]; simp)]
    exact hK _ _ μ undef rfl R.heap (Evo.refl _ _ _) (EscInv.refl _ _) .skp
  · exact H.elim
def AO.hfree : AO → Bool
  | .mv _ | .pick _ _ _ | .build _ _ | .nilchk _ | .bin _ _ _ | .eqa _ _ _ _ | .isnil _ _ _ | .mkif _ | .un _ _ | .mkfn _ _ | .slstr _ _ _ | .faddr _ _ _ | .field _ _ _ | .iaddra _ _ _ _ | .idxa _ _ _ _ | .idxs _ _ | .ext _ _ | .len _ | .lens _ | .mx _ | .mn _=>true
  | _=>false
theorem mapc {α : Type} {F : α → AV} {X : Option α} {h h1 g : Heap} {v : AV} {y : Esc} (H : Option.map (fun v=>(F v,h,([] : Esc))) X = some (v,h1,y)) : Option.map (fun v=>(F v,g,([] : Esc))) X = some (v,g,[]):=by
  cases X with
  | none=>cases H
  | some z=>simp at H ⊢; exact H.1
theorem nilc {α : Type} {b : Bool} {F : α → AV} {X : Option α} {h h1 g : Heap} {u v : AV} {y : Esc} (H : (bif b then some (u,h,([] : Esc)) else Option.map (fun v=>(F v,h,([] : Esc))) X) = some (v,h1,y)) : (bif b then some (u,g,([] : Esc)) else Option.map (fun v=>(F v,g,([] : Esc))) X) = some (v,g,[]):=by
  cases b with
  | true=>simp at H ⊢; exact H.1
  | false=>exact mapc H
theorem hfree_ok {op : AO} (hf : op.hfree = true) {ev : Opd → AV} {v : AV} {h1 : Heap} {y : Esc} (H : aop op ev h = some (v,h1,y)) (g : Heap) : aop op ev g = some (v,g,[]):=by
  cases op <;> first
    | (cases hf; done)
    | (simp only [aop] at H ⊢; simp_all; done)
    | (simp only [aop] at H ⊢; exact mapc H)
    | (simp only [aop] at H ⊢; exact nilc H)
    | (simp only [aop] at H ⊢; split at H <;> first | (simp_all; done) | exact mapc H | (split at H <;> first | (simp_all; done) | exact mapc H | (rw [if_pos ‹_›]; exact mapc H) | (split at H <;> first | (simp_all; done) | exact mapc H | (rw [if_pos ‹_›]; exact mapc H))))
structure Tr (C : Hd) (gl : Nat → Option PV) (ds : List DOp) (m : Nat) (dn : Done) (hs : List Heap) (E : Nat → List (Nat × AV)) (H : Nat → Heap) (V : Nat → AV) (X Y : Nat → Esc) (i : Nat) (o : DOp) : Prop where
  run : ADo C gl o.op (prune (some o.rd) (E (m + i))) (H (m + i)) (V (m + i)) (H (m + i + 1)) (Y (m + i))
  env : E (m + i + 1) = put o.op.dst (V (m + i)) (E (m + i))
  esc : X (m + i + 1) = Y (m + i) ++ X (m + i)
  still : o.eff = false → H (m + i + 1) = H (m + i) ∧ Y (m + i) = []
  early : ∀ k ∈ o.early,∃ g,(k < m ∧ hs[k]? = some g ∨ m ≤ k ∧ k < m + i ∧ g = H k) ∧ ADo C gl o.op (prune (some o.rd) (E (m + i))) g (V (m + i)) g []
  again : ∀ j ∈ o.again,(∃ q,j < m ∧ dn[j]? = some q ∧ ADo C gl q.1 q.2.1 (H (m + i + 1)) q.2.2 (H (m + i + 1)) []) ∨
    (m ≤ j ∧ ∃ q,ds[j - m]? = some q ∧ ADo C gl q.op (prune (some q.rd) (E j)) (H (m + i + 1)) (V j) (H (m + i + 1)) [])
end Go.Am
end
section
/- The abstract machine,part E: regions whose order is left open: from one order tov all. -/
set_option linter.unusedSimpArgs false
set_option linter.unusedVariables false
set_option maxHeartbeats 1000000
namespace Go.Am
variable {h h' : Heap} {μ μ' : Mu} {w w' : World} {P : Program} {M M' : Mem}
variable {gl : Nat → Option PV} {nt : Nat} {M0 : Mem} {h0 : Heap} {μ0 : Mu} {e : List (Nat × AV)} {x : Esc} {a : Act}
theorem trace {C : Hd} : ∀ (ds : List DOp) (m : Nat) (dn : Done) (hs : List Heap) (e : List (Nat × AV)) (h : Heap) (x : Esc) (K : List (Nat × AV) → Heap → Esc → Prop),ADraw C gl ds dn hs e h x K → dn.length = m → hs.length = m →
    ∃ E H V X Y,E m = e ∧ H m = h ∧ X m = x ∧ (∀ i o,ds[i]? = some o → Tr C gl ds m dn hs E H V X Y i o) ∧ K (E (m + ds.length)) (H (m + ds.length)) (X (m + ds.length))
  | [],m,dn,hs,e,h,x,K,HD,h1,h2=>⟨fun _=>e,fun _=>h,fun _=>.und,fun _=>x,fun _=>[],rfl,rfl,rfl,fun i o ho=>by simp at ho,HD⟩
  | o :: r,m,dn,hs,e,h,x,K,HD,h1,h2=>by
    obtain ⟨v,h',y,d1,d2,d3,d4,d5⟩:=HD
    obtain ⟨E,H,V,X,Y,e1,e2,e3,e4,e5⟩:=trace r (m + 1) _ _ _ _ _ K d5 (by simp [h1]) (by simp [h2])
    refine ⟨fun i=>if i = m then e else E i,fun i=>if i = m then h else H i,fun i=>if i = m then v else V i,fun i=>if i = m then x else X i,fun i=>if i = m then y else Y i,by simp,by simp,by simp,?_,?_⟩
    · intro i o' ho'
      cases i with
      | zero=>
        simp only [List.getElem?_cons_zero,Option.some.injEq] at ho'
        subst ho'
        refine ⟨?_,?_,?_,fun hf=>?_,fun k hk=>?_,fun j hj=>?_⟩
        · simp only [Nat.add_zero,if_true,Nat.succ_ne_self,if_false,e2]; exact d1
        · simp only [Nat.add_zero,if_true,Nat.succ_ne_self,if_false,e1]
        · simp only [Nat.add_zero,if_true,Nat.succ_ne_self,if_false,e3]
        · simp only [Nat.add_zero,if_true,Nat.succ_ne_self,if_false,e2]; exact d2 hf
        · obtain ⟨g, q1, q2⟩ := d3 k hk
          refine ⟨g,.inl ⟨by rw [← h2]; exact lt_of_get q1,q1⟩,?_⟩
          simp only [Nat.add_zero,if_true]
          exact q2
        · obtain ⟨q, q1, q2⟩ := d4 j hj
          refine .inl ⟨q,by rw [← h1]; exact lt_of_get q1,q1,?_⟩
          simp only [Nat.add_zero,Nat.succ_ne_self,if_false,e2]
          exact q2
      | succ i=>
        simp only [List.getElem?_cons_succ] at ho'
        have T:=e4 i o' ho'
        have hm2 : m + (i + 1) = m + 1 + i:=by omega
        have hm3 : ¬ (m + 1 + i = m):=by omega
        have hm4 : ¬ (m + 1 + i + 1 = m):=by omega
        refine ⟨?_,?_,?_,fun hf=>?_,fun k hk=>?_,fun j hj=>?_⟩
        · simp only [hm2,hm3,hm4,if_false]; exact T.run
        · simp only [hm2,hm3,hm4,if_false]; exact T.env
        · simp only [hm2,hm3,hm4,if_false]; exact T.esc
        · simp only [hm2,hm3,hm4,if_false]; exact T.still hf
        · obtain ⟨g, q1, q2⟩ := T.early k hk
          refine ⟨g,?_,by simp only [hm2,hm3,if_false]; exact q2⟩
          rcases q1 with ⟨q1,q3⟩ | ⟨q1,q3,q4⟩
          · rcases Nat.lt_or_ge k m with q5 | q5
            · left
              rw [List.getElem?_append_left (by omega)] at q3
              exact ⟨q5,q3⟩
            · have : k = m := by omega
              subst this
              right
              rw [List.getElem?_append_right (by omega),h2,Nat.sub_self] at q3
              simp at q3
              exact ⟨Nat.le_refl _,by omega,by simp [q3]⟩
          · right
            exact ⟨by omega,by omega,by rw [if_neg (by omega)]; exact q4⟩
        · rcases T.again j hj with ⟨q, q1, q2, q3⟩ | ⟨q1, q, q2, q3⟩
          · rcases Nat.lt_or_ge j m with q5 | q5
            · left
              rw [List.getElem?_append_left (by omega)] at q2
              exact ⟨q,q5,q2,by simp only [hm2,hm4,if_false]; exact q3⟩
            · have : j = m := by omega
              subst this
              right
              rw [List.getElem?_append_right (by omega),h1,Nat.sub_self] at q2
              simp at q2
              subst q2
              exact ⟨Nat.le_refl _,o,by simp,by simp only [hm2,hm4,if_false,if_true]; exact q3⟩
          · right
            refine ⟨by omega,q,?_,?_⟩
            · rw [show j - m = (j - (m + 1)) + 1 by omega]
              simpa using q2
            · simp only [hm2, hm4, if_false]
              rw [if_neg (by omega),if_neg (by omega)]
              exact q3
    · dsimp only
      rw [if_neg (by simp),if_neg (by simp),if_neg (by simp)]
      rw [show m + (o :: r).length = m + 1 + r.length by simp; omega]
      exact e5
def lk (dst : Nat → Option Nat) (V : Nat → AV) (e : List (Nat × AV)) (sel : Nat → Bool) : Nat → Nat → AV
  | 0,t=>aget e t
  | m + 1,t=>if sel m = true ∧ dst m = some t then V m else lk dst V e sel m t
theorem lk_congr {dst : Nat → Option Nat} {V : Nat → AV} {e : List (Nat × AV)} {s s' : Nat → Bool} {t : Nat} : ∀ (n : Nat),(∀ j,j < n → dst j = some t → s j = s' j) → lk dst V e s n t = lk dst V e s' n t
  | 0,_=>rfl
  | n + 1,h=>by
    simp only [lk]
    rw [lk_congr n (fun j hj=>h j (by omega))]
    by_cases hd : dst n = some t
    · rw [h n (by omega) hd]
    · simp [hd]
theorem lk_none {dst : Nat → Option Nat} {V : Nat → AV} {e : List (Nat × AV)} {s : Nat → Bool} {t : Nat} {i : Nat} : ∀ (n : Nat),i ≤ n → (∀ j,i ≤ j → j < n → dst j = some t → s j = false) → lk dst V e s n t = lk dst V e s i t
  | 0, hi, _ => by have : i = 0 := by omega
                   subst this; rfl
  | n + 1,hi,h=>by
    rcases Nat.lt_or_ge n i with q | q
    · have : i = n + 1 := by omega
      subst this; rfl
    · simp only [lk]
      rw [if_neg,lk_none n q (fun j h1 h2=>h j h1 (by omega))]
      rintro ⟨h1,h2⟩
      rw [h n q (by omega) h2] at h1
      cases h1
end Go.Am
end
section
/- The abstract machine,part F: regions whose order is left open: sound. -/
set_option linter.unusedSimpArgs false
set_option linter.unusedVariables false
set_option maxHeartbeats 1000000
namespace Go.Am
variable {h h' : Heap} {μ μ' : Mu} {w w' : World} {P : Program} {M M' : Mem}
variable {gl : Nat → Option PV} {nt : Nat} {M0 : Mem} {h0 : Heap} {μ0 : Mu} {e : List (Nat × AV)} {x : Esc} {a : Act} {ops : Array Oper}
def edgesOf (o : Oper) : List Nat:=(o.after.toList.filter (Region.binds .any)).map (·.on)
inductive Bef (ops : Array Oper) : Nat → Nat → Prop
  | one {k i : Nat} {o : Oper} (ho : ops[i]? = some o) (hk : k ∈ edgesOf o) : Bef ops k i
  | more {k m i : Nat} {o : Oper} (h : Bef ops k m) (ho : ops[i]? = some o) (hm : m ∈ edgesOf o) : Bef ops k i
def closeTab : List (List Nat) → List (List Nat) → List (List Nat)
  | [],t=>t
  | es :: r,t=>closeTab r (t ++ [(es ++ es.flatMap fun m=>t.getD m []).eraseDups])
theorem closeTab_ok : ∀ (os : List Oper) (m : Nat) (t : List (List Nat)),ops.toList.drop m = os → t.length = m → (∀ i l,t[i]? = some l → ∀ k ∈ l,Bef ops k i) →
    ∀ i l,(closeTab (os.map edgesOf) t)[i]? = some l → ∀ k ∈ l,Bef ops k i
  | [],m,t,_,_,ht=>ht
  | o :: r,m,t,ho,hm,ht=>by
    have hom : ops[m]? = some o:=by
      have : (ops.toList.drop m)[0]? = some o:=by rw [ho]; rfl
      rw [List.getElem?_drop] at this
      simpa using this
    have hr : ops.toList.drop (m + 1) = r:=by
      rw [← List.drop_drop,ho]
      rfl
    simp only [List.map_cons,closeTab]
    refine closeTab_ok r (m + 1) _ hr (by simp [hm]) (fun i l hi k hk=>?_)
    rcases get_push hi with hi | ⟨hi,hl⟩
    · exact ht i l hi k hk
    · rw [hi, hm]
      rw [hl] at hk
      rw [List.mem_eraseDups] at hk
      rcases List.mem_append.1 hk with hk | hk
      · exact .one hom hk
      · obtain ⟨q, q1, q2⟩ := List.mem_flatMap.1 hk
        cases hq : t[q]? with
        | none=>simp [List.getD,hq] at q2
        | some l'=>
          simp [List.getD,hq] at q2
          exact .more (ht q l' hq k q2) hom q1
def pairOk (tab : List (List Nat)) (i j : Nat) (p q : DOp) : Bool:=
  (tab.getD j []).contains i ||
    (!(p.eff && q.eff) && (match p.op.dst with | some t=>q.op.dst != some t && !q.rd.contains t | none=>true) && (match q.op.dst with | some t=>!p.rd.contains t | none=>true) &&
      (!(q.eff && !p.eff) || p.op.op.hfree || q.again.contains i) && (!(p.eff && !q.eff) || q.op.op.hfree || q.early.contains i))
def rowOk (tab : List (List Nat)) (j : Nat) (q : DOp) : List DOp → Nat → Bool
  | [],_=>true
  | p :: r,i=>decide (j ≤ i) || (pairOk tab i j p q && rowOk tab j q r (i + 1))
def rowsOk (tab : List (List Nat)) (all : List DOp) : List DOp → Nat → Bool
  | [],_=>true
  | q :: r,j=>rowOk tab j q all 0 && rowsOk tab all r (j + 1)
def edgesLt : List Oper → Nat → Bool
  | [],_=>true
  | o :: r,i=>(edgesOf o).all (fun k=>decide (k < i)) && edgesLt r (i + 1)
def chkDraw (P : Program) (nt : Nat) (ops : Array Oper) (ds : List DOp) : Bool:=
  chkOps P nt ops (ds.map (·.op)) 0 && edgesLt ops.toList 0 && rowsOk (closeTab (ops.toList.map edgesOf) []) ds ds 0
theorem rowOk_spec {tab : List (List Nat)} {j : Nat} {q : DOp} : ∀ {l : List DOp} {i : Nat},rowOk tab j q l i = true → ∀ k p,l[k]? = some p → i + k < j → pairOk tab (i + k) j p q = true
  | [],i,_,k,p,h,_=>by simp at h
  | p0 :: r,i,h,k,p,hk,hlt=>by
    simp only [rowOk,Bool.or_eq_true,decide_eq_true_eq,Bool.and_eq_true] at h
    rcases h with h | ⟨h1,h2⟩
    · omega
    · cases k with
      | zero=>simp at hk; subst hk; exact h1
      | succ k=>
        have:=rowOk_spec h2 k p (by simpa using hk) (by omega)
        rwa [show i + 1 + k = i + (k + 1) by omega] at this
theorem rowsOk_spec {tab : List (List Nat)} {all : List DOp} : ∀ {l : List DOp} {j : Nat},rowsOk tab all l j = true → ∀ k q,l[k]? = some q → ∀ i p,all[i]? = some p → i < j + k → pairOk tab i (j + k) p q = true
  | [],j,_,k,q,h,_,_,_,_=>by simp at h
  | q0 :: r,j,h,k,q,hk,i,p,hp,hlt=>by
    simp only [rowsOk,Bool.and_eq_true] at h
    cases k with
    | zero=>
      simp at hk
      subst hk
      have:=rowOk_spec h.1 i p hp (by simpa using hlt)
      simpa using this
    | succ k=>
      have:=rowsOk_spec h.2 k q (by simpa using hk) i p hp (by omega)
      rwa [show j + 1 + k = j + (k + 1) by omega] at this
theorem edgesLt_spec : ∀ {l : List Oper} {i : Nat},edgesLt l i = true → ∀ j o,l[j]? = some o → ∀ k ∈ edgesOf o,k < i + j
  | [],_,_,j,o,h,_,_=>by simp at h
  | o0 :: r,i,h,j,o,hj,k,hk=>by
    simp only [edgesLt,Bool.and_eq_true,List.all_eq_true,decide_eq_true_eq] at h
    cases j with
    | zero=>simp at hj; subst hj; simpa using h.1 k hk
    | succ j=>have:=edgesLt_spec h.2 j o (by simpa using hj) k hk; omega
theorem chkOps_spec : ∀ {l : List AOp} {i : Nat},chkOps P nt ops l i = true → i + l.length = ops.size ∧ ∀ j o,l[j]? = some o → ∃ p,ops[i + j]? = some p ∧ chkAOp P nt ops o p = true
  | [],i,h=>by simp [chkOps] at h; exact ⟨by simpa using h,fun j o hj=>by simp at hj⟩
  | o0 :: r,i,h=>by
    simp only [chkOps] at h
    split at h
    · rename_i p hp
      simp only [Bool.and_eq_true] at h
      obtain ⟨h1,h2⟩:=chkOps_spec h.2
      refine ⟨by simp; omega,fun j o hj=>?_⟩
      cases j with
      | zero=>simp at hj; subst hj; exact ⟨p,hp,h.1⟩
      | succ j=>
        obtain ⟨p',q1,q2⟩:=h2 j o (by simpa using hj)
        exact ⟨p',by rw [← q1]; congr 1; omega,q2⟩
    · cases h
theorem chkAOp_dst {o : AOp} {p : Oper} (h : chkAOp P nt ops o p = true) : o.dst = p.dst ∧ ∀ j,o.dst = some j → j < nt:=by
  unfold chkAOp at h
  simp only [Bool.and_eq_true,beq_iff_eq] at h
  obtain ⟨⟨⟨d1,d2⟩,d3⟩,d4⟩:=h
  exact ⟨d1,fun j hj=>by rw [hj] at d2; simpa using d2⟩
theorem aget_prune' (l : List Nat) (e : List (Nat × AV)) (t : Nat) : aget (prune (some l) e) t = if t ∈ l then aget e t else .und:=by
  simp only [prune]
  induction l with
  | nil=>simp [aget]
  | cons k r ih=>
    simp only [List.map_cons,aget]
    by_cases hk : k = t
    · subst hk; simp
    · rw [if_neg hk, ih]
      have : ¬ t = k:=fun h=>hk h.symm
      simp [this]
def Down (ops : Array Oper) (sel : Nat → Bool) : Prop:=∀ i o,ops[i]? = some o → sel i = true → ∀ k ∈ edgesOf o,sel k = true
theorem Bef.down {sel : Nat → Bool} (hD : Down ops sel) {k i : Nat} (hb : Bef ops k i) : sel i = true → sel k = true:=by
  induction hb with
  | one ho hk=>exact fun hi=>hD _ _ ho hi _ hk
  | more _ ho hm ih=>exact fun hi=>ih (hD _ _ ho hi _ hm)
theorem Bef.ready {sel : Nat → Bool} (hD : Down ops sel) {k i : Nat} (hb : Bef ops k i) (hr : ∀ o,ops[i]? = some o → ∀ k ∈ edgesOf o,sel k = true) : sel k = true:=by
  cases hb with
  | one ho hk=>exact hr _ ho _ hk
  | more hb ho hm=>exact hb.down hD (hr _ ho _ hm)
end Go.Am
end
