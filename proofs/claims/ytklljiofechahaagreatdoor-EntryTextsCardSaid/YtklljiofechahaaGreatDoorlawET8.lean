/- Texts of the proof, laid together: SpNums, SpQNum, SpFlt1, SpFlt2, SpWords, SpJoin, SpBld, PBits, SpFlt3, SpFlt4, SpFlt5, SpArg, SpFlt6, SpFltT, SpSortO, SpGenF, SpChg, SpEnt6, SpEach, SpFltR, SpFltR2, SpFltR3, SpGenA2, SpDelF, SpGenF2, SpInts, SpFltE, SpEnt7, SpEnt8, SpEnt9, PRecT, SpRecT, SpRecT2, SpRecT3, SpRecT4, SpRecT5, SpEnt10, SpEnt11, SpEnt12, SpEnt13, SpStnd, SpLawET, Bridge, AmL2, AmL3. -/
import Derived.KernelRfl
import Derived.ProofKit
import Derived.Shelf.Strconv.Itoa3
import Derived.Lib.LaidTab
import Derived.Shelf.Strconv.AtoiAll
import Derived.Test.YtklljiofechahaaGreatDoorlawET7
set_option linter.all false
section
/- Several numbers read. -/
open Go
set_option linter.all false
namespace Go.Am
variable {h:Heap} {K:Post}
attribute [-go_sem] z7Q
theorem zhL (ws:List (List UInt8)) (dg:Nat) (hd:dg≤17) (hs:∀ s∈ws,s.length≤1000000) (hl:ws.length≤1000000):z0c X z96 [AStr ws,AI dg] h K=K (.tup [AL (if ws.all (numF dg) then ws.map numV else []),AB (ws.all (numF dg))]) h []:=by
 refine rule ?_
 rw[c_q009 rfl]
 simp only[zfo,go_sem]
 refine z0U (fun k:Nat=>⟨[(1,AI dg),(6,.own h.length k 0 k),(11,AStr ws),(12,AI ws.length),(13,AI k)],h++[.row none ((ws.take k).map fun s=>eI (numV s)) 0],[]⟩) (fun k=>k≤ws.length∧(ws.take k).all (numF dg)=true) (fun k=>ws.length-k) 0 (by simp) ⟨by omega,by simp⟩ ?_
 rintro k ⟨hk,hp⟩
 have hrl:((ws.take k).map fun s=>eI (numV s)).length=k:=by simp;omega
 rcases Nat.lt_or_ge k ws.length with hlt | hge
 ·have hlt':(k:Int)<(ws.length:Int):=by omega
  have hg:=z1a PV.str hlt
  have cz:cutP none 0 (PV.str ws[k])=some (PV.str ws[k]):=rfl
  have wk:IntKind.i64.wrap ((k:Int)+1)=((k+1:Nat):Int):=z0l _ (by omega) (by omega)
  have q:=fun h K=>zd8 (h:=h) (K:=K) ws[k] dg hd (hs _ (List.getElem_mem hlt))
  cases e:numF dg ws[k] with
  | false=>
   have ea:ws.all (numF dg)=false:=by
    rw[← Bool.not_eq_true,List.all_eq_true]
    intro ha
    have:=ha _ (List.getElem_mem hlt)
    rw[e] at this
    cases this
   rw[e] at q
   simp only[go_sem,hlt',hlt,hg,cz,↓q,q,ea]
   rfl
  | true=>
   rw[e] at q
   have hm:k+1≤z1b:=by unfold z1b;omega
   simp only[go_sem,hlt',hlt,hg,cz,↓q,q,hrl,hm,wk]
   refine⟨k+1,?_,⟨by omega,?_⟩,by omega⟩
   ·rw[List.take_succ,List.getElem?_eq_getElem hlt,List.map_append]
    rfl
   ·rw[List.take_succ,List.getElem?_eq_getElem hlt,List.all_append,hp]
    simp [e]
 ·have hk':k=ws.length:=by omega
  subst hk'
  rw[List.take_length] at hp hrl
  rw[List.take_length]
  have hlt':¬ (ws.length:Int)<(ws.length:Int):=by omega
  simp only[go_sem,Nat.lt_irrefl,decide_false,hrl,hp]
  rw[z7Q]
  simp only[z77,go_sem,hrl]
  rw[show win (ws.map fun s=>eI (numV s)) 0 ws.length=(ws.map numV).map eI from by unfold win;rw[List.drop_zero,List.take_of_length_le (by simp),List.map_map];rfl]
end Go.Am
end
section
/- Numbers read,the reference's way. -/
open Go
set_option linter.all false
namespace Go.Am
variable {h:Heap} {K:Post}
set_option maxRecDepth 100000 in
theorem zcO (c:UInt8):([48,49,50,51,52,53,54,55,56,57]:List UInt8).contains c=digB c:=by
 have:∀ n:Fin 256,([48,49,50,51,52,53,54,55,56,57]:List UInt8).contains (UInt8.ofNat n.val)=digB (UInt8.ofNat n.val):=by decide
 simpa using this ⟨c.toNat,c.toNat_lt⟩
theorem z6r (n:Int) (h1 : -1000000000000000000≤n) (h2:n≤1000000000000000000):z0c X z2d [AI n] h K=K (AS (itoa n)) h []:=by
 refine z5s (X:=X) (by kernel_rfl) ?_
 rw[zpD]
 exact z8t (vs:=[.int .i64 n]) (by kernel_rfl) (s:=zh7) (by kernel_rfl) rfl (by
  unfold zh7
  have a1:decide (-9223372036854775808≤n)=true:=by simp;omega
  have a2:decide (n≤9223372036854775807)=true:=by simp;omega
  show (bif decide (-9223372036854775808≤n)&&decide (n≤9223372036854775807) then some (AV.p (PV.str (itoa n))) else none)=_
  rw[a1,a2]
  rfl)
theorem zle:∀ (d:List UInt8) (acc n k:Nat),acc<10^k→digN acc d=some n→n<10^(k+d.length)
 | [],acc,n,k,ha,h=>by simp only[digN,Option.some.injEq] at h;subst h;simpa using ha
 | c::r,acc,n,k,ha,h=>by
  unfold digN at h
  split at h
  ·rename_i hc
   have:=zle r (acc*10+(c.toNat-48)) n (k+1) (by rw[Nat.pow_succ];omega) h
   rw[List.length_cons,show k+(r.length+1)=k+1+r.length by omega]
   exact this
  ·cases h
theorem zu3 {s:List UInt8} (h2:(z05 s).length≤17) (h:(z05 s).all digB=true) : -1000000000000000000≤numV s∧numV s≤1000000000000000000:=by
 obtain⟨n,hn⟩:=z7b (z05 s) 0 h
 have b:=zle _ 0 n 0 (by simp) hn
 have h18:10^(0+(z05 s).length)≤10^17:=Nat.pow_le_pow_right (by omega) (by omega)
 have e17:(10:Nat)^17=100000000000000000:=rfl
 unfold numV
 rw[hn]
 simp only[Option.getD_some]
 split <;> omega
theorem zd9 (s:List UInt8) (dg:Nat) (hd:dg≤17) (hs:s.length≤1000000):z0c X z6G [AS s,AI dg] h K=K (.tup [AI (numR dg s),AB (numF dg s)]) h []:=by
 refine rule ?_
 rw[c_q048 rfl]
 have q:=fun h K=>z6R (h:=h) (K:=K) s [45] hs (by simp)
 have eq:(if s.take ([45]:List UInt8).length=[45] then s.drop ([45]:List UInt8).length else s)=z05 s:=rfl
 rw[eq] at q
 have hsl:(z05 s).length≤s.length:=by unfold z05;split <;> simp
 have qo:=fun h K=>zoQ (h:=h) (K:=K) (z05 s) [48,49,50,51,52,53,54,55,56,57] (by omega)
 have eo:((z05 s).all fun c=>([48,49,50,51,52,53,54,55,56,57]:List UInt8).contains c)=(z05 s).all digB:=by congr 1;funext c;exact zcO c
 rw[eo] at qo
 by_cases h0:z05 s=[]
 ·have e:numF dg s=false:=by unfold numF;rw[h0];rfl
  have e2:numR dg s=0:=by unfold numR;rw[if_neg (fun z=>z.1 h0)]
  rw[h0] at q
  simp only[z92,go_sem,↓q,q,e,e2]
 by_cases h1:dg<(z05 s).length
 ·have h1':(dg:Int)<((z05 s).length:Int):=by omega
  have e:numF dg s=false:=by
   have a3:decide ((z05 s).length≤dg)=false:=by simpa using h1
   unfold numF;rw[a3];simp
  have e2:numR dg s=0:=by unfold numR;rw[if_neg (fun z=>by omega)]
  simp only[z92,go_sem,↓q,q,e,e2,h0,h1',h1]
 have h1':¬ (dg:Int)<((z05 s).length:Int):=by omega
 cases ha:(z05 s).all digB with
 | false=>
  have e:numF dg s=false:=by unfold numF;rw[ha];simp
  have e2:numR dg s=0:=by unfold numR;rw[if_neg (fun z=>by rw[ha] at z;exact absurd z.2.2 (by simp))]
  rw[ha] at qo
  simp only[z92,go_sem,↓q,q,↓qo,qo,e,e2,h0,h1',h1]
 | true=>
  have e2:numR dg s=numV s:=by unfold numR;rw[if_pos ⟨h0,by omega,ha⟩]
  have bd:=zu3 (s:=s) (by omega) ha
  have qa:=fun h K=>zoK (h:=h) (K:=K) (s:=s) h0 (by omega) ha
  have qi:=fun h K=>z6r (h:=h) (K:=K) (numV s) bd.1 bd.2
  have e:numF dg s=decide (itoa (numV s)=s):=by
   rw[zqG h0 ha]
   unfold numF
   have a3:decide ((z05 s).length≤dg)=true:=by simpa using h1
   have a4:(z05 s).isEmpty=false:=by cases hq:z05 s with | nil=>exact absurd hq h0 | cons _ _=>rfl
   rw[a3,a4,ha]
   simp
  rw[ha] at qo
  simp only[z92,go_sem,↓q,q,↓qo,qo,↓qa,qa,↓qi,qi,e,e2,h0,h1',h1]
attribute [-go_sem] z7X
theorem zdA (ws:List (List UInt8)) (dg:Nat) (hd:dg≤17) (hs:∀ s∈ws,s.length≤1000000) (hl:ws.length≤1000000):z0c X z9J [AStr ws,AI dg] h K=K (.tup [AL (ws.map (numR dg)),AB (ws.all (numF dg))]) h []:=by
 refine rule ?_
 rw[c_q04a rfl]
 simp only[zf7,go_sem]
 refine z0U (fun k:Nat=>⟨[(1,AI dg),(6,.own h.length k 0 k),(7,AB ((ws.take k).all (numF dg))),(12,AStr ws),(13,AI ws.length),(14,AI k)],h++[.row none ((ws.take k).map fun s=>eI (numR dg s)) 0],[]⟩) (fun k=>k≤ws.length) (fun k=>ws.length-k) 0 (by simp) (by omega) ?_
 intro k hk
 have hrl:((ws.take k).map fun s=>eI (numR dg s)).length=k:=by simp;omega
 rcases Nat.lt_or_ge k ws.length with hlt | hge
 ·have hlt':(k:Int)<(ws.length:Int):=by omega
  have hg:=z1a PV.str hlt
  have cz:cutP none 0 (PV.str ws[k])=some (PV.str ws[k]):=rfl
  have wk:IntKind.i64.wrap ((k:Int)+1)=((k+1:Nat):Int):=z0l _ (by omega) (by omega)
  have q:=fun h K=>zd9 (h:=h) (K:=K) ws[k] dg hd (hs _ (List.getElem_mem hlt))
  have hm:k+1≤z1b:=by unfold z1b;omega
  have et:ws.take (k+1)=ws.take k++[ws[k]]:=by rw[List.take_succ,List.getElem?_eq_getElem hlt];rfl
  have ea:(ws.take (k+1)).all (numF dg)=((ws.take k).all (numF dg)&&numF dg ws[k]):=by rw[et,List.all_append];simp
  cases e:(ws.take k).all (numF dg) with
  | false=>
   rw[e,Bool.false_and] at ea
   simp only[go_sem,hlt',hlt,hg,cz,↓q,q,hrl,hm,wk,e]
   refine⟨k+1,?_,by omega,by omega⟩
   rw[ea,et,List.map_append]
   rfl
  | true=>
   rw[e,Bool.true_and] at ea
   simp only[go_sem,hlt',hlt,hg,cz,↓q,q,hrl,hm,wk,e]
   refine⟨k+1,?_,by omega,by omega⟩
   rw[ea,et,List.map_append]
   rfl
 ·have hk':k=ws.length:=by omega
  subst hk'
  rw[List.take_length] at hrl
  rw[List.take_length]
  simp only[go_sem,Nat.lt_irrefl,decide_false,hrl]
  rw[z7X]
  simp only[z7H,go_sem,hrl]
  rw[show win (ws.map fun s=>eI (numR dg s)) 0 ws.length=(ws.map (numR dg)).map eI from by unfold win;rw[List.drop_zero,List.take_of_length_le (by simp),List.map_map];rfl]
  try rfl
end Go.Am
end
section
/- Tests and faults: what is wrong with them,both ways. -/
open Go
set_option linter.all false
namespace Go.Am
variable {h:Heap} {K:Post}
end Go.Am
end
section
/- Faults: what is wrong with them,both ways. -/
open Go
set_option linter.all false
namespace Go.Am
variable {h:Heap} {K:Post}
def Flt.pv (f:Flt):PV:=.agg [eI f.kind,.sl none (f.nets.map eI)]
end Go.Am
end
section
/- Where a string stands among strings;words. -/
open Go
set_option linter.all false
namespace Go.Am
variable {h:Heap} {K:Post}
theorem zrL {v:AV} (l:List (List UInt8)) (hv:Shows none v (l.map PV.str) h) (x:List UInt8) (hl:l.length≤1000000):z0c X z3w [v,AS x] h K=K (AI (if l.findIdx (fun y=>decide (y=x))<l.length then (l.findIdx (fun y=>decide (y=x)):Int) else -1)) h []:=by
 refine rule ?_
 rw[c_q05z]
 have vl:=hv.len
 rw[List.length_map] at vl
 simp only[zfB,go_sem,vl]
 refine z0U (fun k:Nat=>⟨[(0,v),(1,AS x),(7,AI l.length),(8,AI k)],h,[]⟩) (fun k=>k≤l.length∧∀ y∈l.take k,decide (y=x)=false) (fun k=>l.length-k) 0 rfl (by simp) ?_
 rintro k ⟨hk,hn⟩
 rcases Nat.lt_or_ge k l.length with hlt | hge
 ·obtain⟨a,ha,hb⟩:=hv.get k (by simpa using hlt)
  rw[List.getElem_map] at hb
  have w2:IntKind.i64.wrap ((k:Int)+1)=((k+1:Nat):Int):=z0l _ (by omega) (by omega)
  by_cases hpk:x=l[k]
  ·have hf:l.findIdx (fun y=>decide (y=x))=k:=by
    rw[List.findIdx_eq hlt]
    refine⟨by simp [hpk],fun j hj=>?_⟩
    have:=hn l[j] (by rw[List.mem_take_iff_getElem];exact⟨j,by omega,rfl⟩)
    simpa using this
   simp only[go_sem,hlt,ha,hb,hpk.symm,w2]
   simp only[hf,hlt,if_true]
  ·simp only[go_sem,hlt,ha,hb,hpk,w2]
   refine⟨k+1,rfl,⟨by omega,fun y hy=>?_⟩,by omega⟩
   rw[List.take_succ_eq_append_getElem hlt,List.mem_append,List.mem_singleton] at hy
   rcases hy with hy | hy
   ·exact hn y hy
   ·rw[hy];simp;exact fun e=>hpk e.symm
 ·have e1:k=l.length:=by omega
  subst e1
  simp only[go_sem,Nat.lt_irrefl]
  rw[List.take_length] at hn
  have:¬ l.findIdx (fun y=>decide (y=x))<l.length:=by
   rw[Nat.not_lt,Nat.le_iff_lt_or_eq];right
   exact (List.findIdx_eq_length.2 (fun y hy=>by simp [hn y hy])).symm
  rw[if_neg this]
theorem zbk {v:AV} (l:List (List UInt8)) (hv:∀ h':Heap,h'=h→Shows none v (l.map PV.str) h') (x:List UInt8) (hl:l.length≤1000000):z0c X z45 [v,AS x] h K=K (AB (l.contains x)) h []:=by
 refine rule ?_
 rw[c_q05k]
 have e:=fun K=>zrL (h:=h) (K:=K) l (hv h rfl) x hl
 have hd:decide (0≤(if l.findIdx (fun y=>decide (y=x))<l.length then (l.findIdx (fun y=>decide (y=x)):Int) else -1))=l.contains x:=by
  rw[Bool.eq_iff_iff,decide_eq_true_eq,List.contains_iff_mem]
  constructor
  ·intro hq
   split at hq
   ·rename_i hlt
    have:=List.findIdx_getElem (w:=hlt)
    simp only[decide_eq_true_eq] at this
    exact this ▸ List.getElem_mem hlt
   ·omega
  ·intro hm
   rw[if_pos (List.findIdx_lt_length_of_exists ⟨x,hm,by simp⟩)];omega
 simp only[zkP,go_sem,e,hd]
theorem strS (ws:List (List UInt8)) {h:Heap}:Shows none (AStr ws) (ws.map PV.str) h:=zgC zr9
theorem z3d {c:UInt8}:∀ {s p:List UInt8},p∈z0m c s→p.length≤s.length
 | [],p,h=>by simp [z0m] at h;subst h;simp
 | b::r,p,h=>by
  rw[z0m.eq_2] at h
  split at h
  ·rcases List.mem_cons.1 h with rfl | h
   ·simp
   ·have:=z3d h;simp;omega
  ·split at h
   ·rename_i hq;exact absurd hq (z4d c r)
   ·rename_i p0 q hq
    rcases List.mem_cons.1 h with rfl | h
    ·have:=z3d (s:=r) (p:=p0) (by rw[hq];simp);simp;omega
    ·have:=z3d (s:=r) (p:=p) (by rw[hq];simp [h]);simp;omega
theorem zru (s:List UInt8) (hs:s.length≤900000):z0c X z9K [AS s] h K=K (.tup [AStr (z0m 32 s),AB (zta s)]) h []:=by
 refine rule ?_
 rw[c_q04p rfl]
 have q:=fun h K=>ze9 (h:=h) (K:=K) s 32 (by omega)
 have hl:(z0m 32 s).length≤1000000:=by
  rw[z0K]
  have:s.count 32≤s.length:=List.count_le_length
  omega
 have q2:=fun h K=>zbk (h:=h) (K:=K) (z0m 32 s) (fun h' _=>strS _) [] hl
 simp only[zkL,go_sem,↓q,q,↓q2,q2]
 rfl
end Go.Am
end
section
/- Numbers written,joined. -/
open Go
set_option linter.all false
namespace Go.Am
variable {h:Heap} {K:Post}
theorem zqH {l:List (List UInt8)} {sep:List UInt8} (h1:l.length≤1000000) (h2:(sep.intercalate l).length≤1000000000):zh8 [.sl none (l.map PV.str),.str sep]=some (AS (sep.intercalate l)):=by
 show (z2u (l.map PV.str)).bind _=_
 rw[zhW,Option.bind_some,if_pos ⟨h1,h2⟩]
theorem zoN (l:List (List UInt8)) (sep:List UInt8) {id:Nat} (hh:h[id]?=some (.row none (l.map PV.str) 0)) (h1:l.length≤1000000) (h2:(sep.intercalate l).length≤1000000000):z0c X zde [.own id l.length 0 l.length,AS sep] h K=K (AS (sep.intercalate l)) (frz h id l.length) []:=by
 refine z5s (X:=X) (by kernel_rfl) ?_
 rw[zpD]
 have hrd:rd h (.own id l.length 0 l.length)=some (none,l.map PV.str):=by
  simp only[rd,hh,List.length_map,Nat.zero_add,Nat.le_refl,and_self,if_true]
  unfold win
  rw[List.drop_zero,List.take_of_length_le (by simp)]
 exact zqK (vs:=[.sl none (l.map PV.str),.str sep]) (asv':=[AStr l,AS sep]) (by kernel_rfl) (s:=zh8) (by kernel_rfl) rfl (by
  simp only[z0o,hrd,Nat.zero_add,Option.map_some,pur]) rfl (zqH h1 h2)
attribute [-go_sem] z7W
theorem zhM (l:List Int) (hb:∀ n∈l,-1000000000000000000≤n∧n≤1000000000000000000) (hl:l.length≤1000000) (h2:(znT l).length≤1000000000):z0c X z9I [AL l] h K=K (AS (znT l)) h []:=by
 refine rule ?_
 rw[c_q049 rfl]
 simp only[zf6,go_sem]
 refine z0U (fun k:Nat=>⟨[(3,.own h.length k 0 k),(6,AL l),(7,AI l.length),(8,AI k)],h++[.row none ((l.take k).map fun n=>PV.str (itoa n)) 0],[]⟩) (fun k=>k≤l.length) (fun k=>l.length-k) 0 (by simp) (by omega) ?_
 intro k hk
 have hrl:((l.take k).map fun n=>PV.str (itoa n)).length=k:=by simp;omega
 rcases Nat.lt_or_ge k l.length with hlt | hge
 ·have hg:=z1a eI hlt
  have cz:cutP none 0 (eI l[k])=some (eI l[k]):=rfl
  have wk:IntKind.i64.wrap ((k:Int)+1)=((k+1:Nat):Int):=z0l _ (by omega) (by omega)
  have b:=hb _ (List.getElem_mem hlt)
  have q:=fun h K=>z6r (h:=h) (K:=K) l[k] b.1 b.2
  have hm:k+1≤z1b:=by unfold z1b;omega
  simp only[go_sem,hlt,hg,cz,↓q,q,hrl,hm,wk]
  refine⟨k+1,?_,by omega,by omega⟩
  rw[List.take_succ,List.getElem?_eq_getElem hlt,List.map_append]
  rfl
 ·have hk':k=l.length:=by omega
  subst hk'
  rw[List.take_length] at hrl
  rw[List.take_length]
  have em:(l.map fun n=>PV.str (itoa n))=(l.map itoa).map PV.str:=by rw[List.map_map];rfl
  have lm:(l.map itoa).length=l.length:=by simp
  have hh:(h++[Obj.row none ((l.map itoa).map PV.str) 0])[h.length]?=some (.row none ((l.map itoa).map PV.str) 0):=by simp
  have qj:=fun K=>zoN (K:=K) (l.map itoa) [32] hh (by rw[lm];exact hl) h2
  rw[lm] at qj
  simp only[go_sem,Nat.lt_irrefl,decide_false,hrl]
  rw[z7W,em]
  simp only[z7G,go_sem,↓qj,qj]
  rfl
end Go.Am
end
section
/- A builder of strings. -/
open Go
set_option linter.all false
namespace Go.Am
variable {h:Heap} {K:Post}
theorem zo7 {b:Nat}:reif b h .nili=some .nili:=by simp only[reif]
attribute [local go_sem] zo7
def bldB (u:Bool) (id n:Nat):Obj:=.box [bif u then .ref id 0 else .bt 0 bldT id 0,.bt 1 bldE (id+1) n]
theorem zkm (id n:Nat):bldB true id n = .box [.ref id 0,.bt 1 bldE (id+1) n]:=rfl
theorem bldB_f (id n:Nat):bldB false id n = .box [.bt 0 bldT id 0,.bt 1 bldE (id+1) n]:=rfl
theorem set_id {o:Obj} {id:Nat} (hh:h[id]?=some o):h.set id o=h:=by
 apply List.ext_getElem?
 intro j
 by_cases e:id=j
 ·subst e;rw[List.getElem?_set_self (z3G hh),hh]
 ·rw[List.getElem?_set_ne e]
theorem zeA (u:Bool) (id n:Nat) (hh:h[id]?=some (bldB u id n)):z0c X z9X [.ref id 0] h K=K (.tup []) (h.set id (bldB true id n)) []:=by
 refine rule ?_
 rw[c_q08z rfl]
 cases u with
 | true=>
  rw[set_id hh]
  rw[zkm] at hh
  simp only[zfH,go_sem,hh]
 | false=>
  rw[bldB_f] at hh
  rw[zkm]
  simp only[bldT] at hh
  simp only[zfH,go_sem,hh]
theorem zoZ {h:Heap} {i j:Nat} {a b:Obj} (e:i≠j):(h.set i a).set j b=(h.set j b).set i a:=List.set_comm a b e
def zp7 (h:Heap) (u:Bool) (id:Nat) (s:List UInt8):Prop:=h[id]?=some (bldB u id s.length)∧h[id+1]?=some (.row none (z09 s) 0)
def held (h:Heap) (id:Nat) (s:List UInt8):Heap:=(h.set id (bldB true id s.length)).set (id+1) (.row none (z09 s) 0)
theorem z6i (s:List UInt8):(z09 s).length=s.length:=by simp [z09]
theorem zhl (s t:List UInt8):z09 s++z09 t=z09 (s++t):=by simp [z09]
theorem zaX {u:Bool} {id:Nat} {s t:List UInt8} (H:zp7 h u id s) (hm:s.length+t.length≤200000000000):z0c X z8o [.ref id 0,AS t] h K=K (.tup [AI t.length,.nili]) (held h id (s++t)) []:=by
 refine rule ?_
 rw[c_q08y rfl]
 have l:=z3G H.1
 have l2:=z3G H.2
 have e:=fun K=>zeA (K:=K) u id s.length H.1
 have g1:(h.set id (bldB true id s.length))[id]?=some (.box [.ref id 0,.bt 1 bldE (id+1) s.length]):=by rw[List.getElem?_set_self l,zkm]
 have g2:(h.set id (bldB true id s.length))[id+1]?=some (.row none (z09 s) 0):=by rw[List.getElem?_set_ne (by omega)];exact H.2
 have g3:∀ o,((h.set id (bldB true id s.length)).set (id+1) o)[id]?=some (.box [.ref id 0,.bt 1 bldE (id+1) s.length]):=fun o=>by rw[List.getElem?_set_ne (by omega)];exact g1
 have hl:s.length+t.length≤z1b:=by unfold z1b;omega
 simp only[bldE] at g1 g3
 simp only[zkU,go_sem,e,g1,g2,g3,z6i,hl]
 rw[List.take_of_length_le (by simp)]
 unfold held
 rw[zoZ (i:=id+1) (j:=id) (by omega),List.set_set,zhl,List.length_append]
 rfl
theorem s_BLen {u:Bool} {id:Nat} {s:List UInt8} (H:zp7 h u id s):z0c X z8n [.ref id 0] h K=K (AI s.length) h []:=by
 refine rule ?_
 rw[c_q08v rfl]
 have g1:=H.1
 unfold bldB at g1
 simp only[zkT,go_sem,g1]
def zeE (h:Heap) (id:Nat) (s:List UInt8):Heap:=if s=[] then h else h.set (id+1) (.row none (z09 s) (s.length+1))
theorem z9k (s:List UInt8):z3s (z09 s)=some s:=by
 induction s with
 | nil=>rfl
 | cons a r ih=>
  have h1:(0:Int)≤(a.toNat:Int)∧(a.toNat:Int)<256:=⟨by omega,by have:=a.toNat_lt;omega⟩
  have e:z09 (a::r) = .int .u8 a.toNat::z09 r:=rfl
  rw[e]
  unfold z3s
  rw[if_pos h1,ih]
  simp
theorem zoL {u:Bool} {id:Nat} {s:List UInt8} (H:zp7 h u id s) (hm:s.length≤200000000000):z0c X z9W [.ref id 0] h K=K (AS s) (zeE h id s) []:=by
 refine rule ?_
 rw[c_q08w rfl]
 have l:=z3G H.1
 have l2:=z3G H.2
 have g1:=H.1
 have g2:=H.2
 unfold bldB at g1
 have hl:s.length≤z1b:=by unfold z1b;omega
 unfold zeE
 by_cases h0:s=[]
 ·subst h0
  simp only[bldE,List.length_nil] at g1
  simp only[zfG,go_sem,g1,g2,z6i,hl]
  exact if_pos rfl ▸ trivial
 ·have h0':¬ s.length=0:=by simpa using h0
  have h1:1≤s.length:=by omega
  simp only[bldE] at g1
  have e0:(0:Int)≤(s.length:Int):=by omega
  simp only[zfG,go_sem,g1,g2,z6i,hl,h0',h1,z9k,e0,Int.toNat_natCast,h0]
def bh (h:Heap) (u:Bool) (s:List UInt8) (l:Heap):Heap:=h++bldB u h.length s.length :: .row none (z09 s) 0::l
theorem za2 {u:Bool} {s:List UInt8} {l:Heap}:zp7 (bh h u s l) u h.length s:=by
 unfold bh
 exact⟨by simp,by rw[List.getElem?_append_right (by omega)];simp⟩
theorem ztp {u:Bool} {s t:List UInt8} {l:Heap}:held (bh h u s l) h.length t=bh h true t l:=by
 unfold held bh
 rw[List.set_append_right _ _ (by omega),List.set_append_right _ _ (by omega),Nat.sub_self,show h.length+1-h.length=1 by omega]
 rfl
theorem s_WS {u:Bool} {s t:List UInt8} {l:Heap} (hm:s.length+t.length≤200000000000):z0c X z8o [.ref h.length 0,AS t] (bh h u s l) K=K (.tup [AI t.length,.nili]) (bh h true (s++t) l) []:=by
 rw[zaX za2 hm,ztp]
theorem s_BL {u:Bool} {s:List UInt8} {l:Heap}:z0c X z8n [.ref h.length 0] (bh h u s l) K=K (AI s.length) (bh h u s l) []:=s_BLen za2
theorem zsu {u:Bool} {s:List UInt8} {l:Heap}:(bh h u s l).length=h.length+(l.length+2):=by
 unfold bh
 simp
theorem bh_app {u:Bool} {s:List UInt8} {l l2:Heap}:bh h u s l++l2=bh h u s (l++l2):=by
 unfold bh
 simp
theorem bh_get {u:Bool} {s:List UInt8} {l:Heap} {n:Nat}:(bh h u s l)[h.length+(n+2)]?=l[n]?:=by
 unfold bh
 rw[List.getElem?_append_right (by omega),show h.length+(n+2)-h.length=n+2 by omega]
 rfl
theorem bh_set {u:Bool} {s:List UInt8} {l:Heap} {n:Nat} {o:Obj}:(bh h u s l).set (h.length+(n+2)) o=bh h u s (l.set n o):=by
 unfold bh
 rw[List.set_append_right _ _ (by omega),show h.length+(n+2)-h.length=n+2 by omega]
 rfl
theorem zkl {u:Bool} {s:List UInt8} {l:Heap} {n:Nat}:(bh h u s l).take (h.length+(n+2))=bh h u s (l.take n):=by
 unfold bh
 rw[List.take_length_add_append]
 rfl
end Go.Am
end
section
/- Numbers asv sets of bits;rows of a test asv numbers. -/
set_option linter.all false
namespace Go.Am
end Go.Am
end
section
/- Lists of faults: what is wrong with them,both ways. -/
open Go
set_option linter.all false
namespace Go.Am
variable {h:Heap} {K:Post}
end Go.Am
end
section
/- Rows of a test asv numbers. -/
open Go
set_option linter.all false
namespace Go.Am
variable {h:Heap} {K:Post}
end Go.Am
end
section
/- Faults on rows: what the program makes of them. -/
open Go
set_option linter.all false
namespace Go.Am
variable {h:Heap} {K:Post}
end Go.Am
end
section
/- Rows that are handed tov a function: it sees their values. -/
open Go
namespace Go.Am
theorem zto {X:Ctx} {f:Nat} {F:AFun} {a:List AV} {vs:List PV} {h h1:Heap} {P:Post} (hf:X.fn f=some F) (hr:F.byref=false) (hp:z0o h a=some (vs.map .p,h1)) (hq:z0o h1 (vs.map .p)=some (vs.map .p,h1)) (hl:vs.length=F.nparams) (hlen:h1.length=h.length):z0c X f a h P=z0c X f (vs.map .p) h1 P:=by
 cases hd:F.isDet with
 | false=>rw[z0h hf hr hp (by simpa using hl) hd,z0h hf hr hq (by simpa using hl) hd,hlen]
 | true=>rw[z63 hf hr hp (by simpa using hl) hd,z63 hf hr hq (by simpa using hl) hd,hlen]
theorem ztU {h:Heap} {id k:Nat}:(frz h id k).length=h.length:=by
 unfold frz
 split <;> simp
end Go.Am
end
section
/- Responses,asv the program computes them. -/
open Go
set_option linter.all false
namespace Go.Am
variable {h:Heap} {K:Post}
end Go.Am
end
section
/- Faults written. -/
open Go
set_option linter.all false
namespace Go.Am
variable {h:Heap} {K:Post}
theorem zuK {b:Nat} {P:Post} {s:List UInt8} {n:Int} {g:Heap} (k:P (.tup [AS s,AI n]) (g.take b) []):retK false b P (some [AS s,AI n]) g [(b,b+2)]:=by
 have e1:∀ m,reif m g (.tup [AS s,AI n])=some (.tup [AS s,AI n]):=fun m=>by simp [reif,z6q]
 have e2:AV.top (.tup [AS s,AI n])=0:=by simp [AV.top,AV.tops]
 have e3:z2o 1 [(b,b+2)] b=b:=by simp [z2o,bump]
 have e4:z1j [(b,b+2)] b=true:=by simp [z1j]
 simp only[retK,z0M,e1,e2,Nat.max_zero,List.length_cons,List.length_nil,Nat.zero_add,e3,e4,if_true]
 refine⟨Nat.zero_le _,?_⟩
 simpa using k
end Go.Am
end
section
/- Sorting the middle of a row: printed by program. -/
open Go
set_option linter.unusedSimpArgs false
namespace Go.Am
attribute [-go_sem] PV.cells splice
variable {h:Heap} {K:Post}
end Go.Am
end
section
/- What is drawn: orders,tests. -/
open Go
set_option linter.all false
namespace Go.Am
variable {L:List Int} {a:Int} {h l:Heap} {id:Nat} {K:Post}
def GenK (f:Nat) (args:List AV) (L:List Int) (a:Int) (sh:Sh) (Q:List PV→Int→Prop):Prop:=∀ (h:Heap) (id:Nat),h[id]?=some (strm L a)→∃ xs a2,Q xs a2∧∀ K:Post,z0c X f (.ref id 0::args) h K=K (.own h.length xs.length 0 xs.length) (h.set id (strm L a2)++[.row sh xs 0]) []
theorem GenK.of {f:Nat} {args:List AV} {L:List Int} {a:Int} {sh:Sh} {Q:List PV→Int→Prop} (H:∀ (h:Heap) (id:Nat),id<h.length→z0c X f (.ref id 0::args) (h.set id (strm L a)) fun v1 h1 x1=>∃ xs a2,Q xs a2∧v1 = .own h.length xs.length 0 xs.length∧h1=h.set id (strm L a2)++[.row sh xs 0]∧x1=[]):GenK f args L a sh Q:=by
 intro h id hh
 have hid:=z3G hh
 have k:=H h id hid
 rw[zgB hh] at k
 obtain⟨v,h',x,⟨xs,a2,q,e0,e1,e2⟩,r⟩:=z0c.one zeQ k
 subst e0;subst e1;subst e2
 exact⟨xs,a2,q,r⟩
end Go.Am
end
section
/- A text changed at random. -/
open Go
set_option linter.all false
namespace Go.Am
variable {L:List Int} {a:Int} {h l:Heap} {id:Nat} {K:Post}
theorem zps {α:Type} (xs:List α) (a n:Nat):(win xs a n).length≤n:=by simp [win];omega
theorem zmO (t w:List UInt8) (ht:t.length≤1000000) (hw:w.length≤1000) (hw0:w≠[]) (ha:w.all (fun b=>decide (b.toNat<128))=true) (hp:posN 3 a):GenE z9B [AS t,AS w] L a (fun v a2=>a≤a2∧a2≤a+3∧∃ t':List UInt8,t'.length≤t.length+w.length∧v=AS t'):=by
 refine GenE.of fun h id hid=>?_
 rw[c_q03b rfl]
 by_cases h0:t=[]
 ·subst h0
  simp only[zfy,go_sem,hid,hw0]
  exact⟨a,⟨by omega,by omega,w,by omega,rfl⟩,rfl⟩
 ·have hl:0<t.length:=List.length_pos_iff.2 h0
  have hlw:0<w.length:=List.length_pos_iff.2 hw0
  have p0:=z0G (n:=0) hp (Int.le_refl a) (by omega)
  have p1:posN 0 (a+1):=z0G hp (by omega) (by omega)
  have p2:posN 0 (a+1+1):=z0G hp (by omega) (by omega)
  obtain⟨n1,n2⟩:=z3l L a t.length (by omega) (by omega)
  obtain⟨i,hi⟩:=Int.eq_ofNat_of_zero_le n1
  rw[hi] at n2
  obtain⟨m1,m2⟩:=z3l L (a+1) w.length (by omega) (by omega)
  obtain⟨j,hj⟩:=Int.eq_ofNat_of_zero_le m1
  rw[hj] at m2
  have hjl:j<w.length:=by omega
  have hgj:w[j]?=some w[j]:=List.getElem?_eq_getElem hjl
  have hc:(w[j]).toNat<128:=by
   have:=List.all_eq_true.1 ha _ (List.getElem_mem hjl)
   simpa using this
  have wc:IntKind.i32.wrap ((w[j]).toNat:Int)=((w[j]).toNat:Int):=by simp [IntKind.wrap,IntKind.bits,IntKind.signed];omega
  have wi:IntKind.i64.wrap ((i:Int)+1)=((i+1:Nat):Int):=z0l _ (by omega) (by omega)
  have hil:i≤t.length:=by omega
  have hil2:i+1≤t.length:=by omega
  have c0:(0:Int)≤((w[j]).toNat:Int):=by omega
  have c1:((w[j]).toNat:Int)<128:=by omega
  have l1:=zps t 0 i
  have l2:=zps t (i+1) (t.length-(i+1))
  have l3:=zps t i (t.length-i)
  have mx:3000000≤z3x:=by unfold z3x;omega
  simp only[zfy,go_sem,hid,h0,hw0,p0,p1,p2,hi,hj,hgj]
  by_cases z0:z10 L (a+1+1) 3=0
  ·simp only[go_sem,z0,hil,hil2,wc,wi,c0,c1]
   rw[if_pos (by omega),if_pos (by first | omega | (simp only[List.length_append,List.length_cons,List.length_nil];omega))]
   exact⟨a+1+1+1,⟨by omega,by omega,_,by simp only[List.length_append,List.length_cons,List.length_nil];omega,rfl⟩,rfl⟩
  ·by_cases z1:z10 L (a+1+1) 3=1
   ·have z0':¬ (1:Int)=0:=by omega
    simp only[go_sem,z1,z0',hil,hil2,wc,wi,c0,c1]
    rw[if_pos (by omega),if_pos (by first | omega | (simp only[List.length_append,List.length_cons,List.length_nil];omega))]
    exact⟨a+1+1+1,⟨by omega,by omega,_,by simp only[List.length_append,List.length_cons,List.length_nil];omega,rfl⟩,rfl⟩
   ·simp only[go_sem,z0,z1,hil,hil2,wc,wi,c0,c1]
    rw[if_pos (by omega)]
    exact⟨a+1+1+1,⟨by omega,by omega,_,by simp only[List.length_append];omega,rfl⟩,rfl⟩
theorem decN18 {n:Nat} (h:n≤9000000000000000000):(decN n).length≤19:=(za9 18 n (by omega)).2
theorem z1Q {n:Int} (h1 : -9000000000000000000≤n) (h2:n≤9000000000000000000):(itoa n).length≤20:=by
 unfold itoa
 have:=decN18 (n:=n.natAbs) (by omega)
 split
 ·simp;omega
 ·omega
end Go.Am
end
section
/- Entries written. -/
open Go
set_option linter.all false
set_option maxRecDepth 100000
namespace Go.Am
variable {h:Heap} {K:Post}
structure EntR (x:Ent):Prop where
 s:x.site.length≤40
 b:x.board.length≤40
 p:x.step.length≤40
 o:x.of.length≤40
 n:1≤x.no∧x.no≤1000000
 t:0≤x.time∧x.time≤345686399999
 k:1≤x.kind∧x.kind≤7
 r:0≤x.other∧x.other≤1000000
theorem z8s {s:List UInt8} (h:keyB s=true):s.length≤40:=by
 cases s with
 | nil=>simp
 | cons c r=>
  unfold keyB at h
  simp only[Bool.and_eq_true,decide_eq_true_eq] at h
  simp only[List.length_cons];omega
theorem zm3 {x:Ent} (hf:entF x=0):EntR x:=by
 have hb:=zm2 hf
 unfold entF at hf
 split at hf
 ·cases hf
 rename_i h1
 split at hf
 ·cases hf
 split at hf
 ·cases hf
 rename_i h3
 split at hf
 ·cases hf
 rename_i h4
 split at hf
 ·cases hf
 rename_i h5
 split at hf
 ·cases hf
 rename_i h6
 have e:x=zhY x:=by simpa using h6
 have hn:zah x=true:=by simpa using h4
 have h1':keyB x.site=true:=by simpa using h1
 have h3':1≤x.kind∧x.kind≤7:=by
  have:inB 1 x.kind 7=true:=by simpa using h3
  unfold inB at this
  simpa using this
 have hs:=z8s h1'
 unfold zah at hn
 unfold zhY at e
 by_cases k7:x.kind=7
 ·rw[if_pos k7] at hn e
  have e1:=congrArg Ent.board e
  have e2:=congrArg Ent.step e
  dsimp only at e1 e2
  have ho:noB x.other=true:=by
   rw[not_and] at h5
   simpa using h5 k7
  unfold noB inB at ho
  simp at ho
  exact⟨hs,by rw[e1];simp,by rw[e2];simp,z8s hn,hb.n,hb.t,h3',by omega⟩
 ·rw[if_neg k7] at hn e
  by_cases k2:x.kind=2
  ·rw[if_pos k2] at hn e
   have e1:=congrArg Ent.of e
   have e2:=congrArg Ent.other e
   dsimp only at e1 e2
   rw[Bool.and_eq_true] at hn
   exact⟨hs,z8s hn.1,z8s hn.2,by rw[e1];simp,hb.n,hb.t,h3',by omega⟩
  ·rw[if_neg k2] at hn e
   have e1:=congrArg Ent.of e
   have e2:=congrArg Ent.other e
   have e3:=congrArg Ent.step e
   dsimp only at e1 e2 e3
   exact⟨hs,z8s hn,by rw[e3];simp,by rw[e1];simp,hb.n,hb.t,h3',by omega⟩
theorem z9c (k:Int):(z9m k).length≤6:=by
 unfold z9m
 cases h:z1L[k.toNat]? with
 | none=>simp
 | some w=>
  have:∀ w∈z1L,w.length≤6:=by decide
  exact this _ (List.mem_of_getElem? h)
theorem zds {x:Ent} (R:EntR x):(z8u x).length≤200:=by
 have i1:=z1Q (n:=x.no) (by have:=R.n;omega) (by have:=R.n;omega)
 have i2:=z1Q (n:=x.time) (by have:=R.t;omega) (by have:=R.t;omega)
 have i3:=z1Q (n:=x.other) (by have:=R.r;omega) (by have:=R.r;omega)
 have w:=z9c x.kind
 have:=R.s
 have:=R.b
 have:=R.p
 have:=R.o
 unfold z8u
 simp only[List.length_append,List.length_cons]
 split
 ·simp only[List.length_append,List.length_cons];omega
 ·split
  ·simp only[List.length_append,List.length_cons];omega
  ·omega
theorem z8v {l:List Ent} {k:Nat} (hk:k<l.length):z1g (l.take (k+1))=z1g (l.take k)++(z8u l[k]++[10]):=by
 unfold z1g
 rw[List.take_succ_eq_append_getElem hk,List.map_append,List.flatten_append]
 simp
theorem z2A:∀ {l:List Ent},(∀ x∈l,EntR x)→(z1g l).length≤201*l.length
 | [],_=>by simp [z1g]
 | x::r,h=>by
  have e:z1g (x::r)=(z8u x++[10])++z1g r:=by simp [z1g]
  have h1:=zds (h x (by simp))
  have h2:=z2A (l:=r) (fun y hy=>h y (by simp [hy]))
  have e2:(x::r).length=r.length+1:=rfl
  rw[e,List.length_append,List.length_append,e2,Nat.mul_succ]
  simp only[List.length_cons,List.length_nil]
  omega
theorem zoR (k:Int) (h1:1≤k) (h2:k≤7):z0c X z6J [AI k] h K=K (AS (z9m k)) h []:=by
 refine rule ?_
 rw[c_q08k rfl]
 obtain⟨n,rfl⟩:=Int.eq_ofNat_of_zero_le (show 0≤k by omega)
 have hn:1≤n∧n≤7:=by omega
 match n,hn with
 | 1,_=>
  have w:IntKind.i64.wrap 0=0:=rfl
  simp only[z5f,go_sem,w]
  first | rfl | trivial
 | 2,_=>
  have w:IntKind.i64.wrap 1=1:=rfl
  simp only[z5f,go_sem,w]
  first | rfl | trivial
 | 3,_=>
  have w:IntKind.i64.wrap 2=2:=rfl
  simp only[z5f,go_sem,w]
  first | rfl | trivial
 | 4,_=>
  have w:IntKind.i64.wrap 3=3:=rfl
  simp only[z5f,go_sem,w]
  first | rfl | trivial
 | 5,_=>
  have w:IntKind.i64.wrap 4=4:=rfl
  simp only[z5f,go_sem,w]
  first | rfl | trivial
 | 6,_=>
  have w:IntKind.i64.wrap 5=5:=rfl
  simp only[z5f,go_sem,w]
  first | rfl | trivial
 | 7,_=>
  have w:IntKind.i64.wrap 6=6:=rfl
  simp only[z5f,go_sem,w]
  first | rfl | trivial
theorem zuS (x:Ent) (R:EntR x):z0c X z9U [.p x.pv] h K=K (AS (z8u x)) h []:=by
 refine rule ?_
 rw[c_q08d rfl]
 have i1:=z1Q (n:=x.no) (by have:=R.n;omega) (by have:=R.n;omega)
 have i2:=z1Q (n:=x.time) (by have:=R.t;omega) (by have:=R.t;omega)
 have i3:=z1Q (n:=x.other) (by have:=R.r;omega) (by have:=R.r;omega)
 have q1:=fun h K=>z6r (h:=h) (K:=K) x.no (by have:=R.n;omega) (by have:=R.n;omega)
 have q2:=fun h K=>z6r (h:=h) (K:=K) x.time (by have:=R.t;omega) (by have:=R.t;omega)
 have q3:=fun h K=>z6r (h:=h) (K:=K) x.other (by have:=R.r;omega) (by have:=R.r;omega)
 have qw:=fun h K=>zoR (h:=h) (K:=K) x.kind R.k.1 R.k.2
 have w:=z9c x.kind
 have l1:=R.s
 have l2:=R.b
 have l3:=R.p
 have l4:=R.o
 have m0:1000000000≤z3x:=by unfold z3x;omega
 unfold z8u
 by_cases k2:x.kind=2
 ·simp only[zcE,Ent.pv,go_sem,↓q1,q1,↓q2,q2,↓qw,qw,eq_true k2]
  repeat rw[if_pos (by omega)]
  first | done | simp
 ·by_cases k7:x.kind=7
  ·simp only[zcE,Ent.pv,go_sem,↓q1,q1,↓q2,q2,↓q3,q3,↓qw,qw,k2,eq_true k7]
   repeat rw[if_pos (by omega)]
   first | done | simp
  ·simp only[zcE,Ent.pv,go_sem,↓q1,q1,↓q2,q2,↓qw,qw,k2,k7]
   repeat rw[if_pos (by omega)]
   first | done | simp
attribute [-go_sem] z7Y
theorem znI {K':Ex→St→Prop} {x:Esc} (es:List Ent) (hb:∀ r∈es,EntR r) (hl:es.length≤100)
 (hK:∀ u,K' (.exit 0) ⟨[(5,.ref h.length 0),(13,z18 es),(14,AI es.length),(15,AI es.length),(16,AB false)],bh h u (z1g es) [],x⟩) :
 z0T (z0c X) X.gl (.scope z2h) K' [(5,.ref h.length 0),(13,z18 es),(14,AI es.length),(15,AI 0)] (bh h false [] []) x:=by
 refine z0U (fun k:Nat=>⟨[(5,.ref h.length 0),(13,z18 es),(14,AI es.length),(15,AI k)],bh h (decide (0<k)) (z1g (es.take k)) [],x⟩) (fun k=>k≤es.length) (fun k=>es.length-k) 0 (by simp [z1g]) (by omega) ?_
 intro k hkl
 rcases Nat.lt_or_ge k es.length with hlt | hge
 ·have hg:=z1a Ent.pv hlt
  have wk:IntKind.i64.wrap ((k:Int)+1)=((k+1:Nat):Int):=z0l _ (by omega) (by omega)
  have b:=hb _ (List.getElem_mem hlt)
  have bl:=zds b
  have hs:=z8v hlt
  have ht2:=z2A (l:=es.take k) (fun r hr=>hb r (List.mem_of_mem_take hr))
  rw[List.length_take] at ht2
  have q:=fun h K=>zuS (h:=h) (K:=K) es[k] b
  have cz:=z2x (x:=es[k])
  have m0:1000000000≤z3x:=by unfold z3x;omega
  simp only[Ent.pv] at q hg cz
  generalize z8u es[k]=ln at *
  generalize z1g (es.take k)=acc at *
  have m1:ln.length+1≤z3x:=by omega
  have q1:=fun l K=>s_WS (h:=h) (K:=K) (u:=decide (0<k)) (s:=acc) (t:=ln++[10]) (l:=l) (by simp;omega)
  simp only[go_sem,hlt,hg,cz,zsu,bh_app,bh_get,bh_set,zkl,↓q,q,splice,m1,↓q1,q1,wk]
  refine⟨k+1,?_,by omega,by omega⟩
  rw[hs,show decide (0<k+1)=true by simp]
 ·have hk':k=es.length:=by omega
  subst hk'
  rw[List.take_length]
  have:=hK (decide (0<es.length))
  simp only[go_sem,Nat.lt_irrefl,decide_false,zsu,zkl,this]
theorem z6A:∀ {rs:List Ent} {p:Option Ent},z1f p rs=0→∀ r∈rs,entF r=0
 | [],p,_,r,hr=>by cases hr
 | x::rs,p,hf,r,hr=>by
  have e:z1f p (x::rs)=(if entF x≠0 then entF x else if (p.elim false fun q=>decide (z12 x q≤0))=true then 7 else z1f (some x) rs):=by cases p <;> rfl
  have hf':=hf
  rw[e] at hf'
  by_cases h1:entF x=0
  ·rw[if_neg (by simp [h1])] at hf'
   by_cases h2:(p.elim false fun q=>decide (z12 x q≤0))=true
   ·rw[if_pos h2] at hf';exact absurd hf' (by decide)
   ·rw[if_neg h2] at hf'
    rcases List.mem_cons.1 hr with e | e
    ·rw[e];exact h1
    ·exact z6A hf' r e
  ·rw[if_pos h1] at hf';exact absurd hf' h1
theorem z8a {rs:List Ent} (hf:z4y rs=0):∀ r∈rs,entF r=0:=by
 unfold z4y at hf
 split at hf
 ·cases hf
 split at hf
 ·rename_i h;exact absurd hf h
 ·rename_i h
  exact z6A (by simpa using h)
theorem zuP (es:List Ent) (hr:∀ x∈es,EntOk x) (hn:es.length≤100):z0c X z9T [z18 es] h K=K (.tup [AS (if z4y es=0 then z1g es else []),AI (z4y es)]) h []:=by
 refine rule ?_
 rw[c_q07y rfl]
 have q0:=fun h K=>z4A (h:=h) (K:=K) es hr (by omega)
 by_cases h0:z4y es=0
 ·have hb:∀ x∈es,EntR x:=fun x hx=>zm3 (z8a h0 x hx)
  have ll:=z2A hb
  simp only[zcA,go_sem,↓q0,q0,h0]
  refine znI es hb hn (fun u=>?_)
  rw[z1V,z2j,z7Y]
  have q1:=fun K=>s_BL (h:=h) (K:=K) (u:=u) (s:=z1g es) (l:=[])
  have q2:=fun K=>zoL (K:=K) (za2 (h:=h) (u:=u) (s:=z1g es) (l:=[])) (by omega)
  have h3':¬ (200000:Int)<((z1g es).length:Int):=by omega
  simp only[z7M,go_sem,↓q1,q1,↓q2,q2,h3']
  refine zuK ?_
  refine⟨rfl,?_,rfl⟩
  unfold zeE bh
  split
  ·simp
  ·rw[List.set_append_right _ _ (by omega)];simp
 ·simp only[zcA,go_sem,↓q0,q0,h0]
  first | done | rfl
end Go.Am
end
section
/- A text taken line by line: base.Each,scanref2.Lines. -/
open Go
set_option linter.all false
namespace Go.Am
variable {h:Heap} {K:Post}
attribute [-go_sem] z7P
theorem z4r (s:List UInt8):(zcS s=true∧z1d s=lnsD s∧lnsT s=false)∨(zcS s=false∧(∃ t,z1d s=lnsD s++[t])∧lnsT s=true):=by
 by_cases h0:s=[]
 ·subst h0
  exact .inl ⟨rfl,rfl,rfl⟩
 ·by_cases h1:s.getLast?=some 10
  ·left
   obtain⟨e1,e2⟩:=zh9 h1
   refine⟨by simp [zcS,z28,h1],?_,e2⟩
   unfold z1d z24 z28
   rw[if_neg h0,if_pos (by simpa using h1),e1]
  ·right
   obtain⟨t,e1,e2⟩:=znF h0 h1
   refine⟨by simp [zcS,z28,h0,h1],⟨t,?_⟩,e2⟩
   unfold z1d z24 z28
   rw[if_neg h0,if_neg (by simpa using h1),e1]
theorem z5u {s l:List UInt8} (h:l∈lnsD s):l.length≤s.length:=z3d (List.dropLast_subset _ h)
theorem z5t (s:List UInt8):(lnsD s).length≤s.length:=by
 unfold lnsD
 rw[List.length_dropLast,z0K]
 have:s.count 10≤s.length:=List.count_le_length
 omega
theorem s_Each {σ:Type} (c:Nat) (caps:List AV) (take:σ→List UInt8→Bool × σ) (H:σ→Heap) (I:Nat→σ→Prop) (s:List UInt8) (hs:s.length≤900000) (n:Nat) (hn:∀ t,(H t).length=n)
 (hc:∀ (k:Nat) (t:σ) (l:List UInt8) (K:Post),I k t→k≤900000→l.length≤s.length→z0c X c (AS l::caps) (H t) K=K (AB (take t l).1) (H (take t l).2) [])
 (hI:∀ (k:Nat) (t:σ) (l:List UInt8),I k t→l.length≤s.length→(take t l).1=true→I (k+1) (take t l).2) (t0:σ) (h0:I 0 t0) {K:Post} :
 z0c X z94 [AS s,.fn c caps] (H t0) K=K (.tup [AI (lnsF take (lnsT s) 0 (lnsD s) t0).1.1,AB (lnsF take (lnsT s) 0 (lnsD s) t0).1.2]) (H (lnsF take (lnsT s) 0 (lnsD s) t0).2) []:=by
 refine rule ?_
 rw[c_q001 rfl]
 have q:=fun h K=>zuQ (h:=h) (K:=K) s (by omega)
 have hD:=z5t s
 simp only[zfm,go_sem,↓q,q]
 have hT:∀ t,List.take (List.length (H t0)) (H t)=H t:=fun t=>List.take_of_length_le (by rw[hn,hn];exact Nat.le_refl _)
 have hLl:(z1d s).length≤(lnsD s).length+1∧(lnsD s).length≤(z1d s).length:=by
  rcases z4r s with ⟨e1,e2,e3⟩ | ⟨e1,⟨t,e2⟩,e3⟩ <;> rw[e2] <;> simp
 refine z0U (fun y:Nat × σ=>⟨[(1,.fn c caps),(6,AStr (z1d s)),(7,AB (zcS s)),(15,AStr (z1d s)),(16,AI (z1d s).length),(17,AI y.1)],H y.2,[]⟩) (fun y=>I y.1 y.2∧y.1≤(lnsD s).length∧lnsF take (lnsT s) 0 (lnsD s) t0=lnsF take (lnsT s) y.1 ((lnsD s).drop y.1) y.2) (fun y=>(lnsD s).length-y.1) (0,t0) (by simp) ⟨h0,by omega,rfl⟩ ?_
 rintro⟨k,t⟩ ⟨hi,hk,hF⟩
 dsimp only at hi hk hF ⊢
 rw[hF]
 rcases Nat.lt_or_ge k (lnsD s).length with hlt | hge
 ·have hL:k<(z1d s).length:=by omega
  have hg:(z1d s)[k]=(lnsD s)[k]:=by
   rcases z4r s with ⟨e1,e2,e3⟩ | ⟨e1,⟨t,e2⟩,e3⟩
   ·simp only[e2]
   ·simp only[e2]
    rw[List.getElem_append_left hlt]
  have hL':(k:Int)<((z1d s).length:Int):=by omega
  have hgm:=z1a PV.str hL
  rw[hg] at hgm
  have cz:cutP none 0 (PV.str (lnsD s)[k])=some (PV.str (lnsD s)[k]):=rfl
  have hll:((lnsD s)[k]).length≤s.length:=z5u (List.getElem_mem hlt)
  have wk:IntKind.i64.wrap ((k:Int)+1)=((k+1:Nat):Int):=z0l _ (by omega) (by omega)
  have wl:IntKind.i64.wrap (((z1d s).length:Int)-1)=(((z1d s).length-1:Nat):Int):=by rw[z0l _ (by omega) (by omega)];omega
  have hq:=fun K=>hc k t (lnsD s)[k] K hi (by omega) hll
  rw[List.drop_eq_getElem_cons hlt,z3K]
  rcases z4r s with ⟨e1,e2,e3⟩ | ⟨e1,⟨t1,e2⟩,e3⟩
  ·cases hb:(take t (lnsD s)[k]).1 with
   | true=>
    rw[hb] at hq
    simp only[go_sem,hL',hL,hgm,cz,e1,↓hq,hq,wk,cond_true]
    exact⟨(k+1,(take t (lnsD s)[k]).2),rfl,⟨hI k t _ hi hll hb,by omega,rfl⟩,by simp;omega⟩
   | false=>
    rw[hb] at hq
    simp only[go_sem,hL',hL,hgm,cz,e1,↓hq,hq,wk,cond_false,hT]
  ·have hne:¬ (k:Int)=(((z1d s).length-1:Nat):Int):=by
    rw[e2];simp;omega
   cases hb:(take t (lnsD s)[k]).1 with
   | true=>
    rw[hb] at hq
    simp only[go_sem,hL',hL,hgm,cz,e1,wl,hne,↓hq,hq,wk,cond_true]
    exact⟨(k+1,(take t (lnsD s)[k]).2),rfl,⟨hI k t _ hi hll hb,by omega,rfl⟩,by simp;omega⟩
   | false=>
    rw[hb] at hq
    simp only[go_sem,hL',hL,hgm,cz,e1,wl,hne,↓hq,hq,wk,cond_false,hT]
 ·have hk':k=(lnsD s).length:=by omega
  subst hk'
  rw[List.drop_length,z5v]
  rcases z4r s with ⟨e1,e2,e3⟩ | ⟨e1,⟨t1,e2⟩,e3⟩
  ·have hL':¬ ((lnsD s).length:Int)<((z1d s).length:Int):=by rw[e2];omega
   have hL:¬ (lnsD s).length<(z1d s).length:=by rw[e2];omega
   simp only[go_sem,hL',hL,decide_false,e3,cond_false]
   rw[z7P]
   simp only[z74,go_sem,hT]
  ·have hL:(lnsD s).length<(z1d s).length:=by rw[e2];simp
   have hL':((lnsD s).length:Int)<((z1d s).length:Int):=by omega
   have hgm:=z1a PV.str hL
   have cz:cutP none 0 (PV.str (z1d s)[(lnsD s).length])=some (PV.str (z1d s)[(lnsD s).length]):=rfl
   have wl:IntKind.i64.wrap (((z1d s).length:Int)-1)=((lnsD s).length:Int):=by rw[z0l _ (by omega) (by omega),e2];simp
   simp only[go_sem,hL',hL,hgm,cz,e1,wl,e3,cond_true,hT]
theorem s_CutC (a b:List UInt8) (c:UInt8) (ha:c∉a) (hs:(a++c::b).length≤1000000):z0c X z8p [AS (a++c::b),AS [c]] h K=K (.tup [AS a,AS b,AB true]) h []:=by
 have key:∀ (h:Heap) (K:Post),z0c X z8e [AS (a++c::b),AS [c]] h K=K (.tup [AS a,AS b,AB true]) h []:=by
  intro h K
  refine rule ?_
  rw[zsx rfl]
  have q:=fun h K=>z6s (h:=h) (K:=K) (a++c::b) c hs
  rw[zmX a b c ha] at q
  have W1:win (a++c::b) 0 a.length=a:=by unfold win;simp
  have W2:win (a++c::b) (a.length+1) (a.length+(b.length+1)-(a.length+1))=b:=by unfold win;rw[show a++c::b=(a++[c])++b by simp,List.drop_left' (by simp)];exact List.take_of_length_le (by omega)
  have hp:¬ (a.length:Int)<0:=by omega
  have hp2:(0:Int)≤a.length:=by omega
  have hl:a.length≤(a++c::b).length:=by simp
  have hl2:a.length+1≤(a++c::b).length:=by simp
  have w:IntKind.i64.wrap ((a.length:Int)+1)=((a.length+1:Nat):Int):=z0l _ (by simp at hs;omega) (by simp at hs;omega)
  simp only[zfq,go_sem,↓q,q,hp,hp2,hl,hl2,w,W1,W2,List.length_cons,List.length_nil]
 refine rule ?_
 rw[zs1 rfl]
 simp only[zfI,go_sem,↓key,key]
theorem zuN (s:List UInt8) (c:UInt8) (ha:c∉s) (hs:s.length≤1000000):z0c X z8p [AS s,AS [c]] h K=K (.tup [AS s,AS [],AB false]) h []:=by
 have key:∀ (h:Heap) (K:Post),z0c X z8e [AS s,AS [c]] h K=K (.tup [AS s,AS [],AB false]) h []:=by
  intro h K
  refine rule ?_
  rw[zsx rfl]
  have q:=fun h K=>z6s (h:=h) (K:=K) s c hs
  rw[ztY ha] at q
  have hp:¬ (0:Int) ≤ -1:=by omega
  simp only[zfq,go_sem,↓q,q,hp]
 refine rule ?_
 rw[zs1 rfl]
 simp only[zfI,go_sem,↓key,key]
theorem z1R (s:List UInt8):(lnsD s).length=s.count 10:=by
 unfold lnsD
 rw[List.length_dropLast,z0K]
 omega
theorem zuJ {s:List UInt8} {k:Nat} (h:k<(lnsD s).length):∃ b,z1p 10 k s=(lnsD s)[k]++10::b∧(10:UInt8)∉(lnsD s)[k]∧z1p 10 (k+1) s=b:=by
 have hk:k<s.count 10:=by rw[← z1R];exact h
 obtain⟨h1,h2,h3⟩:=z2Z 10 k s (by omega)
 obtain⟨a,b,e,ha⟩:=zk7 (c:=10) (s:=z1p 10 k s) (List.count_pos_iff.1 (by omega))
 rw[e,z4v ha] at h1
 have hl:k<(z0m 10 s).length:=by rw[z0K];omega
 rw[List.drop_eq_getElem_cons hl] at h1
 injection h1 with h1 h4
 have e2:(lnsD s)[k]=a:=by
  rw[h1]
  exact List.getElem_dropLast h
 refine⟨b,by rw[e2];exact e,by rw[e2];exact ha,?_⟩
 rw[z8M,e]
 exact ztN ha
theorem zrk (s:List UInt8):(10:UInt8)∉z1p 10 (lnsD s).length s∧lnsT s = !(z1p 10 (lnsD s).length s).isEmpty:=by
 obtain⟨h1,h2,h3⟩:=z2Z 10 (lnsD s).length s (by rw[z1R];exact Nat.le_refl _)
 rw[z1R,Nat.sub_self] at h3
 have hn:(10:UInt8)∉z1p 10 (lnsD s).length s:=by rw[z1R];exact List.count_eq_zero.1 h3
 refine⟨hn,?_⟩
 rw[z4N hn] at h1
 unfold lnsT
 have:(z0m 10 s).getLast?=some (z1p 10 (lnsD s).length s):=by
  have hl:(lnsD s).length<(z0m 10 s).length:=by rw[z0K,z1R];omega
  have:=List.getLast?_drop (l:=z0m 10 s) (i:=(lnsD s).length)
  rw[if_neg (by omega),← h1] at this
  simpa using this.symm
 rw[this]
 rfl
attribute [-go_sem] z7V
theorem zrt {σ:Type} (c:Nat) (caps:List AV) (take:σ→List UInt8→Bool × σ) (H:σ→Heap) (I:Nat→σ→Prop) (s:List UInt8) (hs:s.length≤900000) (n:Nat) (hn:∀ t,(H t).length=n)
 (hc:∀ (k:Nat) (t:σ) (l:List UInt8) (K:Post),I k t→k≤900000→l.length≤s.length→z0c X c (AS l::caps) (H t) K=K (AB (take t l).1) (H (take t l).2) [])
 (hI:∀ (k:Nat) (t:σ) (l:List UInt8),I k t→l.length≤s.length→(take t l).1=true→I (k+1) (take t l).2) (t0:σ) (h0:I 0 t0) {K:Post} :
 z0c X z9G [AS s,.fn c caps] (H t0) K=K (.tup [AI (lnsF take (lnsT s) 0 (lnsD s) t0).1.1,AB (lnsF take (lnsT s) 0 (lnsD s) t0).1.2]) (H (lnsF take (lnsT s) 0 (lnsD s) t0).2) []:=by
 refine rule ?_
 rw[c_q045 rfl]
 have hD:=z5t s
 have hT:∀ t,List.take (List.length (H t0)) (H t)=H t:=fun t=>List.take_of_length_le (by rw[hn,hn];exact Nat.le_refl _)
 simp only[zf5,go_sem]
 refine z0U (fun y:Nat × σ=>⟨[(0,AS (z1p 10 y.1 s)),(1,.fn c caps),(6,AI y.1)],H y.2,[]⟩) (fun y=>I y.1 y.2∧y.1≤(lnsD s).length∧lnsF take (lnsT s) 0 (lnsD s) t0=lnsF take (lnsT s) y.1 ((lnsD s).drop y.1) y.2) (fun y=>(lnsD s).length-y.1) (0,t0) (by simp [z1p]) ⟨h0,by omega,rfl⟩ ?_
 rintro⟨k,t⟩ ⟨hi,hk,hF⟩
 dsimp only at hi hk hF ⊢
 rw[hF]
 have hr:=(z2Z 10 k s (by rw[← z1R];exact hk)).2.1
 rcases Nat.lt_or_ge k (lnsD s).length with hlt | hge
 ·obtain⟨b,e,hne,e2⟩:=zuJ hlt
  rw[e] at hr
  have hcut:=fun h K=>s_CutC (h:=h) (K:=K) _ b 10 hne (by omega)
  rw[← e] at hcut
  have h0:¬ z1p 10 k s=[]:=by rw[e];simp
  have hll:((lnsD s)[k]).length≤s.length:=z5u (List.getElem_mem hlt)
  have wk:IntKind.i64.wrap ((k:Int)+1)=((k+1:Nat):Int):=z0l _ (by omega) (by omega)
  have hq:=fun K=>hc k t (lnsD s)[k] K hi (by omega) hll
  rw[List.drop_eq_getElem_cons hlt,z3K]
  cases hb:(take t (lnsD s)[k]).1 with
  | true=>
   rw[hb] at hq
   simp only[go_sem,h0,↓hcut,hcut,↓hq,hq,wk,cond_true]
   exact⟨(k+1,(take t (lnsD s)[k]).2),by simp only[e2],⟨hI k t _ hi hll hb,by omega,rfl⟩,by simp;omega⟩
  | false=>
   rw[hb] at hq
   simp only[go_sem,h0,↓hcut,hcut,↓hq,hq,wk,cond_false,hT]
 ·have hk':k=(lnsD s).length:=by omega
  subst hk'
  rw[List.drop_length,z5v]
  obtain⟨r1,r2⟩:=zrk s
  by_cases h0:z1p 10 (lnsD s).length s=[]
  ·rw[h0] at r2
   simp only[go_sem,h0,r2,List.isEmpty_nil,Bool.not_true,cond_false]
   rw[z7V]
   simp only[z7F,go_sem,hT]
  ·have hcut:=fun h K=>zuN (h:=h) (K:=K) _ 10 r1 (by omega)
   have r3:lnsT s=true:=by rw[r2];cases hq:z1p 10 (lnsD s).length s with | nil=>exact absurd hq h0 | cons a b=>rfl
   simp only[go_sem,h0,r3,↓hcut,hcut,cond_true,hT]
end Go.Am
end
section
/- Faults read. -/
open Go
set_option linter.all false
namespace Go.Am
variable {h:Heap} {K:Post}
end Go.Am
end
section
/- Lists of faults read. -/
open Go
set_option linter.all false
namespace Go.Am
variable {h:Heap} {K:Post}
end Go.Am
end
section
/- fault.Read,scanref2.FaultsRead. -/
open Go
set_option linter.all false
namespace Go.Am
variable {h:Heap} {K:Post}
theorem frzA {h:Heap} {sh:Sh} {xs:List PV} {o:Obj} {k:Nat}:frz (h++[.row sh xs 0,o]) h.length k=h++[.row sh xs k,o]:=by
 unfold frz
 rw[List.getElem?_append_right (Nat.le_refl _),Nat.sub_self]
 simp
end Go.Am
end
section
/- What is drawn: faults. -/
open Go
set_option linter.all false
namespace Go.Am
variable {L:List Int} {a:Int} {h l:Heap} {id:Nat} {K:Post}
end Go.Am
end
section
/- Deleting faults: printed by program. -/
open Go
set_option linter.unusedSimpArgs false
namespace Go.Am
attribute [-go_sem] PV.cells splice
variable {h:Heap} {K:Post}
attribute [-go_sem] AV.cells cut
attribute [go_sem] AV.cells cut
end Go.Am
end
section
/- What is drawn: lists of faults. -/
open Go
set_option linter.all false
namespace Go.Am
variable {L:List Int} {a:Int} {h l:Heap} {id:Nat} {K:Post}
end Go.Am
end
section
/- Stable sorts of numbers: printed by program. -/
open Go
set_option linter.unusedSimpArgs false
namespace Go.Am
attribute [-go_sem] PV.cells splice
variable {h:Heap} {K:Post}
end Go.Am
end
section
/- Faults compared;texts of faults drawn. -/
open Go
set_option linter.all false
namespace Go.Am
variable {L:List Int} {a:Int} {h:Heap} {K:Post}
theorem zqY {f:Nat} {F:AFun} {id fz:Nat} {sh:Sh} {xs:List PV} (hf:X.fn f=some F) (hr:F.byref=false) (hl:F.nparams=1) (hh:h[id]?=some (.row sh xs fz)):z0c X f [.own id xs.length 0 xs.length] h K=z0c X f [.p (.sl sh xs)] (frz h id xs.length) K:=
 zto (X:=X) (a:=[.own id xs.length 0 xs.length]) (vs:=[.sl sh xs]) hf hr (by
  have:win xs 0 xs.length=xs:=z7f rfl
  simp [z0o,pur,rd,hh,this]) rfl (by simp [hl]) ztU
end Go.Am
end
section
/- Entries written,the reference;kinds read. -/
open Go
set_option linter.all false
set_option maxRecDepth 100000
namespace Go.Am
variable {h:Heap} {K:Post}
theorem z6S:z0c X z5o [] h K=K (AStr z1L) h []:=by
 refine rule ?_
 rw[c_q04s rfl]
 simp only[zkM,go_sem]
 rfl
theorem zsT (a b:Int):znT [a,b]=itoa a++32::itoa b:=by simp [znT,List.intercalate]
theorem zib {k:Int} (h1:1≤k) (h2:k≤7):∃ n:Nat,k=n∧n<8∧(z1L.map PV.str)[n]?=some (.str (z9m k)):=by
 obtain⟨n,rfl⟩:=Int.eq_ofNat_of_zero_le (show 0≤k by omega)
 have hn:n<8:=by omega
 refine⟨n,rfl,hn,?_⟩
 unfold z9m
 rw[Int.toNat_natCast,List.getElem?_map,List.getElem?_eq_getElem (show n<z1L.length from hn)]
 rfl
attribute [-go_sem] z7U
set_option maxHeartbeats 4000000 in
theorem z6Q (es:List Ent) (hb:∀ r∈es,EntR r) (hl:es.length≤100):z0c X z6F [z18 es] h K=K (AS (z1g es)) h []:=by
 refine rule ?_
 rw[c_q040 rfl]
 simp only[zf4,go_sem]
 refine z0U (fun k:Nat=>⟨[(3,AS (z1g (es.take k))),(6,z18 es),(7,AI es.length),(8,AI k)],h,[]⟩) (fun k=>k≤es.length) (fun k=>es.length-k) 0 (by simp [z1g]) (by omega) ?_
 intro k hkl
 rcases Nat.lt_or_ge k es.length with hlt | hge
 ·have hg:=z1a Ent.pv hlt
  have wk:IntKind.i64.wrap ((k:Int)+1)=((k+1:Nat):Int):=z0l _ (by omega) (by omega)
  have R:=hb _ (List.getElem_mem hlt)
  have hs:=z8v hlt
  have ht2:=z2A (l:=es.take k) (fun r hr=>hb r (List.mem_of_mem_take hr))
  rw[List.length_take] at ht2
  have cz:=z2x (x:=es[k])
  have eS:z1g (es.take (k+1))=z1g (es.take k)++(z8u es[k]++[10]):=hs
  generalize es[k]=x at *
  generalize z1g (es.take k)=acc at *
  have i1:=z1Q (n:=x.no) (by have:=R.n;omega) (by have:=R.n;omega)
  have i2:=z1Q (n:=x.time) (by have:=R.t;omega) (by have:=R.t;omega)
  have i3:=z1Q (n:=x.other) (by have:=R.r;omega) (by have:=R.r;omega)
  have nl:(znT [x.no,x.time]).length≤41:=by rw[zsT];simp;omega
  have q1:=fun h K=>zhM (h:=h) (K:=K) [x.no,x.time] (fun n hn=>by simp only[List.mem_cons,List.not_mem_nil,or_false] at hn;have:=R.n;have:=R.t;rcases hn with e | e <;> omega) (by simp) (by omega)
  have q3:=fun h K=>z6r (h:=h) (K:=K) x.other (by have:=R.r;omega) (by have:=R.r;omega)
  have qw:=fun h K=>z6S (h:=h) (K:=K)
  obtain⟨n,en,hn8,gw⟩:=zib R.k.1 R.k.2
  have w:=z9c x.kind
  have l1:=R.s
  have l2:=R.b
  have l3:=R.p
  have l4:=R.o
  have cw:∀ v:List UInt8,cutP none 0 (PV.str v)=some (PV.str v):=fun _=>rfl
  have hw8:(z1L.map PV.str).length=8:=rfl
  have m0:1000000000≤z3x:=by unfold z3x;omega
  simp only[AL,List.map_cons,List.map_nil] at q1
  have fin:∀ t,(t=z8u x++[10])→∃ u,(⟨[(3,AS (acc++t)),(6,z18 es),(7,AI es.length),(8,AI ((k+1:Nat):Int))],h,[]⟩:St)=⟨[(3,AS (z1g (es.take u))),(6,z18 es),(7,AI es.length),(8,AI u)],h,[]⟩∧u≤es.length∧es.length-u<es.length-k:=fun t ht=>⟨k+1,by rw[eS,ht],by omega,by omega⟩
  rw[zsT] at q1 nl
  unfold z8u at fin
  generalize z9m x.kind=wd at *
  simp only[Ent.pv] at hg cz
  by_cases k7:x.kind=7
  ·have k2:¬ x.kind=2:=by omega
   have n7:n=7:=by omega
   subst n7
   rw[if_neg k2,if_pos k7] at fin
   have h7:((7:Nat):Int)=7:=rfl
   rw[en] at hg cz
   simp only[go_sem,hlt,hg,cz,↓q1,q1,↓q3,q3,↓qw,qw,wk,splice,gw,cw,hw8,hn8]
   repeat rw[if_pos (by omega)]
   have:=fin _ rfl
   simpa using this
  ·by_cases k2:x.kind=2
   ·have n2:n=2:=by omega
    subst n2
    rw[if_pos k2] at fin
    rw[en] at hg cz
    simp only[go_sem,hlt,hg,cz,↓q1,q1,↓q3,q3,↓qw,qw,wk,splice,gw,cw,hw8,hn8]
    repeat rw[if_pos (by omega)]
    have:=fin _ rfl
    simpa using this
   ·rw[if_neg k2,if_neg k7] at fin
    rw[en] at hg cz k7 k2
    simp only[go_sem,hlt,hg,cz,↓q1,q1,↓q3,q3,↓qw,qw,wk,splice,gw,cw,hw8,hn8,k7,k2]
    repeat rw[if_pos (by omega)]
    have:=fin _ rfl
    simpa using this
 ·have hk':k=es.length:=by omega
  subst hk'
  rw[List.take_length]
  simp only[go_sem,Nat.lt_irrefl,decide_false]
  rw[z7U]
  simp only[z7E,go_sem]
theorem zrw (w:List UInt8) (hw:w≠[]):z0c X z8l [AS w] h K=K (AI (kEP w)) h []:=by
 refine rule ?_
 rw[c_q08c rfl]
 simp only[zfE,go_sem]
 have hE:kE w≤8:=zug w
 have h0:kE w≠0:=by
  intro e
  unfold kE at e
  rw[List.findIdx_eq (by decide)] at e
  simp only[decide_eq_true_eq] at e
  exact hw e.1.symm
 refine z0U (fun k:Nat=>⟨[(0,AS w),(3,AI k)],h,[]⟩) (fun k=>1≤k∧k≤8∧k≤kE w) (fun k=>8-k) 1 rfl ⟨by omega,by omega,by omega⟩ ?_
 rintro k ⟨h1,h2,h3⟩
 rcases Nat.lt_or_ge k 8 with hlt | hge
 ·have hk:(k:Int)≤7:=by omega
  have wk:IntKind.i64.wrap ((k:Int)+1)=((k+1:Nat):Int):=z0l _ (by omega) (by omega)
  have q:=fun h K=>zoR (h:=h) (K:=K) (k:Int) (by omega) hk
  have ew:z9m (k:Int)=z1L[k]'hlt:=by
   unfold z9m
   rw[Int.toNat_natCast,List.getElem?_eq_getElem (show k<z1L.length from hlt)]
   rfl
  by_cases e:z9m (k:Int)=w
  ·have ek:kE w=k:=by
    refine Nat.le_antisymm ?_ h3
    rcases Nat.lt_or_ge k (kE w) with h | h
    ·exfalso
     have:=List.not_of_lt_findIdx (xs:=z1L) (p:=fun y=>decide (y=w)) h
     have h5:¬ z1L[k]'hlt=w:=of_decide_eq_false this
     exact h5 (ew ▸ e)
    ·exact h
   have e2:kEP w=(k:Int):=by unfold kEP;rw[if_pos (by omega),ek]
   simp only[go_sem,hk,↓q,q,e]
   rw[e2]
  ·have ek:k+1≤kE w:=by
    rcases Nat.lt_or_ge k (kE w) with h | h
    ·exact h
    ·exfalso
     have hk':kE w=k:=Nat.le_antisymm h h3
     have hl:kE w<z1L.length:=by rw[hk'];exact hlt
     have:=List.findIdx_getElem (xs:=z1L) (p:=fun y=>decide (y=w)) (w:=hl)
     have h5:(z1L[kE w]'hl)=w:=of_decide_eq_true this
     apply e
     rw[ew]
     rw[← h5]
     congr 1
     exact hk'.symm
   simp only[go_sem,hk,↓q,q,e,wk]
   exact⟨k+1,rfl,⟨by omega,by omega,ek⟩,by omega⟩
 ·have hk:¬ (k:Int)≤7:=by omega
  have e2:kEP w=0:=by unfold kEP;rw[if_neg (by omega)]
  simp only[go_sem,hk,e2]
end Go.Am
end
section
/- A line of an entry read: the program. -/
open Go
set_option linter.all false
set_option maxRecDepth 100000
namespace Go.Am
variable {h:Heap} {K:Post}
theorem z4B {ws:List (List UInt8)} {i:Nat} (hi:i<ws.length):(ws.map PV.str)[i]?=some (.str (we ws i)):=by
 unfold we
 rw[List.getElem?_map,List.getElem?_eq_getElem hi]
 rfl
theorem z30 (s:List UInt8) (i:Nat):(we (z0m 32 s) i).length≤s.length:=by
 unfold we
 cases hx:(z0m 32 s)[i]? with
 | none=>simp
 | some x=>exact z3d (List.mem_of_getElem? hx)
theorem we_ne {ws:List (List UInt8)} {i:Nat} (hi:i<ws.length) (hc:ws.contains []=false):we ws i≠[]:=by
 unfold we
 rw[List.getElem?_eq_getElem hi]
 intro e
 have e':ws[i]=[]:=e
 have:([]:List UInt8)∈ws:=e' ▸ List.getElem_mem hi
 have h2:ws.contains []=true:=by simpa using this
 rw[h2] at hc
 cases hc
theorem win12 {ws:List (List UInt8)} (h:3≤ws.length):win (ws.map PV.str) 1 2=[we ws 1,we ws 2].map PV.str:=by
 obtain⟨a,b,c,r,rfl⟩:∃ a b c r,ws=a::b::c::r:=by
  match ws,h with
  | a::b::c::r,_=>exact⟨a,b,c,r,rfl⟩
 rfl
set_option maxHeartbeats 4000000 in
theorem zeC (s:List UInt8) (hs:s.length≤900000):z0c X z9V [AS s] h K=K (.tup [.p (rdPE (z0m 32 s)).1.pv,AB (rdPE (z0m 32 s)).2]) h []:=by
 refine rule ?_
 rw[c_q08f rfl]
 have q:=fun h K=>ze9 (h:=h) (K:=K) s 32 (by omega)
 have hlw:(z0m 32 s).length≤1000000:=by
  rw[z0K]
  have:s.count 32≤s.length:=List.count_le_length
  omega
 have qc:=fun h K=>zbk (h:=h) (K:=K) (z0m 32 s) (fun h' _=>strS _) [] hlw
 have l1:=z30 s 1
 have l2:=z30 s 2
 have l5:=z30 s 5
 have qn:=fun h K=>zd8 (h:=h) (K:=K) (we (z0m 32 s) 5) 15 (by omega) (by omega)
 have qs:=fun h K=>zhL (h:=h) (K:=K) [we (z0m 32 s) 1,we (z0m 32 s) 2] 15 (by omega) (fun w hw=>by simp only[List.mem_cons,List.not_mem_nil,or_false] at hw;rcases hw with e | e <;> rw[e] <;> omega) (by simp)
 have e15:((15:Nat):Int)=15:=rfl
 rw[e15] at qn qs
 simp only[AStr,List.all_cons,List.all_nil,Bool.and_true,List.map_cons,List.map_nil] at qs
 generalize z0m 32 s=ws at *
 have cw:∀ w:List UInt8,cutP none 0 (PV.str w)=some (PV.str w):=fun _=>rfl
 have ci:∀ n:Int,cutP none 0 (eI n)=some (eI n):=fun _=>rfl
 unfold rdPE
 by_cases h4:ws.length<5
 ·have h4':(ws.length:Int)<5:=by omega
  rw[if_pos (.inl h4)]
  simp only[z2p,go_sem,↓q,q,h4',splice,ent0,Ent.pv]
 ·have h4':¬ (ws.length:Int)<5:=by omega
  cases hc:ws.contains [] with
  | true=>
   rw[hc] at qc
   rw[if_pos (.inr rfl)]
   simp only[z2p,go_sem,↓q,q,↓qc,qc,h4',splice,ent0,Ent.pv]
  | false=>
   rw[hc] at qc
   rw[if_neg (by rintro (z | z);exact h4 z;cases z)]
   have i0:0<ws.length:=by omega
   have i1:1<ws.length:=by omega
   have i3:3<ws.length:=by omega
   have i3':3≤ws.length:=by omega
   have i4:4<ws.length:=by omega
   have g0:=z4B i0
   have g3:=z4B i3
   have g4:=z4B i4
   have w12:=win12 i3'
   have qk:=fun h K=>zrw (h:=h) (K:=K) (we ws 3) (we_ne i3 hc)
   simp only[List.map_cons,List.map_nil] at w12
   have hk:=zug (we ws 3)
   have hk0:0≤kEP (we ws 3)∧kEP (we ws 3)≤7:=by unfold kEP;split <;> omega
   cases hn:(numF 15 (we ws 1)&&numF 15 (we ws 2)) with
   | false=>
    rw[hn] at qs
    simp only[Bool.false_eq_true,if_false,AL,List.map_nil] at qs
    rw[if_pos (.inl rfl)]
    simp only[z2p,go_sem,↓q,q,↓qc,qc,h4',i0,i3,i3',g0,g3,w12,cw,↓qs,qs,↓qk,qk,splice,ent0,Ent.pv,Bool.false_eq_true]
   | true=>
    rw[hn,if_pos rfl] at qs
    simp only[AL,List.map_cons,List.map_nil] at qs
    by_cases k0:kEP (we ws 3)=0
    ·rw[if_pos (.inr k0)]
     simp only[z2p,go_sem,↓q,q,↓qc,qc,h4',i0,i3,i3',g0,g3,w12,cw,↓qs,qs,↓qk,qk,splice,ent0,Ent.pv,eq_true k0]
    rw[if_neg (by rintro (z | z);cases z;exact k0 z)]
    generalize kEP (we ws 3)=kd at *
    by_cases k2:kd=2
    ·by_cases h6:ws.length=6
     ·have h6':(ws.length:Int)=6:=by omega
      have h66:¬ (6:Int)<(ws.length:Int):=by omega
      have i5:5<ws.length:=by omega
      have g5:=z4B i5
      rw[if_pos k2,if_pos h6]
      subst k2
      simp only[z2p,go_sem,↓q,q,↓qc,qc,h4',i0,i3,i3',i4,i5,g0,g3,g4,g5,w12,cw,ci,↓qs,qs,↓qk,qk,splice,ent0,Ent.pv,k0,eq_true h6',h66]
     ·have h6':¬ (ws.length:Int)=6:=by omega
      rw[if_pos k2,if_neg h6]
      subst k2
      simp only[z2p,go_sem,↓q,q,↓qc,qc,h4',i0,i3,i3',g0,g3,w12,cw,ci,↓qs,qs,↓qk,qk,splice,ent0,Ent.pv,k0,h6']
    by_cases k7:kd=7
    ·by_cases h6:ws.length=6
     ·have h6':(ws.length:Int)=6:=by omega
      have h66:¬ (6:Int)<(ws.length:Int):=by omega
      have i5:5<ws.length:=by omega
      have g5:=z4B i5
      rw[if_neg k2,if_pos k7,if_pos h6]
      subst k7
      simp only[z2p,go_sem,↓q,q,↓qc,qc,h4',i0,i3,i3',i4,i5,g0,g3,g4,g5,w12,cw,ci,↓qs,qs,↓qk,qk,↓qn,qn,splice,ent0,Ent.pv,k0,eq_true h6',h66]
     ·have h6':¬ (ws.length:Int)=6:=by omega
      rw[if_neg k2,if_pos k7,if_neg h6]
      subst k7
      simp only[z2p,go_sem,↓q,q,↓qc,qc,h4',i0,i3,i3',g0,g3,w12,cw,ci,↓qs,qs,↓qk,qk,splice,ent0,Ent.pv,k0,h6']
    by_cases h5:ws.length=5
    ·have h6':¬ (ws.length:Int)=6:=by omega
     have h66:¬ (6:Int)<(ws.length:Int):=by omega
     rw[if_neg k2,if_neg k7,if_pos h5]
     simp only[z2p,go_sem,↓q,q,↓qc,qc,h4',i0,i3,i3',i4,g0,g3,g4,w12,cw,ci,↓qs,qs,↓qk,qk,splice,ent0,Ent.pv,k0,k2,k7,h6',h66]
    ·rw[if_neg k2,if_neg k7,if_neg h5]
     by_cases h6:ws.length=6
     ·have h6':(ws.length:Int)=6:=by omega
      simp only[z2p,go_sem,↓q,q,↓qc,qc,h4',i0,i3,i3',i4,g0,g3,g4,w12,cw,ci,↓qs,qs,↓qk,qk,splice,ent0,Ent.pv,k0,k2,k7,eq_true h6']
     ·have h6':¬ (ws.length:Int)=6:=by omega
      have h66:(6:Int)<(ws.length:Int):=by omega
      simp only[z2p,go_sem,↓q,q,↓qc,qc,h4',i0,i3,i3',i4,g0,g3,g4,w12,cw,ci,↓qs,qs,↓qk,qk,splice,ent0,Ent.pv,k0,k2,k7,h6',h66]
end Go.Am
end
section
/- A line of an entry read: the reference. -/
open Go
set_option linter.all false
set_option maxRecDepth 100000
namespace Go.Am
variable {h:Heap} {K:Post}
set_option maxHeartbeats 4000000 in
theorem zoP (s:List UInt8) (hs:s.length≤900000):z0c X z9L [AS s] h K=K (.tup [.p (rdQE (z0m 32 s)).1.pv,AB (rdQE (z0m 32 s)).2]) h []:=by
 refine rule ?_
 rw[c_q04r rfl]
 have q:=fun h K=>zru (h:=h) (K:=K) s hs
 unfold zta at q
 have l1:=z30 s 1
 have l2:=z30 s 2
 have l5:=z30 s 5
 have qn:=fun h K=>zd9 (h:=h) (K:=K) (we (z0m 32 s) 5) 15 (by omega) (by omega)
 have qs:=fun h K=>zdA (h:=h) (K:=K) [we (z0m 32 s) 1,we (z0m 32 s) 2] 15 (by omega) (fun w hw=>by simp only[List.mem_cons,List.not_mem_nil,or_false] at hw;rcases hw with e | e <;> rw[e] <;> omega) (by simp)
 have e15:((15:Nat):Int)=15:=rfl
 rw[e15] at qn qs
 simp only[AStr,AL,List.all_cons,List.all_nil,Bool.and_true,List.map_cons,List.map_nil] at qs
 generalize z0m 32 s=ws at *
 have cw:∀ w:List UInt8,cutP none 0 (PV.str w)=some (PV.str w):=fun _=>rfl
 have ci:∀ n:Int,cutP none 0 (eI n)=some (eI n):=fun _=>rfl
 have qi:∀ (h:Heap) (K:Post),z0c X z3w [AStr z1L,AS (we ws 3)] h K=K (AI (kEQ (we ws 3))) h []:=fun h K=>zrL (h:=h) (K:=K) z1L (strS _) (we ws 3) (by decide)
 have qe:=fun h K=>z6S (h:=h) (K:=K)
 unfold rdQE
 cases hc:ws.contains [] with
 | true=>
  rw[hc] at q
  rw[if_pos (.inr rfl)]
  simp only[z38,go_sem,↓q,q,splice,ent0,Ent.pv]
 | false=>
  rw[hc] at q
  by_cases h4:ws.length<5
  ·have h4':(ws.length:Int)<5:=by omega
   rw[if_pos (.inl h4)]
   simp only[z38,go_sem,↓q,q,h4',splice,ent0,Ent.pv]
  have h4':¬ (ws.length:Int)<5:=by omega
  rw[if_neg (by rintro (z | z);exact h4 z;cases z)]
  have i0:0<ws.length:=by omega
  have i3:3<ws.length:=by omega
  have i3':3≤ws.length:=by omega
  have i4:4<ws.length:=by omega
  have g0:=z4B i0
  have g3:=z4B i3
  have g4:=z4B i4
  have w12:=win12 i3'
  simp only[List.map_cons,List.map_nil] at w12
  cases hn:(numF 15 (we ws 1)&&numF 15 (we ws 2)) with
  | false=>
   rw[hn] at qs
   rw[if_pos (.inl rfl)]
   simp only[z38,go_sem,↓q,q,h4',i0,i3,i3',g0,g3,w12,cw,ci,↓qs,qs,↓qi,qi,↓qe,qe,splice,Ent.pv]
  | true=>
   rw[hn] at qs
   by_cases k0:kEQ (we ws 3)<1
   ·rw[if_pos (.inr k0)]
    simp only[z38,go_sem,↓q,q,h4',i0,i3,i3',g0,g3,w12,cw,ci,↓qs,qs,↓qi,qi,↓qe,qe,splice,Ent.pv,k0]
   rw[if_neg (by rintro (z | z);cases z;exact k0 z)]
   generalize kEQ (we ws 3)=kd at *
   by_cases k7:kd=7
   ·rw[if_pos k7]
    subst k7
    by_cases h6:ws.length=6
    ·have h6':(ws.length:Int)=6:=by omega
     have i5:5<ws.length:=by omega
     have g5:=z4B i5
     rw[if_neg (fun z=>z h6)]
     simp only[z38,go_sem,↓q,q,h4',i0,i3,i3',i4,i5,g0,g3,g4,g5,w12,cw,ci,↓qs,qs,↓qi,qi,↓qe,qe,↓qn,qn,splice,Ent.pv,k0,eq_true h6']
    ·have h6':¬ (ws.length:Int)=6:=by omega
     rw[if_pos h6]
     simp only[z38,go_sem,↓q,q,h4',i0,i3,i3',g0,g3,w12,cw,ci,↓qs,qs,↓qi,qi,↓qe,qe,splice,Ent.pv,k0,h6']
   rw[if_neg k7]
   by_cases k2:kd=2
   ·rw[if_pos k2]
    subst k2
    by_cases h6:ws.length=6
    ·have h6':(ws.length:Int)=6:=by omega
     have i5:5<ws.length:=by omega
     have g5:=z4B i5
     rw[if_neg (fun z=>z h6)]
     simp only[z38,go_sem,↓q,q,h4',i0,i3,i3',i4,i5,g0,g3,g4,g5,w12,cw,ci,↓qs,qs,↓qi,qi,↓qe,qe,splice,Ent.pv,k0,eq_true h6']
    ·have h6':¬ (ws.length:Int)=6:=by omega
     rw[if_pos h6]
     simp only[z38,go_sem,↓q,q,h4',i0,i3,i3',g0,g3,w12,cw,ci,↓qs,qs,↓qi,qi,↓qe,qe,splice,Ent.pv,k0,h6']
   rw[if_neg k2]
   have e5:decide (ws.length=5)=decide ((ws.length:Int)=5):=by rw[decide_eq_decide];omega
   rw[e5]
   simp only[z38,go_sem,↓q,q,h4',i0,i3,i3',i4,g0,g3,g4,w12,cw,ci,↓qs,qs,↓qi,qi,↓qe,qe,splice,Ent.pv,k0,k2,k7]
end Go.Am
end
section
/- Records asv texts,plainly: read both ways. -/
set_option linter.all false
namespace Go.Am
end Go.Am
end
section
/- Records read: a line,both ways. -/
open Go
set_option linter.all false
set_option maxRecDepth 100000
namespace Go.Am
variable {h:Heap} {K:Post}
end Go.Am
end
section
/- Records read: the program's line. -/
open Go
set_option linter.all false
set_option maxRecDepth 100000
namespace Go.Am
variable {h:Heap} {K:Post}
end Go.Am
end
section
/- Records read: all lines. -/
open Go
set_option linter.all false
set_option maxRecDepth 100000
namespace Go.Am
variable {h:Heap} {K:Post}
end Go.Am
end
section
/- lot.Read,scanref2.RecordsRead. -/
open Go
set_option linter.all false
set_option maxRecDepth 100000
namespace Go.Am
variable {h:Heap} {K:Post}
end Go.Am
end
section
/- scanref2.RecordsRead. -/
open Go
set_option linter.all false
set_option maxRecDepth 100000
namespace Go.Am
variable {h:Heap} {K:Post}
end Go.Am
end
section
/- Entries read,both ways. -/
open Go
set_option linter.all false
set_option maxRecDepth 100000
namespace Go.Am
variable {h:Heap} {K:Post}
def HE (h:Heap) (rs:List Ent):Heap:=h++[.row (some 8) (rs.map Ent.pv) 0,.box [.own h.length rs.length 0 rs.length]]
theorem zrK (h:Heap) (rs:List Ent):(HE h rs).length=h.length+2:=by simp [HE]
theorem s_ER1 (rs:List Ent) (s:List UInt8) (hs:s.length≤900000) (hf:rs.length≤1000000):z0c X z8i [AS s,.ref (h.length+1) 0] (HE h rs) K=K (AB (tkPE rs s).1) (HE h (tkPE rs s).2) []:=by
 refine rule ?_
 rw[c_q07v rfl]
 have q:=fun h K=>zeC (h:=h) (K:=K) s hs
 have hm:rs.length+1≤z1b:=by unfold z1b;omega
 have hl:(rs.map Ent.pv).length=rs.length:=List.length_map ..
 have fp:∀ x:Ent,Ent.pv x = .agg [.str x.site,eI x.no,eI x.time,eI x.kind,.str x.board,.str x.step,.str x.of,eI x.other]:=fun _=>rfl
 unfold HE tkPE
 generalize (rdPE (z0m 32 s)).1=c at *
 generalize (rdPE (z0m 32 s)).2=ok at *
 simp only[fp] at q
 simp only[zkR,go_sem,↓q,q,hm,hl,z29,AV.top,Nat.lt_irrefl,Nat.not_lt_zero,List.map_append,splice,fp]
theorem s_EQ1 (rs:List Ent) (s:List UInt8) (hs:s.length≤900000) (hf:rs.length≤1000000):z0c X z8h [AS s,.ref (h.length+1) 0] (HE h rs) K=K (AB (tkQE rs s).1) (HE h (tkQE rs s).2) []:=by
 refine rule ?_
 rw[c_q03y rfl]
 have q:=fun h K=>zoP (h:=h) (K:=K) s hs
 have hm:rs.length+1≤z1b:=by unfold z1b;omega
 have hl:(rs.map Ent.pv).length=rs.length:=List.length_map ..
 have fp:∀ x:Ent,Ent.pv x = .agg [.str x.site,eI x.no,eI x.time,eI x.kind,.str x.board,.str x.step,.str x.of,eI x.other]:=fun _=>rfl
 unfold HE tkQE
 generalize (rdQE (z0m 32 s)).1=c at *
 generalize (rdQE (z0m 32 s)).2=ok at *
 simp only[fp] at q
 simp only[zkJ,go_sem,↓q,q,hm,hl,z29,AV.top,Nat.lt_irrefl,Nat.not_lt_zero,List.map_append,splice,fp]
theorem zgy {f:Nat} {F:AFun} {h:Heap} {o:Obj} {xs:List PV} {K:Post} (hf:X.fn f=some F) (hr:F.byref=false) (hl:F.nparams=1):z0c X f [.own h.length xs.length 0 xs.length] (h++[.row (some 8) xs 0,o]) K=z0c X f [.p (.sl (some 8) xs)] (h++[.row (some 8) xs xs.length,o]) K:=by
 have:=zqY (K:=K) (f:=f) (F:=F) (id:=h.length) (fz:=0) (sh:=some 8) (xs:=xs) (h:=h++[.row (some 8) xs 0,o]) hf hr hl (by simp)
 rw[this,frzA]
abbrev rdTE (tk:List Ent→List UInt8→Bool × List Ent) (s:List UInt8):(Nat × Bool) × List Ent:=lnsF tk (lnsT s) 0 (lnsD s) []
def rdVE (tk:List Ent→List UInt8→Bool × List Ent) (s:List UInt8):List Ent × Int × Int:=
 if (rdTE tk s).1.2=false then ([],((rdTE tk s).1.1:Nat),9) else if z4y (rdTE tk s).2≠0 then ([],0,z4y (rdTE tk s).2) else ((rdTE tk s).2,0,0)
theorem zuE (s:List UInt8):rdVE tkPE s=rdVE tkQE s:=by
 obtain⟨h1,h2⟩:=tkE_eq (lnsT s) (lnsD s) 0 []
 have e1:(rdTE tkPE s).1=(rdTE tkQE s).1:=h1
 have e2:(rdTE tkPE s).1.2=true→(rdTE tkPE s).2=(rdTE tkQE s).2:=h2
 unfold rdVE
 rw[e1]
 rw[e1] at e2
 by_cases q:(rdTE tkQE s).1.2=false
 ·simp only[q,if_true]
 ·rw[Bool.not_eq_false] at q
  rw[e2 q]
theorem z6l:EntOk ent0:=⟨Nat.zero_le _,Nat.zero_le _,Nat.zero_le _,Nat.zero_le _⟩
theorem zuD {s:List UInt8} (hs:s.length≤100000):EntOk (rdPE (z0m 32 s)).1:=by
 have a0:=z30 s 0
 have a4:=z30 s 4
 have a5:=z30 s 5
 unfold rdPE
 split
 ·exact z6l
 split
 ·exact z6l
 split
 ·split
  ·exact⟨by dsimp only;omega,by dsimp only;omega,by dsimp only;omega,by dsimp only;simp⟩
  ·exact z6l
 split
 ·split
  ·exact⟨by dsimp only;omega,by dsimp only;simp,by dsimp only;simp,by dsimp only;omega⟩
  ·exact z6l
 split
 ·exact⟨by dsimp only;omega,by dsimp only;omega,by dsimp only;simp,by dsimp only;simp⟩
 ·exact z6l
theorem zo5 {s:List UInt8} (hs:s.length≤100000):EntOk (rdQE (z0m 32 s)).1:=by
 have a0:=z30 s 0
 have a4:=z30 s 4
 have a5:=z30 s 5
 unfold rdQE
 split
 ·exact z6l
 split
 ·exact⟨by dsimp only;omega,by dsimp only;simp,by dsimp only;simp,by dsimp only;simp⟩
 split
 ·split
  ·exact⟨by dsimp only;omega,by dsimp only;simp,by dsimp only;simp,by dsimp only;simp⟩
  ·exact⟨by dsimp only;omega,by dsimp only;simp,by dsimp only;simp,by dsimp only;omega⟩
 split
 ·split
  ·exact⟨by dsimp only;omega,by dsimp only;simp,by dsimp only;simp,by dsimp only;simp⟩
  ·exact⟨by dsimp only;omega,by dsimp only;omega,by dsimp only;omega,by dsimp only;simp⟩
 ·exact⟨by dsimp only;omega,by dsimp only;omega,by dsimp only;simp,by dsimp only;simp⟩
theorem zbc (tk:List Ent→List UInt8→Bool × List Ent) (P:Ent→Prop) (tail:Bool) (ls0:List (List UInt8)) (ht:∀ rs,∀ l∈ls0,∃ r,P r∧(tk rs l).2=rs++[r]):∀ (ls:List (List UInt8)) (i:Nat) (rs:List Ent),(∀ l∈ls,l∈ls0)→(∀ r∈rs,P r) →
 (∀ r∈(lnsF tk tail i ls rs).2,P r)∧(lnsF tk tail i ls rs).2.length≤rs.length+ls.length
 | [],i,rs,_,h=>by
  rw[z5v]
  cases tail <;> exact⟨h,by simp⟩
 | l::r,i,rs,hl,h=>by
  rw[z3K]
  have h1:(∀ x∈(tk rs l).2,P x)∧(tk rs l).2.length≤rs.length+1:=by
   obtain⟨r,hr,e⟩:=ht rs l (hl l (by simp))
   rw[e]
   refine⟨fun x hx=>?_,by simp⟩
   rcases List.mem_append.1 hx with hx | hx
   ·exact h x hx
   ·rw[List.mem_singleton.1 hx];exact hr
  cases (tk rs l).1 with
  | true=>
   obtain⟨q1,q2⟩:=zbc tk P tail ls0 ht r (i+1) (tk rs l).2 (fun x hx=>hl x (by simp [hx])) h1.1
   refine⟨q1,?_⟩
   simp only[cond_true,List.length_cons]
   omega
  | false=>
   refine⟨h1.1,?_⟩
   simp only[cond_false,List.length_cons]
   omega
set_option maxHeartbeats 4000000 in
theorem zuO (s:List UInt8) (hs:s.length≤100000):z0c X z9S [AS s] h K=K (.tup [z18 (rdVE tkPE s).1,AI (rdVE tkPE s).2.1,AI (rdVE tkPE s).2.2]) h []:=by
 refine rule ?_
 rw[c_q07u rfl]
 have h2':¬ (200000:Int)<(s.length:Int):=by omega
 have hL:=fun K=>s_Each (K:=K) z8i [.ref (h.length+1) 0] tkPE (HE h) (fun k rs=>rs.length=k) s (by omega) (h.length+2) (zrK h)
  (fun k t l K hi hk hll=>s_ER1 t l (by omega) (by omega)) (fun k t l hi hll _=>by simp [tkPE,hi]) [] rfl
 obtain⟨i1,i2⟩:=zbc tkPE EntOk (lnsT s) (lnsD s) (fun rs l hm=>⟨_,zuD (Nat.le_trans (z5u hm) hs),rfl⟩) (lnsD s) 0 [] (fun _ h=>h) (by simp)
 have hD:=z5t s
 unfold rdVE rdTE
 generalize lnsF tkPE (lnsT s) 0 (lnsD s) []=R at *
 obtain⟨⟨i,ok⟩,rs⟩:=R
 dsimp only at i1 i2 hL ⊢
 rw[List.length_nil,Nat.zero_add] at i2
 have q3:=fun o K=>(zgy (f:=z3E) (F:=zb1) (h:=h) (o:=o) (xs:=rs.map Ent.pv) (K:=K) ztc rfl rfl).trans (z4A rs i1 (by omega))
 simp only[List.length_map] at q3
 simp only[HE,List.map_nil,List.length_nil] at hL
 have hw:win (rs.map Ent.pv) 0 rs.length=rs.map Ent.pv:=z7f (by simp)
 have hll:(rs.map Ent.pv).length=rs.length:=List.length_map ..
 cases ok with
 | false=>
  simp only[zc9,go_sem,↓hL,hL,h2']
  first | done | rfl
 | true=>
  by_cases h4:z4y rs=0
  ·simp only[zc9,go_sem,↓hL,hL,h2',↓q3,q3,h4,hw,hll]
   first | done | rfl
  ·simp only[zc9,go_sem,↓hL,hL,h2',↓q3,q3,h4]
   first | done | rfl
set_option maxHeartbeats 4000000 in
theorem zaV (s:List UInt8) (hs:s.length≤100000):z0c X z9E [AS s] h K=K (.tup [z18 (rdVE tkQE s).1,AI (rdVE tkQE s).2.1,AI (rdVE tkQE s).2.2]) h []:=by
 refine rule ?_
 rw[c_q03x rfl]
 have h2':¬ (200000:Int)<(s.length:Int):=by omega
 have hL:=fun K=>zrt (K:=K) z8h [.ref (h.length+1) 0] tkQE (HE h) (fun k rs=>rs.length≤k) s (by omega) (h.length+2) (zrK h)
  (fun k t l K hi hk hll=>s_EQ1 t l (by omega) (by omega)) (fun k t l hi hll _=>by simp [tkQE];omega) [] (Nat.le_refl _)
 obtain⟨i1,i2⟩:=zbc tkQE EntOk (lnsT s) (lnsD s) (fun rs l hm=>⟨_,zo5 (Nat.le_trans (z5u hm) hs),rfl⟩) (lnsD s) 0 [] (fun _ h=>h) (by simp)
 have hD:=z5t s
 unfold rdVE rdTE
 generalize lnsF tkQE (lnsT s) 0 (lnsD s) []=R at *
 obtain⟨⟨i,ok⟩,rs⟩:=R
 dsimp only at i1 i2 hL ⊢
 rw[List.length_nil,Nat.zero_add] at i2
 have q3:=fun o K=>(zgy (f:=z3D) (F:=zeY) (h:=h) (o:=o) (xs:=rs.map Ent.pv) (K:=K) ztb rfl rfl).trans (z2z rs i1 (by omega))
 simp only[List.length_map] at q3
 simp only[HE,List.map_nil,List.length_nil] at hL
 have hw:win (rs.map Ent.pv) 0 rs.length=rs.map Ent.pv:=z7f (by simp)
 have hll:(rs.map Ent.pv).length=rs.length:=List.length_map ..
 cases ok with
 | false=>
  simp only[zcl,go_sem,↓hL,hL,h2']
  first | done | rfl
 | true=>
  by_cases h4:z4y rs=0
  ·simp only[zcl,go_sem,↓hL,hL,h2',↓q3,q3,h4,hw,hll]
   first | done | rfl
  ·simp only[zcl,go_sem,↓hL,hL,h2',↓q3,q3,h4]
   first | done | rfl
end Go.Am
end
section
/- Entries drawn: their pieces. -/
open Go
set_option linter.all false
set_option maxRecDepth 100000
namespace Go.Am
variable {L:List Int} {a:Int} {h l:Heap} {id:Nat} {K:Post}
attribute [-go_sem] oEqa
structure EntV (x:Ent):Prop where
 s:x.site.length≤1000
 b:x.board.length≤1000
 p:x.step.length≤1000
 o:x.of.length≤1000
 n : -100000000000000000≤x.no∧x.no≤100000000000000000
 t : -100000000000000000≤x.time∧x.time≤100000000000000000
theorem EntV.ok {x:Ent} (v:EntV x):EntOk x:=⟨by have:=v.s;omega,by have:=v.b;omega,by have:=v.p;omega,by have:=v.o;omega⟩
theorem zaW (a b:Ent) (ha:EntV a) (hb:EntV b):z0c X z43 [.p a.pv,.p b.pv] h K=K (AI (z12 a b)) h []:=by
 refine rule ?_
 rw[zs0 rfl]
 have a1:=ha.t
 have a2:=hb.t
 have a3:=ha.n
 have a4:=hb.n
 have w:IntKind.i64.wrap (a.time-b.time)=a.time-b.time:=z0l _ (by omega) (by omega)
 have w2:IntKind.i64.wrap (a.no-b.no)=a.no-b.no:=z0l _ (by omega) (by omega)
 unfold z12
 by_cases he:a.time=b.time
 ·have:cmp3 a.time b.time=0:=by rw[he];unfold cmp3;simp
  rw[if_neg (by simp [this])]
  by_cases hs:a.site=b.site
  ·have hc:cmpL a.site b.site=0:=by rw[hs];exact z71 _
   rw[if_neg (by simp [hc]),z4Y]
   simp only[z67,Ent.pv,go_sem,he,hs,w2,zg5]
  ·have hc:cmpL a.site b.site≠0:=fun e=>hs (zer e)
   rw[if_pos hc]
   simp only[z67,Ent.pv,go_sem,he,hs,z4b]
 ·have hc:cmp3 a.time b.time≠0:=by unfold cmp3;split <;> (try split) <;> omega
  rw[if_pos hc]
  rw[z4Y]
  simp only[z67,Ent.pv,go_sem,he,w,zg5]
theorem zrq (l m:List Ent) (hl:l.length≤1000000000):z0c X z9O [z18 l,z18 m] h K=K (AB (decide (l=m))) h []:=by
 refine rule ?_
 rw[c_q05n rfl]
 by_cases he:l.length=m.length
 ·have he':(l.length:Int)=(m.length:Int):=by omega
  simp only[zcu,go_sem,he']
  refine z0U (fun k:Nat=>⟨[(0,z18 l),(1,z18 m),(12,AI m.length),(13,AI k)],h,[]⟩) (fun k=>k≤l.length∧l.take k=m.take k) (fun k=>l.length-k) 0 rfl (by simp) ?_
  rintro k ⟨hk,hp⟩
  rcases Nat.lt_or_ge k l.length with hlt | hge
  ·have hlt2:k<m.length:=by omega
   have hlt3:(k:Int)<(m.length:Int):=by omega
   have g1:=z1a Ent.pv hlt
   have g2:=z1a Ent.pv hlt2
   have c1:=z2x (x:=l[k])
   have c2:=z2x (x:=m[k])
   have w2:IntKind.i64.wrap ((k:Int)+1)=((k+1:Nat):Int):=z0l _ (by omega) (by omega)
   have hq:=eqa8n l[k] m[k]
   by_cases h1:l[k]=m[k]
   ·rw[decide_eq_true h1] at hq
    simp only[go_sem,hlt,hlt2,hlt3,g1,g2,c1,c2,↓hq,hq,w2]
    refine⟨k+1,rfl,⟨by omega,?_⟩,by omega⟩
    rw[List.take_succ_eq_append_getElem hlt,List.take_succ_eq_append_getElem hlt2,hp,h1]
   ·rw[decide_eq_false h1] at hq
    have hne:¬ l=m:=fun e=>h1 (by subst e;rfl)
    simp only[go_sem,hlt,hlt2,hlt3,g1,g2,c1,c2,↓hq,hq,hne]
  ·obtain rfl:k=l.length:=by omega
   rw[List.take_length,he,List.take_length] at hp
   subst hp
   simp only[go_sem,Nat.lt_irrefl,Int.lt_irrefl,decide_true]
 ·have he':¬ (l.length:Int)=(m.length:Int):=by omega
  have hne:¬ l=m:=fun e=>he (by rw[e])
  simp only[zcu,go_sem,he',hne]
theorem z13 {l:List (List UInt8)} (hl:0<l.length) (hl2:l.length<100) (m:Nat) (h:∀ s∈l,s.length≤m):(z1J l L a).length≤m:=h _ (zo1 hl (by omega))
set_option maxHeartbeats 4000000 in
theorem zm4 (hid:id<h.length) (hp:posN 60 a) (es:List Ent) (hes:es.length≤1000) (x:Ent) (hx:EntV x) (M:Obj) (v6 v11 v12:AV) (K:Ex→St→Prop)
 (hK:∀ (x':Ent) (a':Int) (J:Heap),EntV x'→a≤a'→a'≤a+10 →
  K .normal ⟨[(0,.ref id 0),(5,.own h.length (es.length+1) 0 (es.length+1)),(6,v6),(7,.mp (h.length+1)),(11,v11),(12,v12)],h.set id (strm L a') ++ .row (some 8) (es.map Ent.pv++[x'.pv]) 0::M::J,[]⟩) :
 z1v (z0c X) X.gl z58 (.ref id 0) (.own h.length es.length 0 es.length) v6 (.mp (h.length+1)) (.ref (h.length+2) 0) v11 v12
  (h.set id (strm L a)++[.row (some 8) (es.map Ent.pv) 0,M,x.box]) [] K:=by
 have P:=z8K (z0G hp (Int.le_refl a) (by omega))
 have hmx:es.length+1≤z1b:=by unfold z1b;omega
 have e1:h.length+1<h.length+3+1:=by omega
 obtain⟨site,no,time,kind,board,step,of,other⟩:=x
 obtain⟨xs,xb,xp,xo,xn,xt⟩:=hx
 dsimp only at xs xb xp xo xn xt
 unfold Ent.box
 dsimp only
 by_cases hf:z10 L a 100=0
 ·by_cases h0:z10 L (a+1) 3=0
  ·obtain⟨kv,a3,c1,c2,c3,c4,O⟩:=zq2 (L:=L) (a:=a+1+1+1) (z0G hp (by omega) (by omega)) 1 9 (by omega) (by omega) (by omega)
   have O':=fun l K=>O.app (h:=h) (id:=id) (l:=l) (K:=K) hid
   obtain⟨kv2,a4,d1,d2,d3,d4,O2⟩:=zq2 (L:=L) (a:=a3) (z0G hp (by omega) (by omega)) 0 100 (by omega) (by omega) (by omega)
   have O2':=fun l K=>O2.app (h:=h) (id:=id) (l:=l) (K:=K) hid
   have p1:(z1J [[],site] L (a+1+1)).length≤1000:=z13 (by simp) (by simp) 1000 (fun s hs=>by simp only[List.mem_cons,List.not_mem_nil,or_false] at hs;rcases hs with e | e <;> rw[e] <;> first | omega | simp)
   simp only[z1v,go_sem,hid,P,hf,h0,↓O',O',↓O2',O2',hmx]
   exact hK ⟨z1J [[],site] L (a+1+1),kv,kv2,kind,board,step,of,other⟩ a4 _ ⟨p1,xb,xp,xo,by dsimp only;omega,by dsimp only;omega⟩ (by omega) (by omega)
  ·by_cases h1:z10 L (a+1) 3=1
   ·obtain⟨kv,a3,c1,c2,c3,c4,O⟩:=zq2 (L:=L) (a:=a+1+1) (z0G hp (by omega) (by omega)) 1 7 (by omega) (by omega) (by omega)
    have O':=fun l K=>O.app (h:=h) (id:=id) (l:=l) (K:=K) hid
    have P2:=z8K (z0G hp (show a≤a3 by omega) (show a3+14≤a+60 by omega))
    have p1:(z1J [[],[65],board] L a3).length≤1000:=z13 (by simp) (by simp) 1000 (fun s hs=>by simp only[List.mem_cons,List.not_mem_nil,or_false] at hs;rcases hs with e | e | e <;> rw[e] <;> first | omega | simp)
    have p2:(z1J [[],[115,99,97,110]] L (a3+1)).length≤1000:=z13 (by simp) (by simp) 1000 (fun s hs=>by simp only[List.mem_cons,List.not_mem_nil,or_false] at hs;rcases hs with e | e <;> rw[e] <;> simp)
    simp only[z1v,go_sem,hid,P,P2,hf,h0,h1,↓O',O',hmx]
    exact hK ⟨site,no,time,kv,z1J [[],[65],board] L a3,z1J [[],[115,99,97,110]] L (a3+1),of,other⟩ (a3+1+1) _ ⟨xs,p1,p2,xo,xn,xt⟩ (by omega) (by omega)
   ·obtain⟨kv,a3,c1,c2,c3,c4,O⟩:=zq2 (L:=L) (a:=a+1+1+1) (z0G hp (by omega) (by omega)) 0 5 (by omega) (by omega) (by omega)
    have O':=fun l K=>O.app (h:=h) (id:=id) (l:=l) (K:=K) hid
    have p1:(z1J [[],[115,97]] L (a+1+1)).length≤1000:=z13 (by simp) (by simp) 1000 (fun s hs=>by simp only[List.mem_cons,List.not_mem_nil,or_false] at hs;rcases hs with e | e <;> rw[e] <;> simp)
    simp only[z1v,go_sem,hid,P,hf,h0,h1,↓O',O',hmx]
    exact hK ⟨site,no,time,kind,board,step,z1J [[],[115,97]] L (a+1+1),kv⟩ a3 _ ⟨xs,xb,xp,p1,xn,xt⟩ (by omega) (by omega)
 ·simp only[z1v,go_sem,hid,P,hf,hmx]
  exact hK ⟨site,no,time,kind,board,step,of,other⟩ (a+1) _ ⟨xs,xb,xp,xo,xn,xt⟩ (by omega) (by omega)
end Go.Am
end
section
/- Entries drawn. -/
open Go
set_option linter.all false
set_option maxRecDepth 100000
namespace Go.Am
variable {L:List Int} {a:Int} {h l:Heap} {id:Nat} {K:Post}
attribute [-go_sem] oEqa z82 zaM z1v z27
def intA (n:Int):AV:=.p (.int .i64 n)
def MB (m:Int) (l:List (List UInt8 × Int)):Prop:=∀ s v,getM s l=some v→0≤v∧v≤m
theorem MB.upd {m:Int} {l:List (List UInt8 × Int)} (H:MB m l) (s:List UInt8) {c:Int} (h0:0≤c) (h1:c≤m+1):MB (m+1) (updM s c l):=fun s' v hv=>by
 rw[ze0] at hv
 split at hv
 ·cases hv;exact⟨h0,h1⟩
 ·have:=H s' v hv;omega
abbrev EH (h:Heap) (id:Nat) (L:List Int) (a:Int) (es:List Ent) (M:List (List UInt8 × Int)) (x:Ent):Heap:=h.set id (strm L a)++[.row (some 8) (es.map Ent.pv) 0,mobj PV.str intA M,x.box]
set_option maxHeartbeats 4000000 in
theorem zm5 (hid:id<h.length) (hp:posN 80 a) (es:List Ent) (hes:es.length≤1000) (x:Ent) (hx:EntV x) (M:List (List UInt8 × Int)) (v6 v11 v12:AV) (K:Ex→St→Prop)
 (hK:∀ (x':Ent) (a':Int) (J:Heap),EntV x'→a≤a'→a'≤a+12 →
  K .normal ⟨[(0,.ref id 0),(5,.own h.length (es.length+1) 0 (es.length+1)),(6,v6),(7,.mp (h.length+1)),(11,v11),(12,v12)],h.set id (strm L a') ++ .row (some 8) (es.map Ent.pv++[x'.pv]) 0::mobj PV.str intA M::J,[]⟩) :
 NW (z0c X) X.gl z3Q ⟨[(0,.ref id 0),(5,.own h.length es.length 0 es.length),(6,v6),(7,.mp (h.length+1)),(9,.ref (h.length+2) 0),(11,v11),(12,v12)],EH h id L a es M x,[]⟩ (z0u 2 (seqN (z0c X) X.gl z3R K)):=by
 have P:=z8K (z0G hp (Int.le_refl a) (by omega))
 obtain⟨site,no,time,kind,board,step,of,other⟩:=x
 obtain⟨xs,xb,xp,xo,xn,xt⟩:=hx
 dsimp only at xs xb xp xo xn xt
 unfold EH Ent.box
 dsimp only
 by_cases k2:kind=2
 ·have p1:(z1J [[115,99,97,110],[115,99,97,110],[102,108,97,115,104],[98,117,114,110]] L a).length≤1000:=z13 (by simp) (by simp) 1000 (fun s hs=>by simp only[List.mem_cons,List.not_mem_nil,or_false] at hs;rcases hs with e | e | e | e <;> rw[e] <;> simp)
  simp only[go_sem,hid,P,eq_true k2]
  rw[z27]
  refine zm4 hid (z0G hp (by omega) (by omega)) es hes ⟨site,no,time,kind,board,z1J [[115,99,97,110],[115,99,97,110],[102,108,97,115,104],[98,117,114,110]] L a,of,other⟩ ⟨xs,xb,p1,xo,xn,xt⟩ (mobj PV.str intA M) v6 v11 v12 K (fun x' a' J h1 h2 h3=>hK x' a' J h1 (by omega) (by omega))
 ·simp only[go_sem,hid,P,k2]
  rw[z27]
  refine zm4 hid (z0G hp (by omega) (by omega)) es hes ⟨site,no,time,kind,board,step,of,other⟩ ⟨xs,xb,xp,xo,xn,xt⟩ (mobj PV.str intA M) v6 v11 v12 K (fun x' a' J h1 h2 h3=>hK x' a' J h1 (by omega) (by omega))
attribute [-go_sem] z7R
set_option maxHeartbeats 4000000 in
theorem ent_k4 (hid:id<h.length) (hp:posN 120 a) (es:List Ent) (hes:es.length≤1000) (x:Ent) (hx:EntV x) (M:List (List UInt8 × Int)) (m:Int) (hm:0≤m∧m≤1000) (hM:MB m M) (k:Nat) (v6 v11 v12:AV) (K:Ex→St→Prop)
 (hK:∀ (x':Ent) (a':Int) (M':List (List UInt8 × Int)) (J:Heap),EntV x'→a≤a'→a'≤a+15→MB (m+1) M' →
  K .normal ⟨[(0,.ref id 0),(5,.own h.length (es.length+1) 0 (es.length+1)),(6,v6),(7,.mp (h.length+1)),(11,v11),(12,v12)],h.set id (strm L a') ++ .row (some 8) (es.map Ent.pv++[x'.pv]) 0::mobj PV.str intA M'::J,[]⟩) :
 z1W (z0c X) X.gl z3Q z3R (.ref id 0) (.own h.length es.length 0 es.length) v6 (.mp (h.length+1)) (AI k) (.ref (h.length+2) 0) v11 v12 (EH h id L a es M x) [] K:=by
 have P:=z8K (z0G hp (Int.le_refl a) (by omega))
 obtain⟨site,no,time,kind,board,step,of,other⟩:=x
 obtain⟨xs,xb,xp,xo,xn,xt⟩:=hx
 dsimp only at xs xb xp xo xn xt
 obtain⟨c,hc,c0,c1⟩:∃ c,(getM site M).getD 0=c∧0≤c∧c≤m:=by
  cases hg:getM site M with
  | none=>exact⟨0,rfl,by omega,hm.1⟩
  | some v=>exact⟨v,rfl,hM site v hg⟩
 have wc:IntKind.i64.wrap (c+1)=c+1:=z0l _ (by omega) (by omega)
 have hM':=hM.upd site (c:=c+1) (by omega) (by omega)
 have gu:getM site (updM site (c+1) M)=some (c+1):=by rw[ze0,if_pos rfl]
 have lk:=fun (hp:Heap) (M:List (List UInt8 × Int)) (e:hp[h.length+1]?=some (mobj PV.str intA M))=>zgm (kk:=(none,[2])) (k:=site) zgj e zdq (ok:=false) (z:=intA 0)
 have up:=fun (hp:Heap) (e:hp[h.length+1]?=some (mobj PV.str intA M))=>zgp (kk:=(none,[2])) (k:=site) zgj e zdq (v:=c+1) rfl
 have gt:∀ (R:Obj) (M:List (List UInt8 × Int)) (t:Heap),(h.set id (strm L a)++R::mobj PV.str intA M::t)[h.length+1]?=some (mobj PV.str intA M):=fun R M t=>by
  rw[List.getElem?_append_right (by simp)];simp
 have l1:=fun R t=>lk (h.set id (strm L a)++R::mobj PV.str intA M::t) M (gt R M t)
 have l2:=fun R t=>lk (h.set id (strm L a)++R::mobj PV.str intA (updM site (c+1) M)::t) _ (gt R _ t)
 have u1:=fun R t=>up (h.set id (strm L a)++R::mobj PV.str intA M::t) (gt R M t)
 have eo:(Option.map intA (getM site M)).getD (intA 0)=AI c:=by
  rw[← hc];cases getM site M <;> rfl
 have es0:∀ (R:Obj) (t:Heap) (o:Obj),(h.set id (strm L a)++R::mobj PV.str intA M::t).set (h.length+1) o=h.set id (strm L a)++R::o::t:=fun R t o=>by
  rw[List.set_append_right _ _ (by simp)];simp
 simp only[cond_false,eo] at l1
 simp only[cond_false,gu,Option.map_some,Option.getD_some,intA,z29,AV.top,Nat.not_lt_zero,if_false,es0] at l1 l2 u1
 unfold EH Ent.box
 dsimp only
 by_cases k7:kind=7
 ·have p1:(z1J [[115,97],[115,98]] L a).length≤1000:=z13 (by simp) (by simp) 1000 (fun s hs=>by simp only[List.mem_cons,List.not_mem_nil,or_false] at hs;rcases hs with e | e <;> rw[e] <;> simp)
  simp only[z1W,go_sem,hid,P,eq_true k7,l1,l2,u1,wc]
  rw[z27]
  refine zm4 hid (z0G hp (by omega) (by omega)) es hes ⟨site,c+1,time,kind,board,step,z1J [[115,97],[115,98]] L a,z16 1 8 L (a+1)⟩ ⟨xs,xb,xp,p1,by dsimp only;omega,xt⟩ (mobj PV.str intA (updM site (c+1) M)) v6 v11 v12 K (fun x' a' J h1 h2 h3=>hK x' a' _ J h1 (by omega) (by omega) hM')
 ·obtain⟨bb,gb,lb⟩:∃ bb:List UInt8,([.str [98,49],.str [98,50],.str [98,51]]:List PV)[k%3]?=some (.str bb)∧bb.length≤1000:=by
   have h3:k%3<3:=Nat.mod_lt _ (by omega)
   generalize k%3=j at h3
   match j,h3 with
   | 0,_=>exact⟨_,rfl,by simp⟩
   | 1,_=>exact⟨_,rfl,by simp⟩
   | 2,_=>exact⟨_,rfl,by simp⟩
  have tm:(k:Int).tmod 3=((k%3:Nat):Int):=by
   rw[Int.tmod_eq_emod_of_nonneg (by omega)];omega
  have hk3:k%3<3:=Nat.mod_lt _ (by omega)
  have cw:∀ v:List UInt8,cutP none 0 (PV.str v)=some (PV.str v):=fun _=>rfl
  by_cases k3:(3:Int)≤(k:Int)
  ·have p1:(z1J [[98,49],[98,49],[98,50],[98,51],[98,52]] L a).length≤1000:=z13 (by simp) (by simp) 1000 (fun s hs=>by simp only[List.mem_cons,List.not_mem_nil,or_false] at hs;rcases hs with e | e | e | e | e <;> rw[e] <;> simp)
   simp only[z1W,go_sem,hid,P,k7,l1,l2,u1,wc,tm,gb,hk3,cw,k3]
   exact zm5 hid (z0G hp (by omega) (by omega)) es hes ⟨site,c+1,time,kind,z1J [[98,49],[98,49],[98,50],[98,51],[98,52]] L a,step,of,other⟩ ⟨xs,p1,xp,xo,by dsimp only;omega,xt⟩ (updM site (c+1) M) v6 v11 v12 K (fun x' a' J h1 h2 h3=>hK x' a' _ J h1 (by omega) (by omega) hM')
  ·simp only[z1W,go_sem,hid,P,k7,l1,l2,u1,wc,tm,gb,hk3,cw,k3]
   exact zm5 hid (z0G hp (by omega) (by omega)) es hes ⟨site,c+1,time,kind,bb,step,of,other⟩ ⟨xs,lb,xp,xo,by dsimp only;omega,xt⟩ (updM site (c+1) M) v6 v11 v12 K (fun x' a' J h1 h2 h3=>hK x' a' _ J h1 (by omega) (by omega) hM')
end Go.Am
end
section
/- Entries drawn: all,right ones,texts. -/
open Go
set_option linter.all false
set_option maxRecDepth 100000
namespace Go.Am
variable {L:List Int} {a:Int} {h l:Heap} {id:Nat} {K:Post}
attribute [-go_sem] oEqa z82 zaM z1v z27 z7R z7S
theorem zm8 {P:Ent→Prop}:∀ {xs:List PV},(∀ x∈xs,∃ r,P r∧x=Ent.pv r)→∃ rs:List Ent,(∀ r∈rs,P r)∧xs=rs.map Ent.pv
 | [],_=>⟨[],by simp,rfl⟩
 | x::xs,h=>by
  obtain⟨r,h1,h2⟩:=h x (by simp)
  obtain⟨rs,h3,h4⟩:=zm8 (xs:=xs) (fun y hy=>h y (List.mem_cons_of_mem _ hy))
  refine⟨r::rs,fun z hz=>?_,by rw[h2,h4];rfl⟩
  rcases List.mem_cons.1 hz with rfl | hz
  ·exact h1
  ·exact h3 z hz
set_option maxHeartbeats 4000000 in
theorem zdj (hp:posN 4000 a) (n:Nat) (hn:n≤19) :
 GenE z6E [AI n] L a (fun v a2=>a≤a2∧a2≤a+1000∧∃ rs:List Ent,rs.length≤n∧(∀ r∈rs,EntV r)∧v=z18 rs):=by
 refine GenE.of fun h id hid=>?_
 rw[c_q03c rfl]
 simp only[zfz,go_sem,hid]
 refine z0U (fun t:List Ent × Int × Int × List (List UInt8 × Int)=>⟨[(0,.ref id 0),(5,.own h.length t.1.length 0 t.1.length),(6,AI t.2.1),(7,.mp (h.length+1)),(11,AI n),(12,AI t.1.length)],h.set id (strm L t.2.2.1)++[.row (some 8) (t.1.map Ent.pv) 0,mobj PV.str intA t.2.2.2],[]⟩)
  (fun t=>t.1.length≤n∧(∀ r∈t.1,EntV r)∧(a≤t.2.2.1∧t.2.2.1≤a+40*t.1.length)∧(0≤t.2.1∧t.2.1≤10*t.1.length)∧MB t.1.length t.2.2.2) (fun t=>n-t.1.length) ([],0,a,[]) rfl ⟨by simp,by simp,by simp,by simp,fun s v h=>by simp [getM] at h⟩ ?_
 rintro⟨es,t,b,M⟩ ⟨q1,q2,⟨q3,q4⟩,⟨q5,q6⟩,q7⟩
 dsimp only at q1 q2 q3 q4 q5 q6 q7
 rcases Nat.lt_or_ge es.length n with hlt | hge
 ·have P:=z8K (z0G hp q3 (show b+14≤a+4000 by omega))
  have w1:IntKind.i64.wrap ((es.length:Int)+1)=((es.length+1:Nat):Int):=z0l _ (by omega) (by omega)
  have m1:=z8J (L:=L) (a:=b) (l:=[0,1,1,3,10]) (by simp) (by simp)
  have b1:0≤z33 [0,1,1,3,10] L b∧z33 [0,1,1,3,10] L b≤10:=by
   simp only[List.mem_cons,List.not_mem_nil,or_false] at m1
   omega
  have w2:IntKind.i64.wrap (t+z33 [0,1,1,3,10] L b)=t+z33 [0,1,1,3,10] L b:=z0l _ (by omega) (by omega)
  have ps:(z1J [[115,97],[115,97],[115,98]] L (b+1)).length≤1000:=z13 (by simp) (by simp) 1000 (fun s hs=>by simp only[List.mem_cons,List.not_mem_nil,or_false] at hs;rcases hs with e | e | e <;> rw[e] <;> simp)
  obtain⟨t',ht'⟩:∃ t',t+z33 [0,1,1,3,10] L b=t':=⟨_,rfl⟩
  have ht2:0≤t'∧t'≤10*(es.length+1):=by omega
  rw[ht'] at w2
  have fin:∀ (kd:Int),NW (z0c X) X.gl z59 ⟨[(0,.ref id 0),(5,.own h.length es.length 0 es.length),(6,AI t'),(7,.mp (h.length+1)),(8,AI es.length),(9,.ref (h.length+2) 0),(11,AI n),(12,AI es.length)],EH h id L (b+1+1+1) es M ⟨z1J [[115,97],[115,97],[115,98]] L (b+1),0,t',kd,[],[],[],0⟩,[]⟩
   (z0u 1 (seqN (z0c X) X.gl z5A (zay (h.length+2) [] (ze3
    (fun t:List Ent × Int × Int × List (List UInt8 × Int)=>⟨[(0,.ref id 0),(5,.own h.length t.1.length 0 t.1.length),(6,AI t.2.1),(7,.mp (h.length+1)),(11,AI n),(12,AI t.1.length)],h.set id (strm L t.2.2.1)++[.row (some 8) (t.1.map Ent.pv) 0,mobj PV.str intA t.2.2.2],[]⟩)
    (fun t=>t.1.length≤n∧(∀ r∈t.1,EntV r)∧(a≤t.2.2.1∧t.2.2.1≤a+40*t.1.length)∧(0≤t.2.1∧t.2.1≤10*t.1.length)∧MB t.1.length t.2.2.2) (fun t=>n-t.1.length)
    (z0u 0 (seqN (z0c X) X.gl z3S (finR [.t 4] false h.length (fun v1 h1 x1=>∃ a2,(a≤a2∧a2≤a+1000∧∃ rs:List Ent,rs.length≤n∧(∀ r∈rs,EntV r)∧v1=z18 rs)∧h1=h.set id (strm L a2)∧x1=[])))) (es,t,b,M))))):=by
   intro kd
   rw[z7S]
   refine ent_k4 hid (z0G hp (by omega) (by omega)) es (by omega) ⟨z1J [[115,97],[115,97],[115,98]] L (b+1),0,t',kd,[],[],[],0⟩ ⟨ps,by simp,by simp,by simp,by dsimp only;omega,by dsimp only;omega⟩ M es.length ⟨by omega,by omega⟩ q7 es.length (AI t') (AI n) (AI es.length) _ (fun x' a' M' J r1 r2 r3 r4=>?_)
   have f1:id+1≤h.length+2:=by omega
   have f2:h.length+1≤h.length+2:=by omega
   have f3:h.length+1+1≤h.length+2:=by omega
   simp only[go_sem,w1,f1,f2,f3]
   refine⟨(es++[x'],t',a',M'),?_,⟨by simp;omega,fun r hr=>?_,⟨by dsimp only;omega,by simp;omega⟩,⟨by dsimp only;omega,by simp;omega⟩,by simpa using r4⟩,by simp;omega⟩
   ·simp only[List.length_append,List.length_cons,List.length_nil,List.map_append,List.map_cons,List.map_nil]
   ·rcases List.mem_append.1 hr with hr | hr
    ·exact q2 r hr
    ·rw[List.mem_singleton] at hr;rw[hr];exact r1
  unfold EH Ent.box at fin
  dsimp only at fin
  by_cases k3:(es.length:Int)<3
  ·have:=fin 1
   simp only[go_sem,hid,P,hlt,w2,ht',k3,splice]
   exact this
  ·have:=fin (z33 [2,2,2,3,3,4,4,5,5,6,7,1] L (b+1+1))
   simp only[go_sem,hid,P,hlt,w2,ht',k3,splice]
   exact this
 ·have en:es.length=n:=by omega
  have hb2:¬ (es.length<n):=by omega
  have hh:(h.set id (strm L b)++[Obj.row (some 8) (es.map Ent.pv) 0,mobj PV.str intA M])[h.length]?=some (.row (some 8) (es.map Ent.pv) 0):=by rw[List.getElem?_append_right (by simp)];simp
  have st:=fun K=>z6Y (h:=h.set id (strm L b)++[Obj.row (some 8) (es.map Ent.pv) 0,mobj PV.str intA M]) (K:=K) h.length (es.map Ent.pv) zfM (by simp;omega) hh (g:=z43) (caps:=[]) (c:=fun x y=>z12 (zeL x) (zeL y))
   (fun o x hx y hy K=>by
    obtain⟨p,hp,rfl⟩:=List.mem_map.1 hx
    obtain⟨q,hq,rfl⟩:=List.mem_map.1 hy
    dsimp only
    rw[zbe,zbe]
    exact zaW p q (q2 p hp) (q2 q hq))
  have hsm:∀ x∈zdo (ltC fun x y=>z12 (zeL x) (zeL y)) (es.map Ent.pv),∃ r,EntV r∧x=Ent.pv r:=fun x hx=>by
   obtain⟨r,hr,rfl⟩:=List.mem_map.1 (znb.1 hx)
   exact⟨r,q2 r hr,rfl⟩
  obtain⟨ss,s1,s2⟩:=zm8 hsm
  have hsl:ss.length=es.length:=by have:=congrArg List.length s2;simp [zna] at this;omega
  simp only[List.length_map,s2] at st
  have e0:∀ o,(h.set id (strm L b)++[Obj.row (some 8) (es.map Ent.pv) 0,mobj PV.str intA M]).set h.length o=h.set id (strm L b)++[o,mobj PV.str intA M]:=fun o=>by rw[List.set_append_right _ _ (by simp)];simp
  simp only[e0] at st
  have hw:win (ss.map Ent.pv) 0 es.length=ss.map Ent.pv:=z7f (by simp [hsl])
  have hcr:es.length≤es.length:=Nat.le_refl _
  have hll:(ss.map Ent.pv).length=es.length:=by simp [hsl]
  simp only[go_sem,hb2,↓st,st,hll,hw,hsl]
  exact⟨b,⟨q3,by omega,ss,by omega,s1,rfl⟩,rfl⟩
end Go.Am
end
section
/- stationed: a z1j call,computed. -/
open Go
set_option linter.all false
namespace Go.Am
def orc0 (f:Nat) (a:List AV):Option AV:=none
theorem zuB:∀ f a v,orc0 f a=some v→∀ h (K:Post),K v h []→z0c X0 f a h K:=by
 intro f a v hv
 cases hv
theorem zdM:z8b X0 orc0 1000 60 z8f [] []=some (AB true,[],[]):=by kernel_rfl
theorem zpu:z0c X0 z8f [] [] fun v h x=>v=AB true∧h=[]∧x=[]:=(zid zuB 1000 60 zdM _).2 ⟨rfl,rfl,rfl⟩
theorem z8U {h:Heap} {K:Post}:z0c X z8f [] h K=K (AB true) h []:=z5s (by kernel_rfl) rfl
end Go.Am
end
section
/- EntryTexts returns true. -/
open Go
set_option linter.all false
set_option maxRecDepth 100000
namespace Go.Am
variable {L:List Int} {a:Int} {h l:Heap} {id:Nat} {K:Post}
theorem z9i (hp:posN 20000 a) (n:Nat) (hn:n≤19) :
 GenE z9D [AI n] L a (fun v a2=>a≤a2∧a2≤a+8000∧∃ rs:List Ent,rs.length≤n∧(∀ r∈rs,EntV r)∧z4y rs=0∧v=z18 rs):=by
 refine GenE.of fun h id hid=>?_
 rw[c_q03p rfl]
 simp only[zf3,go_sem,hid]
 refine z0U (fun t:Nat × Int=>⟨[(0,.ref id 0),(1,AI n),(6,AI t.1)],h.set id (strm L t.2),[]⟩) (fun t=>t.1≤8∧a≤t.2∧t.2≤a+1000*t.1) (fun t=>8-t.1) (0,a) rfl ⟨by simp,by simp,by simp⟩ ?_
 rintro⟨k,b⟩ ⟨h1,h2,h3⟩
 dsimp only at h1 h2 h3 ⊢
 rcases Nat.lt_or_ge k 8 with hlt | hge
 ·have hk:(k:Int)<8:=by omega
  have w1:IntKind.i64.wrap ((k:Int)+1)=((k+1:Nat):Int):=z0l _ (by omega) (by omega)
  obtain⟨_,a2,⟨c1,c2,rs,r1,r2,rfl⟩,V⟩:=(zdj (L:=L) (a:=b) (z0G hp h2 (by omega)) n hn).set (h:=h) hid
  have F:=fun h K=>z2z (h:=h) (K:=K) rs (fun x hx=>(r2 x hx).ok) (by omega)
  by_cases hf:z4y rs=0
  ·simp only[go_sem,hid,hk,↓V,V,↓F,F,hf]
   exact⟨a2,⟨by omega,by omega,rs,r1,r2,hf,rfl⟩,rfl⟩
  ·simp only[go_sem,hid,hk,↓V,V,↓F,F,hf,w1]
   exact⟨(k+1,a2),rfl,⟨by dsimp only;omega,by dsimp only;omega,by dsimp only;omega⟩,by dsimp only;omega⟩
 ·have hk:¬ (k:Int)<8:=by omega
  simp only[go_sem,hid,hk]
  exact⟨b,⟨by omega,by omega,[],by simp,by simp,by decide,rfl⟩,rfl⟩
set_option maxHeartbeats 4000000 in
theorem zey (hp:posN 40000 a):GenE z9C [] L a (fun v a2=>a≤a2∧a2≤a+9000∧∃ t:List UInt8,t.length≤2000∧v=AS t):=by
 refine GenE.of fun h id hid=>?_
 rw[c_q03d rfl]
 have hid':id≤h.length:=by omega
 have p0:=z0G (n:=0) hp (Int.le_refl a) (by omega)
 have rb:0≤z16 0 5 L a∧z16 0 5 L a≤5:=z5Y L a (by omega) (by omega)
 obtain⟨n,hn⟩:∃ n:Nat,z16 0 5 L a=n:=⟨(z16 0 5 L a).toNat,by omega⟩
 obtain⟨_,a2,⟨d1,d2,l,hl,hb,h0,rfl⟩,V⟩:=(z9i (L:=L) (a:=a+1) (z0G hp (by omega) (by omega)) n (by omega)).set (h:=h) hid
 have hR:∀ x∈l,EntR x:=fun x hx=>zm3 (z8a h0 x hx)
 have fl:=fun (h':Heap) (K':Post)=>z6Q (h:=h') (K:=K') l hR (by omega)
 have lb:=z2A hR
 have p2:posN 0 a2:=z0G hp (by omega) (by omega)
 have hm:=z8J (L:=L) (a:=a2) (l:=[0,0,1,2]) (by simp) (by simp)
 have hbd:0≤z33 [0,0,1,2] L a2∧z33 [0,0,1,2] L a2≤2:=by
  simp only[List.mem_cons,List.not_mem_nil,or_false] at hm
  omega
 have hx:([.int .i64 0,.int .i64 0,.int .i64 1,.int .i64 2]:List PV).all isI=true:=rfl
 have hu:([.int .i64 0,.int .i64 0,.int .i64 1,.int .i64 2]:List PV).map unI=[0,0,1,2]:=rfl
 generalize hpk:z33 [0,0,1,2] L a2=pk at *
 generalize z1g l=t0 at *
 simp only[zf0,go_sem,hid,hid',p0,hn,↓V,V,↓fl,fl,p2,hx,hu,hpk]
 refine z0U (fun t:Nat × List UInt8 × Int=>⟨[(0,.ref id 0),(3,AS t.2.1),(11,AI pk),(12,AI t.1)],h.set id (strm L t.2.2),[]⟩) (fun t=>(t.1:Int)≤pk∧t.2.1.length≤t0.length+7*t.1∧a2+1≤t.2.2∧t.2.2≤a2+1+3*t.1) (fun t=>2-t.1) (0,t0,a2+1) rfl ⟨by simpa using hbd.1,by simp,by simp,by simp⟩ ?_
 rintro⟨k,t,b⟩ ⟨h1,h2,h3,h4⟩
 dsimp only at h1 h2 h3 h4 ⊢
 by_cases hlt:(k:Int)<pk
 ·have w1:IntKind.i64.wrap ((k:Int)+1)=((k+1:Nat):Int):=z0l _ (by omega) (by omega)
  obtain⟨_,b2,⟨e1,e2,t',ht',rfl⟩,V2⟩:=(zmO (L:=L) (a:=b) t [32,10,48,45,57,115,98] (by omega) (by simp) (by simp) (by decide) (z0G hp (by omega) (by omega))).set (h:=h) hid
  simp only[go_sem,hid,hlt,↓V2,V2,w1]
  have h10:([32,10,48,45,57,115,98]:List UInt8).length=7:=rfl
  exact⟨(k+1,t',b2),rfl,⟨by dsimp only;omega,by dsimp only;omega,by dsimp only;omega,by dsimp only;omega⟩,by dsimp only;omega⟩
 ·simp only[go_sem,hid,hlt]
  exact⟨b,⟨by omega,by omega,t,by omega,rfl⟩,rfl⟩
theorem zre (s:List UInt8) (hs:s.length≤100000):(rdVE tkQE s).1.length≤1000000:=by
 obtain⟨_,i2⟩:=zbc tkQE EntOk (lnsT s) (lnsD s) (fun rs l hm=>⟨_,zo5 (Nat.le_trans (z5u hm) hs),rfl⟩) (lnsD s) 0 [] (fun _ h=>h) (by simp)
 have hD:=z5t s
 rw[List.length_nil,Nat.zero_add] at i2
 unfold rdVE
 split
 ·simp
 split
 ·simp
 ·show (rdTE tkQE s).2.length≤_
  exact Nat.le_trans i2 (by omega)
attribute [-go_sem] z5i z36
set_option maxHeartbeats 4000000 in
theorem law_ET (L:List Int) {K:Post}:z0c X zfT [AL L] [] K=K (AB true) [] []:=by
 refine rule ?_
 rw[c_q030 rfl]
 have p0:posN 100000 0:=by unfold posN;omega
 have p00:posN 0 0:=by unfold posN;omega
 have rb:0≤z16 0 8 L 0∧z16 0 8 L 0≤8:=z5Y L 0 (by omega) (by omega)
 obtain⟨n,hn⟩:∃ n:Nat,z16 0 8 L 0=n:=⟨(z16 0 8 L 0).toNat,by omega⟩
 obtain⟨_,a2,⟨d1,d2,l,hl,hb,rfl⟩,V⟩:=(zdj (L:=L) (a:=1) (z0G p0 (by omega) (by omega)) n (by omega)).hd (l:=[])
 obtain⟨_,a3,⟨e1,e2,t,ht,rfl⟩,V2⟩:=(zey (L:=L) (a:=a2) (z0G p0 (by omega) (by omega))).hd (l:=[])
 have hok:∀ c∈l,EntOk c:=fun c hc=>(hb c hc).ok
 have C1:=fun h K=>zuP (h:=h) (K:=K) l hok (by omega)
 have C2:=fun h K=>z2z (h:=h) (K:=K) l hok (by omega)
 have C4:=fun h K=>zuO (h:=h) (K:=K) t (by omega)
 have C5:=fun h K=>zaV (h:=h) (K:=K) t (by omega)
 rw[zuE] at C4
 have E1:=fun h K=>zrq (h:=h) (K:=K) (rdVE tkQE t).1 (rdVE tkQE t).1 (by have:=zre t (by omega);omega)
 generalize rdVE tkQE t=R at *
 obtain⟨cs,i,e⟩:=R
 dsimp only at C4 C5 E1
 simp only[decide_true] at E1
 by_cases h0:z4y l=0
 ·have C3:=fun h K=>z6Q (h:=h) (K:=K) l (fun x hx=>zm3 (z8a h0 x hx)) (by omega)
  simp only[h0,if_true] at C1 C2
  simp only[zbX,go_sem,p00,hn,V,V2,C1,C2,C3]
  rw[z5i]
  simp only[z36,go_sem,C4,C5,E1,z8U]
 ·simp only[h0,if_false] at C1
  simp only[zbX,go_sem,p00,hn,V,V2,C1,C2,h0]
  rw[z5i]
  simp only[z36,go_sem,C4,C5,E1,z8U]
end Go.Am
end
section
/- From a law that is true here tov the model's calls at what came in. -/
open Go
namespace Go.Am
variable {P:Program}
theorem law_nil {X:Ctx} (HX:Fits P X) {f:Nat} {F:AFun} (hF:X.fn f=some F) (H:∀ L:List Int,z0c X f [zra L] [] fun v _ _=>v = .p (.bool true)) (W:World) (hG:GInv X.gl (imm [] [] W)) :
 Calls P f #[.slice none 0 0] W fun e W'=>e = .returned (.bool true)∧RowKit.Below W.heap.size W W':=by
 refine (zfh HX hF (H []) (W:=W) (vs:=[.slice none 0 0]) hG rfl (fun j y v hy hv=>?_)).mono fun e W' he=>?_
 ·cases j with
  | zero=>cases hy;cases hv;exact zpO W
  | succ j=>cases hy
 ·cases e with
  | returned r=>
   obtain⟨⟨v,h,x,μ,hk,hr⟩,hb⟩:=he
   subst hk
   exact⟨by rw[hr.p_bool],hb⟩
  | panicked _=>exact he.elim
  | outgrown=>exact he.elim
theorem law_ints {X:Ctx} (HX:Fits P X) {f:Nat} {F:AFun} (hF:X.fn f=some F) (H:∀ L:List Int,z0c X f [zra L] [] fun v _ _=>v = .p (.bool true)) {W:World} (hG:GInv X.gl (imm [] [] W)) {a:Addr} {len cap:Nat} {zs:List Int}
 (hl:len≤cap) (hz:len≤zs.length) (hc:∀ i,i<zs.length→W.cell? (a.add i)=some (.int .i64 (zs.getD i 0))) :
 Calls P f #[.slice (some a) len cap] W fun e W'=>e = .returned (.bool true)∧RowKit.Below W.heap.size W W':=by
 refine (zfh HX hF (H (zs.take len)) (W:=W) (vs:=[.slice (some a) len cap]) hG rfl (fun j y v hy hv=>?_)).mono fun e W' he=>?_
 ·cases j with
  | zero=>
   cases hy;cases hv
   rcases Nat.eq_zero_or_pos len with h0 | h0
   ·subst h0
    exact .p _ _ (.nils _ _ _)
   ·exact zkr (by simpa [Addr.add] using World.cell?_spot (hc 0 (by omega))) hl hz hc
  | succ j=>cases hy
 ·cases e with
  | returned r=>
   obtain⟨⟨v,h,x,μ,hk,hr⟩,hb⟩:=he
   subst hk
   exact⟨by rw[hr.p_bool],hb⟩
  | panicked _=>exact he.elim
  | outgrown=>exact he.elim
end Go.Am
namespace Go.ChangeShapes
open Go.RowKit Go.WideShapes
section
variable {H:Type} {enc:TypeId × Value→H} {P:Program}
end
end Go.ChangeShapes
end
section
/- The abstract machine,part L2: the kit's contracts asv rows. -/
set_option linter.unusedSimpArgs false
set_option linter.unusedVariables false
namespace Go.Am
variable {P:Program} {gl:Nat→Option PV}
open Go.Shelf
theorem znE:∀ n:Nat,Go.Lib.decDigits n=decN n:=by
 intro n
 induction n using Nat.strongRecOn with
 | _ n ih=>
  rw[Go.Lib.decDigits,decN]
  split
  ·rfl
  ·rw[ih _ (by omega)];rfl
theorem zqM (n:Int):Go.Lib.itoa n=itoa n:=by
 unfold Go.Lib.itoa itoa
 split
 ·rw[znE]
 ·rw[znE];congr 1;omega
theorem tab_of {M:Mem} {w:World} {g:Nat} {name:String} {k:IntKind} {zs:List Int} (hn:P.globalNamed name=some g) (hg:gl g=some (.agg (zs.map (PV.int k)))) (hc:∀ b o v,M.c b o=some v→w.cell? ⟨b,o,none⟩=some v) (hb:∀ b o,M.b b=some o→w.heap[b]?=some o) (hG:GInv gl M) :
 Go.Lib.TabIs P w name k zs:=by
 obtain⟨hv,cs,t,x,h2,h3⟩:=hG g _ hg
 have h4:=hb _ _ h2
 unfold Go.Lib.TabIs World.var?
 rw[hn]
 simp only[Option.bind_some,h4,Option.some.injEq]
 simp only[PV.cells,List.length_map] at h3
 apply Array.ext
 ·simpa using h3
 ·intro i hi1 hi2
  have hi:i<zs.length:=by omega
  cases hv with
  | vp _ _ _ f hm hr=>
   have hy:(PV.agg (zs.map (PV.int k))).cells[i]?=some (.int k zs[i]):=by simp [PV.cells,hi]
   have q1:=hc _ _ _ (hm i _ hy)
   have q2:=hr i _ hy
   have q3:f i = .int k zs[i]:=by
    generalize f i=u at q2
    cases q2;rfl
   rw[q3] at q1
   have q4:cs[i]?=some (.int k zs[i]):=by simpa [World.cell?,h4] using q1
   rw[Array.getElem?_eq_getElem hi1] at q4
   simpa using q4
theorem ginv_tab {W:World} {g:Nat} {name:String} {k:IntKind} {zs:List Int} {v:PV} (hn:P.globalNamed name=some g) (ht:Go.Lib.TabIs P W name k zs) (hv:v = .agg (zs.map (PV.int k))):GInv (glOf [(g,v)]) (imm [] [] W):=by
 intro n v' hv'
 unfold glOf at hv'
 cases hq:Nat.beq n g with
 | false=>rw[hq] at hv';cases hv'
 | true=>
  rw[hq] at hv'
  have e:=Nat.eq_of_beq_eq_true hq
  subst e
  simp only[cond_true,Option.some.injEq] at hv'
  subst hv'
  subst hv
  unfold Go.Lib.TabIs World.var? at ht
  rw[hn] at ht
  simp only[Option.bind_some] at ht
  cases hb:W.heap[n]? with
  | none=>rw[hb] at ht;cases ht
  | some o=>
   rw[hb] at ht
   cases o with
   | cells cs t x=>
    simp only[Option.some.injEq] at ht
    refine⟨.vp _ n 0 (fun j=>(zs.map fun z=>Value.int k z).getD j undef) (fun j y hy=>?_) (fun j y hy=>?_),cs,t,x,zgf hb,by rw[ht];simp [PV.cells]⟩
    ·have hj:j<zs.length:=by have:=z0d hy;simpa [PV.cells] using this
     refine zdm ?_
     simp [World.cell?,hb,ht,hj,List.getD_eq_getElem?_getD]
    ·have hj:j<zs.length:=by have:=z0d hy;simpa [PV.cells] using this
     have e1:y = .int k zs[j]:=by simpa [PV.cells,hj] using hy.symm
     have e2:(zs.map fun z=>Value.int k z).getD j undef = .int k zs[j]:=by simp [List.getD_eq_getElem?_getD,hj]
     rw[e1,e2]
     exact .int k _
   | _=>cases ht
theorem zq3 (w:World) (k:Nat) (os:Array Go.Obj):WExt w (Go.Sort.grow (w.drewN k) os):=by
 refine⟨?_,fun b hb=>?_,rfl⟩
 ·show w.heap.size≤(w.heap++os).size
  simp
 ·show (w.heap++os)[b]?=_
  rw[Array.getElem?_append_left hb]
theorem itoaRow {ρ:Ren} (L:Go.Proofs.LaysM.n171 P ρ) (g:Nat) (hn:P.globalNamed "internal/strconv.uint64pow10" = some g) (hg:gl g=some zaP) (he:∀ us w,(callFunc (ρ.f 171) us).run P w = .ok (.enter (ρ.f 171) us) w):PureRow P gl (ρ.f 171) zh7 where
 enter:=he
 run M w vs r us hc hb hG hl hr hs:=by
  unfold zh7 at hs
  split at hs
  ·rename_i n
   match us,hl with
   | [u],_=>
    have q:=hr 0 _ u rfl rfl
    cases q
    cases hbd:(decide (-9223372036854775808≤n)&&decide (n≤9223372036854775807)) with
    | false=>rw[hbd] at hs;cases hs
    | true=>
     rw[hbd] at hs
     simp only[cond_true,Option.some.injEq] at hs
     subst hs
     simp only[Bool.and_eq_true,decide_eq_true_eq] at hbd
     have hpw:zaP = .agg (Go.Lib.pow10Tab.map (PV.int .u64)):=by unfold zaP Go.Lib.pow10Tab;rw[List.map_map];rfl
     rw[hpw] at hg
     refine (Go.Proofs.Any.strconv_Itoa L n hbd.1 hbd.2 w (tab_of hn hg hc hb hG)).mono fun e w' h=>?_
     obtain⟨rfl,k,os,rfl⟩:=h
     exact⟨_,rfl,zq3 w k os,by rw[zqM];exact .p _ _ (.str _)⟩
  ·cases hs
end Go.Am
end
section
/- The abstract machine,part L3: strconv.Atoi asv a row. -/
set_option linter.all false
namespace Go.Am
variable {P:Program} {gl:Nat→Option PV}
open Go.Shelf
theorem zaJ:∀ (l:List UInt8) (acc n k:Nat),digN acc l=some n→acc<10^k→l.length+k≤18→Go.Lib.parseUint10 acc l = .ok n∧n<10^(k+l.length)
 | [],acc,n,k,h,ha,hl=>by
  simp only[digN,Option.some.injEq] at h
  subst h
  exact⟨rfl,by simpa using ha⟩
 | c::r,acc,n,k,h,ha,hl=>by
  simp only[digN] at h
  split at h
  ·rename_i hc
   simp only[List.length_cons] at hl ⊢
   have h18:10^(k+1)≤10^18:=Nat.pow_le_pow_right (by omega) (by omega)
   have e18:(10:Nat)^18=1000000000000000000:=rfl
   have hp:acc*10+(c.toNat-48)<10^(k+1):=by rw[Nat.pow_succ];omega
   obtain⟨q1,q2⟩:=zaJ r _ n (k+1) h hp (by omega)
   refine⟨?_,by rw[show k+(r.length+1)=k+1+r.length by omega];exact q2⟩
   unfold Go.Lib.parseUint10
   rw[if_pos hc,if_neg (by omega),if_neg (by omega)]
   exact q1
  ·cases h
theorem zqL {s:List UInt8} {n:Nat} (h1:1≤s.length) (h2:s.length≤18) (h:digN 0 s=some n):Go.Lib.atoiAll s = .ok (n:Int):=by
 obtain⟨q1,q2⟩:=zaJ s 0 n 0 h (by simp) (by omega)
 have h18:10^(0+s.length)≤10^18:=Nat.pow_le_pow_right (by omega) (by omega)
 have e18:(10:Nat)^18=1000000000000000000:=rfl
 cases s with
 | nil=>simp at h1
 | cons c r=>
  have hc:48≤c.toNat∧c.toNat≤57:=by
   simp only[digN] at h
   split at h
   ·assumption
   ·cases h
  unfold Go.Lib.atoiAll
  dsimp only
  rw[if_neg (by omega)]
  have hm:Go.Lib.parseMag (c::r) = .ok n:=by unfold Go.Lib.parseMag;rw[if_neg (by simp)];exact q1
  rw[hm]
  dsimp only
  rw[if_neg (by omega),if_neg (by omega),if_neg (by omega)]
theorem znD {s:List UInt8} {n:Nat} (h1:2≤s.length) (h2:s.length≤18) (h0:s.head?=some 45) (h:digN 0 s.tail=some n):Go.Lib.atoiAll s = .ok (-(n:Int)):=by
 cases s with
 | nil=>simp at h1
 | cons c r=>
  simp only[List.head?_cons,Option.some.injEq] at h0
  subst h0
  simp only[List.tail_cons,List.length_cons] at h h1 h2
  obtain⟨q1,q2⟩:=zaJ r 0 n 0 h (by simp) (by omega)
  have h18:10^(0+r.length)≤10^18:=Nat.pow_le_pow_right (by omega) (by omega)
  have e18:(10:Nat)^18=1000000000000000000:=rfl
  have hm:Go.Lib.parseMag r = .ok n:=by
   unfold Go.Lib.parseMag
   rw[if_neg (by intro e;subst e;simp at h1)]
   exact q1
  have e45:(45:UInt8).toNat=45:=rfl
  unfold Go.Lib.atoiAll
  dsimp only
  rw[if_pos (Or.inr e45),hm]
  dsimp only
  rw[if_neg (by simp [e45]),if_neg (by omega),if_pos e45]
theorem zko (w:World) (e:TypeId) (t:ByteArray):WExt w (Go.Lib.bytesWorld w e t):=
 ⟨by rw[Go.Lib.bytesWorld_size];omega,fun b hb=>Go.Lib.bytesWorld_at_old w e t b hb,by unfold zed Go.Lib.bytesWorld World.freeze;split <;> rfl⟩
theorem atoiRow {ρ:Ren} (L:Go.Proofs.LaysC.n172 P ρ) (he:∀ us w,(callFunc (ρ.f 172) us).run P w = .ok (.enter (ρ.f 172) us) w):PureRow P gl (ρ.f 172) zej where
 enter:=he
 run M w vs r us hc hb hG hl hr hs:=by
  unfold zej at hs
  split at hs
  ·rename_i s
   match us,hl with
   | [u],_=>
    have q:=hr 0 _ u rfl rfl
    cases q
    split at hs
    ·rename_i hbd
     have hv:∃ v:Int,Go.Lib.atoiAll s = .ok v∧r = .tup [.p (.int .i64 v),.nili]:=by
      split at hs
      ·rename_i n hn
       simp only[Option.some.injEq] at hs
       exact⟨_,zqL hbd.1 hbd.2 hn,hs.symm⟩
      ·split at hs
       ·rename_i h45
        obtain⟨n,hn,rfl⟩:=Option.map_eq_some_iff.1 hs
        exact⟨_,znD h45.2 hbd.2 h45.1 hn,rfl⟩
       ·cases hs
     obtain⟨n,hn,rfl⟩:=hv
     have hsz:(⟨s.toArray⟩:ByteArray).size=s.length:=by simp [ByteArray.size]
     refine (Go.Proofs.Any.strconv_Atoi_ok L ⟨s.toArray⟩ (by rw[hsz];omega) n hn w).mono fun e w' h=>?_
     obtain⟨rfl,h⟩:=h
     refine⟨_,rfl,?_,?_⟩
     ·rcases h with h | ⟨t,h⟩
      ·rw[h];exact WExt.refl _
      ·rw[h];exact zko _ _ t
     ·refine .tup _ [.int .i64 n,.nilIface] rfl (fun j y v h1 h2=>?_)
      match j with
      | 0=>simp at h1 h2;subst h1;subst h2;exact .p _ _ (.int _ _)
      | 1=>simp at h1 h2;subst h1;subst h2;exact .nili
      | j+2=>simp at h1
    ·cases hs
  ·cases hs
end Go.Am
end
