/- Texts of the proof, laid together: Am18, AmM, AmN, AmA, AmU, Am19. -/
import Derived.MapKept
import Derived.Lib.UnsafeStr
import Derived.Lib.Builder
import Derived.Laws.Externs
import GoSem.Extern.Table
import Derived.Test.YtdnbmbfonpkpfaaGreatDoorlawBO1
set_option linter.all false
section
/- The abstract machine,part 18: conversions,functions,greatest and zy5,new maps. -/
set_option linter.unusedSimpArgs false
set_option linter.unusedVariables false
set_option maxHeartbeats 1000000
namespace Go.Am
variable {h h':Heap} {μ μ':Mu} {w w':World} {P:Program} {M M':Mem}
def z5i (P:Program) (c:Cv) (src dst:TypeId):Bool:=match c with
 | .i k=>(P.underlying src).isSome&&(match P.underlying dst with | some (.int k')=>k==k' | _=>false)
 | .s2b=>(match P.underlying src with | some .string=>true | _=>false)&&(match P.underlying dst with | some (.slice e)=>(match P.underlying e with | some (.int .u8)=>shOf P e==some none | _=>false) | _=>false)
 | .b2s=>(match P.underlying src with | some (.slice e)=>(match P.underlying e with | some (.int .u8)=>shOf P e==some none | _=>false) | _=>false)&&(match P.underlying dst with | some .string=>true | _=>false)
 | .r2s=>(P.underlying src).isSome&&(match P.underlying dst with | some .string=>true | _=>false)
 | .same=>(P.underlying src).isSome&&(match P.underlying dst with | some .string=>true | _=>false)
theorem z48:∀ {xs:List PV} {b:List UInt8},z5s xs=some b→xs=z1a b
 | [],b,h=>by simp [z5s] at h;subst h;rfl
 | x::r,b,h=>by
  unfold z5s at h
  split at h
  ·cases ‹_::_=[]›
  ·rename_i n r' he
   injection he with e1 e2
   subst e1;subst e2
   split at h
   ·rename_i hn
    simp only[Option.map_eq_some_iff] at h
    obtain⟨l,h1,rfl⟩:=h
    rw[z48 h1]
    simp [z1a]
    omega
   ·cases h
  ·cases h
theorem z6V (s:List UInt8) (j:Nat):(z1a s)[j]?=(s[j]?).map fun b=>.int .u8 b.toNat:=by simp [z1a]
theorem zxZ {c:Cv} {src dst:TypeId} (hc:z5i P c src dst=true) {ev:Opd→AV} {p:Opd} {x:Value} {v:AV} {h1:Heap} {e:Esc} (H:HeapRel h μ w) (Rp:RAV (imm h μ w) h μ (ev p) x)
 (he:aop (.conv c p) ev h=some (v,h1,e)):OpOk P (do pure (.value (← convert src dst x))) h μ w v h1 e:=by
 simp only[aop,Option.map_eq_some_iff,Prod.mk.injEq] at he
 obtain⟨⟨u,hh⟩,hconv,rfl,rfl,rfl⟩:=he
 cases c with
 | i k=>
  simp only[z5i,Bool.and_eq_true] at hc
  obtain⟨c1,c2⟩:=hc
  obtain⟨d,hd⟩:=Option.isSome_iff_exists.1 c1
  have hu:P.underlying dst=some (.int k):=by
   split at c2
   ·rename_i k' hk;rw[hk];simp at c2;rw[c2]
   ·cases c2
  simp only[zaj] at hconv
  split at hconv
  ·rename_i hp
   simp only[Option.some.injEq,Prod.mk.injEq] at hconv
   obtain⟨rfl,rfl⟩:=hconv
   rw[hp] at Rp
   rw[Rp.p_int]
   refine OpOk.pure H (z0n (u:=.int k (k.wrap _)) ?_) (.p _ _ (.int _ _))
   simp [convert,z0b hd,z0b hu,Conv.intToInt]
  ·cases hconv
 | s2b=>
  simp only[z5i,Bool.and_eq_true] at hc
  obtain⟨c1,c2⟩:=hc
  have hs:P.underlying src=some .string:=by split at c1 <;> simp_all
  have hd:∃ el,P.underlying dst=some (.slice el)∧P.underlying el=some (.int .u8)∧shOf P el=some none:=by
   split at c2
   ·rename_i el hel
    split at c2
    ·rename_i hu8;exact⟨el,hel,hu8,by simpa using c2⟩
    ·cases c2
   ·cases c2
  obtain⟨el,hd,hu8,hsh⟩:=hd
  simp only[zaj] at hconv
  split at hconv
  ·rename_i s hp
   split at hconv
   ·simp only[Option.some.injEq,Prod.mk.injEq] at hconv
    obtain⟨rfl,rfl⟩:=hconv
    rw[hp] at Rp
    rw[Rp.p_str]
    have hrun:=run_bytes_of_string w src dst el ⟨s.toArray⟩ hs hd hu8
    have hsz:(⟨s.toArray⟩:ByteArray).size=s.length:=rfl
    rw[hsz] at hrun
    generalize hcap:grownCap w s.length 0 el=cap at hrun
    have hle:s.length≤cap:=by rw[← hcap];exact z7l _ _ _ _
    generalize hrow:bytesRow ⟨s.toArray⟩ cap=row at hrun
    have hrs:row.size=cap:=by rw[← hrow];simp [bytesRow,hsz];omega
    have hB:z0H (w.drew.alloc (.cells row el (row.size,row.size+1))) w.heap.size cap row:=⟨hrs,el,row.size,row.size+1,by
     show (w.heap.push _)[w.heap.size]?=_
     simp,fun _=>by omega⟩
    have hW:WExt w (w.drew.alloc (.cells row el (row.size,row.size+1))):=by
     refine⟨?_,fun b hb=>?_,rfl⟩
     ·show w.heap.size≤(w.heap.push _).size
      simp
     ·show (w.heap.push _)[b]?=_
      simp [Array.getElem?_push,Nat.ne_of_lt hb]
    have hlt:w.heap.size<(w.drew.alloc (.cells row el (row.size,row.size+1))).heap.size:=by
     show w.heap.size<(w.heap.push _).size
     simp
    obtain⟨n1,n2⟩:=z5n (sh:=none) (xs:=z1a s) H hW (Nat.le_refl _) hlt hB (by simp [z1a,z0a];omega) (fun x hx=>by
     simp only[z1a,List.mem_map] at hx
     obtain⟨b,_,rfl⟩:=hx
     rfl) (fun i j x y hx hy=>by
     rw[z6V] at hx
     simp only[Option.map_eq_some_iff] at hx
     obtain⟨b,hb,rfl⟩:=hx
     have hj:j=0∧y = .int .u8 b.toNat:=by
      cases j with
      | zero=>simp [PV.cells] at hy;exact⟨rfl,hy.symm⟩
      | succ j=>simp [PV.cells] at hy
     obtain⟨rfl,rfl⟩:=hj
     have hi:=z0f hb
     refine⟨.int .u8 b.toNat,?_,.int _ _⟩
     rw[← hrow]
     have:=bytesRow_at ⟨s.toArray⟩ cap i (by simpa using hi)
     simp only[z0a,Nat.mul_one,Nat.add_zero]
     rw[this]
     have hb':s[i]=b:=by rw[List.getElem?_eq_getElem hi] at hb;simpa using hb
     simp [hb'])
    refine⟨_,_,_,z0n hrun,.inl ⟨_,rfl,?_⟩,n1,n2,z0i.push (by simp [Obj.top])⟩
    refine .own h.length s.length 0 s.length _ cap none (z1a s) 0 (some (w.heap.size,cap)) hle (by simp) (by rw[← H.len];simp) (by simp [z1a]) (by omega) (fun _=>?_)
    right
    exact⟨by simp,by simp [z0a]⟩
   ·cases hconv
  ·cases hconv
 | b2s=>
  simp only[z5i,Bool.and_eq_true] at hc
  obtain⟨c1,c2⟩:=hc
  have hd:P.underlying dst=some .string:=by split at c2 <;> simp_all
  have hs:∃ el,P.underlying src=some (.slice el)∧P.underlying el=some (.int .u8)∧shOf P el=some none:=by
   split at c1
   ·rename_i el hel
    split at c1
    ·rename_i hu8;exact⟨el,hel,hu8,by simpa using c1⟩
    ·cases c1
   ·cases c1
  obtain⟨el,hs,hu8,hsh⟩:=hs
  have hconv':=hconv
  simp only[zaj] at hconv'
  split at hconv'
  ·rename_i y hy
   obtain⟨sh,ys⟩:=y
   simp only[Option.map_eq_some_iff,Prod.mk.injEq] at hconv'
   obtain⟨b,hb,rfl,rfl⟩:=hconv'
   have hys:=z48 hb
   subst hys
   obtain⟨a,cap,rfl,hcap,hrd⟩:=ziq H Rp hy
   have hlen:(z1a b).length=b.length:=by simp [z1a]
   rw[hlen] at *
   refine OpOk.pure H (z0n (u:=.string ⟨b.toArray⟩) ?_) (.p _ _ (.str b))
   cases a with
   | none=>
    have hb0:b=[]:=by
     rcases Classical.em (b=[]) with h0 | h0
     ·exact h0
     ·obtain⟨_,_,_,ha,_⟩:=hrd (by simp [z1a];exact h0)
      cases ha
    subst hb0
    rw[run_convert_bytes_string w src dst el none _ _ hs hu8 hd]
    rfl
   | some a=>
    refine run_convert_bytes_back w src dst el a cap b hs hu8 hd (fun j hj=>?_)
    obtain⟨bb,o,f,ha,hshp,hcell⟩:=hrd (by intro h0;have:=congrArg List.length h0;simp [z1a] at this;rw[this] at hj;simp at hj)
    injection ha with ha
    subst ha
    have hfl:((z1a b).flatMap PV.cells)[j]?=some (.int .u8 b[j].toNat):=by
     rw[zay,z6V,List.getElem?_eq_getElem hj];rfl
    obtain⟨q1,q2⟩:=hcell j _ hfl
    rw[z1m,q1]
    generalize f j=z at q2 ⊢
    cases q2
    rfl
  ·cases hconv'
 | r2s=>
  simp only[z5i,Bool.and_eq_true] at hc
  obtain⟨c1,c2⟩:=hc
  have hd:P.underlying dst=some .string:=by split at c2 <;> simp_all
  simp only[zaj] at hconv
  split at hconv
  ·rename_i k n hp
   split at hconv
   ·rename_i hn
    simp only[Option.some.injEq,Prod.mk.injEq] at hconv
    obtain⟨rfl,rfl⟩:=hconv
    rw[hp] at Rp
    rw[Rp.p_int]
    refine OpOk.pure H (z0n (u:=.string ⟨#[UInt8.ofNat n.toNat]⟩) ?_) ?_
    ·rw[run_convert_int_string w src dst k n c1 hd]
     have hv:Utf8.valid n=true:=by simp [Utf8.valid];omega
     have h2:n.toNat<128:=by omega
     simp [Utf8.encode,hv,h2]
    ·have:=RPV.str (M:=imm h μ w) [UInt8.ofNat n.toNat]
     exact .p _ _ this
   ·cases hconv
  ·cases hconv
 | same=>
  simp only[z5i,Bool.and_eq_true] at hc
  obtain⟨c1,c2⟩:=hc
  have hd:P.underlying dst=some .string:=by split at c2 <;> simp_all
  obtain⟨d,hd1⟩:=Option.isSome_iff_exists.1 c1
  simp only[zaj] at hconv
  split at hconv
  ·rename_i s hp
   simp only[Option.some.injEq,Prod.mk.injEq] at hconv
   obtain⟨rfl,rfl⟩:=hconv
   rw[hp] at Rp
   rw[Rp.p_str]
   refine OpOk.pure H (z0n (u:=.string ⟨s.toArray⟩) ?_) (.p _ _ (.str s))
   simp [convert,z0b hd1,z0b hd]
  ·cases hconv
def z0J:List Opd→List Operand→Bool
 | [],[]=>true
 | a::r,b::s=>z0p a b&&z0J r s
 | _,_=>false
theorem z25:∀ {xs:List Opd} {ys:List Operand},z0J xs ys=true→xs.length=ys.length
 | [],[],_=>rfl
 | [],_::_,h=>by simp [z0J] at h
 | _::_,[],h=>by simp [z0J] at h
 | a::r,b::s,h=>by simp only[z0J,Bool.and_eq_true] at h;simp [z25 h.2]
theorem zu8 {xs:List Opd} {y:Operand} (h:z0J xs [y]=true):∃ q,xs=[q]∧z0p q y=true:=by
 match xs,h with
 | [],h=>simp [z0J] at h
 | [q],h=>exact⟨q,rfl,by simpa [z0J] using h⟩
 | _::_::_,h=>simp [z0J] at h
theorem zu9 {xs:List Opd} {y z:Operand} (h:z0J xs [y,z]=true):∃ q r,xs=[q,r]∧z0p q y=true∧z0p r z=true:=by
 match xs,h with
 | [],h=>simp [z0J] at h
 | [q],h=>simp [z0J] at h
 | [q,r],h=>exact⟨q,r,rfl,by simpa [z0J] using h⟩
 | _::_::_::_,h=>simp [z0J] at h
theorem z2A {ev:Opd→AV} {ρ:Operand→Value} (R:z2g M h μ ev ρ):∀ {xs:List Opd} {ys:List Operand},z0J xs ys=true →
 ∀ (j:Nat) (y:AV) (v:Value),(xs.map ev)[j]?=some y→(ys.map ρ)[j]?=some v→RAV M h μ y v
 | [],[],_,j,y,v,h1,h2=>by simp at h1
 | [],_::_,h,_,_,_,_,_=>by simp [z0J] at h
 | _::_,[],h,_,_,_,_,_=>by simp [z0J] at h
 | a::r,b::s,h,j,y,v,h1,h2=>by
  simp only[z0J,Bool.and_eq_true] at h
  cases j with
  | zero=>simp at h1 h2;subst h1;subst h2;exact R a b h.1
  | succ j=>exact z2A R h.2 j y v (by simpa using h1) (by simpa using h2)
theorem zyJ {f:Nat} {caps:List Opd} {first cs:Array Operand} {ev:Opd→AV} {ρ:Operand→Value} (hc:z0J caps cs.toList=true) (hf:first = #[]) {v:AV} {h1:Heap} {e:Esc} (H:HeapRel h μ w) (R:z2g (imm h μ w) h μ ev ρ)
 (he:aop (.mkfn f caps) ev h=some (v,h1,e)):OpOk P (do pure (.value (← Instr.makeFunc (.func f) (first.map ρ) (cs.map ρ)))) h μ w v h1 e:=by
 simp only[aop,Option.some.injEq,Prod.mk.injEq] at he
 obtain⟨rfl,rfl,rfl⟩:=he
 subst hf
 refine OpOk.pure H (z0n rfl) ?_
 have:=RAV.fn (M:=imm h μ w) (h:=h) (μ:=μ) f (caps.map ev) (cs.toList.map ρ) (by simp [z25 hc]) (fun j y v h1 h2=>z2A R hc j y v h1 h2)
 have h2:(List.map ρ cs.toList).toArray=cs.map ρ:=by rw[← Array.toList_map]
 rw[h2] at this
 have h3:Array.map ρ #[] = #[]:=by simp
 rw[h3]
 exact this
theorem zu3 {t:TypeId} {r:Option Value} (hr:r=none) {ev:Opd→AV} {v:AV} {h1:Heap} {e:Esc} (H:HeapRel h μ w) (he:aop .mkmap ev h=some (v,h1,e)):OpOk P (do pure (.value (← Instr.makeMap t r))) h μ w v h1 e:=by
 simp only[aop,Option.some.injEq,Prod.mk.injEq] at he
 obtain⟨rfl,rfl,rfl⟩:=he
 subst hr
 have hrun:(Instr.makeMap t none).run P w = .ok (.map (some w.heap.size)) { w with heap:=w.heap.push (.map #[] 0) }:=by
  simp only[Instr.makeMap]
  rfl
 obtain⟨n1,n2⟩:=H.push (WExt.push w (.map #[] 0)) (.amap [] 0) (some (w.heap.size,0)) (fun b n e=>by injection e with e;injection e with e1 e2;subst e1;exact⟨Nat.le_refl _,by simp⟩)
  (fun M' E=>⟨w.heap.size,0,#[],rfl,by simp,rfl,fun e he=>(by cases he),fun i e ce he=>(by cases he)⟩)
 exact⟨_,_,_,z0n hrun,.inl ⟨_,rfl,.mp h.length w.heap.size 0 [] 0 (by simp) (by rw[← H.len];simp)⟩,n1,n2,z0i.push (by simp [Obj.top,AV.tops])⟩
theorem zsO {ev:Opd→AV} {xs:List Opd} {l:List PV} (hu:unp (xs.map ev)=some l):xs.length=l.length∧∀ (j:Nat) (y:PV),l[j]?=some y→(xs.map ev)[j]?=some (.p y):=by
 have:=z4R hu
 refine⟨by have:=congrArg List.length this;simpa using this,fun j y hy=>by rw[this];simp [hy]⟩
theorem mx_ok {xs:List Opd} {cs:Array Operand} {ts:Array TypeId} {ty:TypeId} (hc:z0J xs cs.toList=true) {ev:Opd→AV} {ρ:Operand→Value} {v:AV} {h1:Heap} {e:Esc} (H:HeapRel h μ w) (R:z2g (imm h μ w) h μ ev ρ)
 (he:aop (.mx xs) ev h=some (v,h1,e)):OpOk P (do pure (.value (← Builtin.max_ ts ty (cs.map ρ)))) h μ w v h1 e:=by
 simp only[aop] at he
 split at he
 ·rename_i a r hm
  simp only[Option.map_eq_some_iff,Option.bind_eq_some_iff,Prod.mk.injEq] at he
  obtain⟨q,⟨l,hl,hq⟩,rfl,rfl,rfl⟩:=he
  cases xs with
  | nil=>simp at hm
  | cons o os=>
   cases hcs:cs.toList with
   | nil=>rw[hcs] at hc;simp [z0J] at hc
   | cons c cs'=>
    rw[hcs] at hc
    simp only[List.map_cons,List.cons.injEq] at hm
    obtain⟨hm1,hm2⟩:=hm
    simp only[z0J,Bool.and_eq_true] at hc
    subst hm2
    obtain⟨u1,u2⟩:=zsO hl
    have h0:=R o c hc.1
    rw[hm1] at h0
    obtain⟨u,hu,hR⟩:=zcW (w:=w) (P:=P) h0.p_inv (vs:=cs'.map ρ) (by rw[← u1,z25 hc.2];simp) (fun j y v h1 h2=>(z2A R hc.2 j (.p y) v (u2 j y h1) h2).p_inv) hq
    refine OpOk.pure H (z0n (u:=u) ?_) (.p _ _ hR)
    simp only[Builtin.max_,Array.toList_map,hcs,List.map_cons]
    exact hu
 ·cases he
theorem mn_ok {xs:List Opd} {cs:Array Operand} {ts:Array TypeId} {ty:TypeId} (hc:z0J xs cs.toList=true) {ev:Opd→AV} {ρ:Operand→Value} {v:AV} {h1:Heap} {e:Esc} (H:HeapRel h μ w) (R:z2g (imm h μ w) h μ ev ρ)
 (he:aop (.mn xs) ev h=some (v,h1,e)):OpOk P (do pure (.value (← Builtin.min_ ts ty (cs.map ρ)))) h μ w v h1 e:=by
 simp only[aop] at he
 split at he
 ·rename_i a r hm
  simp only[Option.map_eq_some_iff,Option.bind_eq_some_iff,Prod.mk.injEq] at he
  obtain⟨q,⟨l,hl,hq⟩,rfl,rfl,rfl⟩:=he
  cases xs with
  | nil=>simp at hm
  | cons o os=>
   cases hcs:cs.toList with
   | nil=>rw[hcs] at hc;simp [z0J] at hc
   | cons c cs'=>
    rw[hcs] at hc
    simp only[List.map_cons,List.cons.injEq] at hm
    obtain⟨hm1,hm2⟩:=hm
    simp only[z0J,Bool.and_eq_true] at hc
    subst hm2
    obtain⟨u1,u2⟩:=zsO hl
    have h0:=R o c hc.1
    rw[hm1] at h0
    obtain⟨u,hu,hR⟩:=zcX (w:=w) (P:=P) h0.p_inv (vs:=cs'.map ρ) (by rw[← u1,z25 hc.2];simp) (fun j y v h1 h2=>(z2A R hc.2 j (.p y) v (u2 j y h1) h2).p_inv) hq
    refine OpOk.pure H (z0n (u:=u) ?_) (.p _ _ hR)
    simp only[Builtin.min_,Array.toList_map,hcs,List.map_cons]
    exact hu
 ·cases he
end Go.Am
end
section
/- The abstract machine,part M: maps do in the model what they do here. -/
set_option linter.unusedSimpArgs false
set_option linter.unusedVariables false
set_option maxHeartbeats 1000000
namespace Go.Am
variable {h h':Heap} {μ μ':Mu} {w w':World} {P:Program} {M M':Mem}
theorem zh6 {a b:PV} {r:Bool} (he:PV.eq1 a b=some r):a.kind=b.kind∧(r=true↔a=b):=by
 unfold PV.eq1 at he
 split at he
 ·split at he
  ·rename_i hk;subst hk;simp at he;subst he;exact⟨rfl,by simp⟩
  ·cases he
 ·simp at he;subst he;exact⟨rfl,by simp⟩
 ·simp at he;subst he;exact⟨rfl,by simp⟩
 ·cases he
theorem zbN:∀ {asv bs:List PV} {r:Bool},eqs asv bs=some r→asv.map PV.kind=bs.map PV.kind∧(r=true↔asv=bs)
 | [],[],r,h=>by simp [eqs] at h;subst h;simp
 | [],_::_,r,h=>by simp [eqs] at h
 | _::_,[],r,h=>by simp [eqs] at h
 | a::asv,b::bs,r,h=>by
  simp only[eqs] at h
  split at h
  ·rename_i q hq
   simp only[Option.map_eq_some_iff] at h
   obtain⟨r',h1,rfl⟩:=h
   obtain⟨k1,k2⟩:=zh6 hq
   obtain⟨k3,k4⟩:=zbN h1
   refine⟨by simp [k1,k3],?_⟩
   simp only[Bool.and_eq_true,List.cons.injEq,k2,k4]
  ·cases h
theorem zoI {a b:PV} {r:Bool} (he:PV.eqv a b=some r):eqs a.cells b.cells=some r∧(r=true↔a=b):=by
 have sc:∀ {a b:PV},PV.eq1 a b=some r→eqs [a] [b]=some r∧(r=true↔a=b):=fun {a b} h=>by
  refine⟨?_,(zh6 h).2⟩
  simp only[eqs,h];simp
 cases a <;> cases b <;> first | exact⟨he,by rw[(zbN he).2];simp⟩ | exact sc he | cases he
theorem zsm {a:PV} {x y:Value} (hk:a.key=true) (Hx:RPV M a x) (Hy:RPV M' a y):x=y:=by
 cases a with
 | int k n=>cases Hx;cases Hy;rfl
 | bool b=>cases Hx;cases Hy;rfl
 | str s=>cases Hx;cases Hy;rfl
 | sl sh xs=>simp [PV.key] at hk
 | nilp=>simp [PV.key] at hk
 | unk=>simp [PV.key] at hk
 | agg cs=>
  cases Hx with | agg _ vs hl hr=>
  cases Hy with | agg _ us hl' hr'=>
  congr 2
  apply List.ext_getElem (by omega)
  intro i h1 h2
  have hi:i<cs.length:=by omega
  have q1:=hr i cs[i] vs[i] (List.getElem?_eq_getElem hi) (List.getElem?_eq_getElem h1)
  have q2:=hr' i cs[i] us[i] (List.getElem?_eq_getElem hi) (List.getElem?_eq_getElem h2)
  simp only[PV.key] at hk
  have:=List.all_eq_true.1 hk _ (List.getElem_mem hi)
  generalize cs[i]=c at *
  generalize vs[i]=v1 at *
  generalize us[i]=v2 at *
  cases c <;> simp at this
  ·cases q1;cases q2;rfl
  ·cases q1;cases q2;rfl
  ·cases q1;cases q2;rfl
def zbI (P:Program) (kt:TypeId) (kk:Sh × List Nat):Bool:=shOf P kt==some kk.1&&z5k P 20 kt kk.2==some []&&kk.2.length==z0a kk.1
theorem z7e {sh:Sh} {a:PV} {x:Value} (hs:a.shp sh=true) (R:RPV M a x):∃ xs:List Value,(z47 sh fun j=>(xs[0+j]?).getD undef)=x∧Cs M a.cells xs 0∧a.cells.length=z0a sh:=by
 cases sh with
 | none=>
  have hc:a.cells=[a]:=by cases a <;> first | rfl | (simp [PV.shp,PV.sc] at hs)
  refine⟨[x],by simp [z47],⟨by rw[hc];simp,fun j b v h1 h2=>?_⟩,by rw[hc];rfl⟩
  rw[hc] at h1
  cases j with
  | zero=>simp at h1 h2;subst h1;subst h2;exact R
  | succ j=>simp at h1
 | some n=>
  cases a with
  | agg cs=>
   cases R with | agg _ vs hl hr=>
   simp only[PV.shp,Bool.and_eq_true,beq_iff_eq] at hs
   refine⟨vs,?_,⟨by simp [PV.cells];omega,fun j b v h1 h2=>hr j b v h1 (by simpa using h2)⟩,hs.1⟩
   simp only[z47]
   congr 2
   apply List.ext_getElem (by simp;omega)
   intro i h1 h2
   simp [h2]
  | _=>simp [PV.shp] at hs
theorem zpu {kk:Sh × List Nat} {v:AV} {key:PV} (hk:z2c kk v=some key):v = .p key∧key.key=true∧key.shp kk.1=true∧key.cells.map PV.kind=kk.2:=by
 unfold z2c at hk
 split at hk
 ·split at hk
  ·rename_i h1
   injection hk with hk
   subst hk
   simp only[Bool.and_eq_true,beq_iff_eq] at h1
   exact⟨rfl,h1.1.1,h1.1.2,h1.2⟩
  ·cases hk
 ·cases hk
structure KeyAt (P:Program) (M:Mem) (kt:TypeId) (kk:Sh × List Nat) (key:PV) (kv:Value):Prop where
 ct:zbI P kt kk=true
 ok:key.key=true
 shp:key.shp kk.1=true
 kinds:key.cells.map PV.kind=kk.2
 rel:RPV M key kv
theorem KeyAt.equal {kt:TypeId} {kk:Sh × List Nat} {key:PV} {kv:Value} (K:KeyAt P M kt kk key kv) {k2:PV} {kv2:Value} (R2:RPV M k2 kv2) (h2:k2.key=true) {r:Bool} (he:PV.eqv key k2=some r) :
 (Op.equal kt kv kv2).run P w = .ok r w:=by
 obtain⟨ct,hkey,hshp,hkinds,R⟩:=K
 unfold zbI at ct
 simp only[Bool.and_eq_true,beq_iff_eq] at ct
 obtain⟨⟨c1,c2⟩,c3⟩:=ct
 have hq:=(zoI he).1
 have hk2:=(zbN hq).1
 have hs2:k2.shp kk.1=true:=by
  cases hsh:kk.1 with
  | none=>
   rw[hsh] at hshp
   cases key <;> simp [PV.shp,PV.sc] at hshp <;> cases k2 <;> simp [PV.shp,PV.sc,PV.eqv,PV.eq1] at he ⊢
  | some n=>
   rw[hsh] at hshp
   cases key with
   | agg cs=>
    cases k2 with
    | agg ds=>
     simp only[PV.shp,Bool.and_eq_true,beq_iff_eq] at hshp ⊢
     have hl:=congrArg List.length hk2
     simp [PV.cells] at hl
     refine⟨by omega,?_⟩
     simp only[PV.key] at h2
     rw[List.all_eq_true] at h2 ⊢
     intro x hx
     have:=h2 x hx
     cases x <;> first | rfl | simp at this
    | _=>simp [PV.eqv,PV.eq1] at he
   | _=>simp [PV.shp] at hshp
 obtain⟨xs,e1,C1,L1⟩:=z7e hshp R
 obtain⟨ys,e2,C2,L2⟩:=z7e hs2 R2
 have:=zzJ (P:=P) (w:=w) (M:=M) 20 kt 9980 kk.2 [] kk.1 xs ys 0 key.cells k2.cells r c2 c1 (by rw[hkinds];simp) hk2 L1 C1 C2 hq
 rw[e1,e2] at this
 exact this
theorem zb0 {d:TypeDesc} {a b:PV} {x y:Value} {r r':Bool} (Rx:RPV M a x) (Ry:RPV M b y) (he:PV.eqv a b=some r) (hs:Instr.sameNow d x y=some r'):r'=r:=by
 unfold PV.eqv at he
 split at he
 ·cases Rx;cases Ry
  unfold Instr.sameNow at hs
  split at hs
  ·rename_i h1 h2;cases h1
  ·rename_i h1 h2;cases h1
  ·rename_i h1 h2;cases h1
  ·cases hs
 ·unfold PV.eq1 at he
  split at he
  ·split at he
   ·rename_i k m k' n hkk
    subst hkk
    cases Rx;cases Ry
    simp only[Option.some.injEq] at he
    unfold Instr.sameNow at hs
    split at hs <;> simp_all
    rw[← hs,← he,z1W]
   ·cases he
  ·cases Rx;cases Ry
   simp only[Option.some.injEq] at he
   unfold Instr.sameNow at hs
   split at hs <;> simp_all
   rw[← hs,← he,z1W]
  ·rename_i s s'
   cases Rx;cases Ry
   simp only[Option.some.injEq] at he
   unfold Instr.sameNow at hs
   split at hs
   ·rename_i h1 _;cases h1
   ·rename_i a b h1 h2
    cases h1;cases h2
    injection hs with hs
    rw[← hs,← he]
    simp [Go.beq_toListBytes,Go.ByteArray.toList_mk,z1W]
   ·rename_i h1 _;cases h1
   ·cases hs
  ·cases he
def z7X (M:Mem) (es:List ME) (ces:List MapEntry):Prop:=es.length=ces.length∧∀ (i:Nat) (e:ME) (ce:MapEntry),es[i]?=some e→ces[i]?=some ce→RPV M e.key ce.key∧e.key.key=true
def z5R (ces:List MapEntry) (off:Nat) (r:Option Nat):Option (Nat × Value):=r.bind fun i=>(ces[i]?).map fun c=>(off+i,c.val)
theorem zbc {ce:MapEntry} {ces:List MapEntry} {off:Nat} {r:Option Nat}:z5R (ce::ces) off (r.map (· + 1))=z5R ces (off+1) r:=by
 cases r with
 | none=>rfl
 | some i=>simp [z5R,show off+(i+1)=off+1+i by omega]
theorem KeyAt.asking {kt:TypeId} {kk:Sh × List Nat} {key:PV} {kv:Value} (K:KeyAt P M kt kk key kv):∀ {es:List ME} {ces:List MapEntry} {off:Nat} {r:Option Nat},z7X M es ces→z1X key es=some r →
 (Instr.findAsking kt kv ces off).run P w = .ok (z5R ces off r) w
 | [],[],off,r,_,h=>by
  simp [z1X] at h
  subst h
  rfl
 | [],_::_,off,r,hr,_=>by simp [z7X] at hr
 | _::_,[],off,r,hr,_=>by simp [z7X] at hr
 | e::es,ce::ces,off,r,hr,h=>by
  obtain⟨k1,k2⟩:=hr.2 0 e ce rfl rfl
  have hr':z7X M es ces:=⟨by have:=hr.1;simpa using this,fun i e' ce' h1 h2=>hr.2 (i+1) e' ce' (by simpa using h1) (by simpa using h2)⟩
  simp only[z1X] at h
  simp only[Instr.findAsking,Sem.run_bind]
  split at h
  ·rename_i hq
   injection h with h
   subst h
   rw[K.equal k1 k2 hq]
   simp [z5R]
  ·rename_i hq
   simp only[Option.map_eq_some_iff] at h
   obtain⟨r',h1,rfl⟩:=h
   rw[K.equal k1 k2 hq]
   simp only[Result.andThen_ok,Bool.false_eq_true,if_false]
   rw[K.asking (off:=off+1) hr' h1,zbc]
  ·cases h
theorem KeyAt.now {kt:TypeId} {kk:Sh × List Nat} {key:PV} {kv:Value} (K:KeyAt P M kt kk key kv) {d:TypeDesc}:∀ {es:List ME} {ces:List MapEntry} {off:Nat} {r:Option Nat} {q:Option (Nat × Value)},z7X M es ces→z1X key es=some r →
 Instr.findNow d kv ces off=some q→q=z5R ces off r
 | [],[],off,r,q,_,h,hq=>by
  simp [z1X] at h
  subst h
  simp [Instr.findNow] at hq
  subst hq
  rfl
 | [],_::_,off,r,q,hr,_,_=>by simp [z7X] at hr
 | _::_,[],off,r,q,hr,_,_=>by simp [z7X] at hr
 | e::es,ce::ces,off,r,q,hr,h,hq=>by
  obtain⟨k1,k2⟩:=hr.2 0 e ce rfl rfl
  have hr':z7X M es ces:=⟨by have:=hr.1;simpa using this,fun i e' ce' h1 h2=>hr.2 (i+1) e' ce' (by simpa using h1) (by simpa using h2)⟩
  simp only[z1X] at h
  simp only[Instr.findNow] at hq
  split at hq
  ·rename_i hs
   injection hq with hq
   subst hq
   split at h
   ·injection h with h
    subst h
    simp [z5R]
   ·rename_i he
    have:=zb0 K.rel k1 he hs
    cases this
   ·cases h
  ·rename_i hs
   split at h
   ·rename_i he
    have:=zb0 K.rel k1 he hs
    cases this
   ·simp only[Option.map_eq_some_iff] at h
    obtain⟨r',h1,rfl⟩:=h
    rw[K.now (off:=off+1) hr' h1 hq,zbc]
   ·cases h
  ·cases hq
theorem KeyAt.ud {kt:TypeId} {kk:Sh × List Nat} {key:PV} {kv:Value} (K:KeyAt P M kt kk key kv):∃ d,P.underlying kt=some d:=by
 have ct:=K.ct
 unfold zbI at ct
 simp only[Bool.and_eq_true,beq_iff_eq] at ct
 cases hu:P.underlying kt with
 | some d=>exact⟨d,rfl⟩
 | none=>have:=ct.1.1;simp [shOf,hu] at this
theorem KeyAt.find {kt:TypeId} {kk:Sh × List Nat} {key:PV} {kv:Value} (K:KeyAt P M kt kk key kv) {es:List ME} {ces:List MapEntry} {r:Option Nat} (hr:z7X M es ces) (h:z1X key es=some r) :
 (Instr.findKey kt kv ces).run P w = .ok (z5R ces 0 r) w:=by
 obtain⟨d,hd⟩:=K.ud
 unfold Instr.findKey
 rw[Sem.run_bind,z0b hd]
 simp only[Result.andThen_ok]
 split
 ·rename_i q hq
  rw[K.now hr h hq];rfl
 ·exact K.asking hr h
def CkAt (P:Program) (w:World) (M:Mem) (em:Bool) (d:Nat) (t:TypeId):Prop:=∀ (m:Nat) (ks rest:List Nat) (sh:Sh) (xs:List Value) (off:Nat) (asv:List PV),z5k P d t ks=some rest→shOf P t=some sh→ks=asv.map PV.kind++rest→asv.length=z0a sh →
 Cs M asv xs off→(Instr.checkKey em (m+d) t (z47 sh fun j=>(xs[off+j]?).getD undef)).run P w = .ok () w
theorem zmw {em:Bool} {d:Nat} (IH:∀ t,CkAt P w M em d t) {m:Nat} {xs:List Value}:∀ {fs:List Field} {i:Nat} {ks rest:List Nat} {asv:List PV},zal P (z5k P d) i fs ks=some rest→ks=asv.map PV.kind++rest →
 Cs M asv xs i→(forIn (m:=Sem) fs PUnit.unit (fun f _=>
  if f.name ≠ "_" then (do
   let v ← part f.type xs.toArray f.offset
   Instr.checkKey em (m+d) f.type v
   pure (.yield PUnit.unit)) else pure (.yield PUnit.unit))).run P w = .ok PUnit.unit w
 | [],i,ks,rest,asv,h,hk,hA=>rfl
 | fl::fs,i,ks,rest,asv,h,hk,hA=>by
  simp only[zal] at h
  split at h
  ·rename_i hfl
   split at h
   ·rename_i sh hsh
    split at h
    ·rename_i ks' hk'
     split at h
     ·rename_i hlen
      obtain⟨pre,h1⟩:=z4B _ _ _ _ hk'
      obtain⟨pre2,h2⟩:=z5S (z4B d) h
      have hpre:pre.length=z0a sh:=by rw[h1] at hlen;simp at hlen;omega
      have hkk:asv.map PV.kind=pre++pre2:=by
       rw[h1,h2,← List.append_assoc] at hk
       exact (List.append_cancel_right hk).symm
      have hla:asv.length=pre.length+pre2.length:=by have:=congrArg List.length hkk;simpa using this
      obtain⟨a1,a2,rfl,ha1⟩:∃ a1 a2,asv=a1++a2∧a1.length=pre.length:=⟨asv.take pre.length,asv.drop pre.length,by simp,by simp;omega⟩
      rw[List.map_append] at hkk
      obtain⟨m1,m2⟩:=List.append_inj hkk (by simpa using ha1)
      have cA1:Cs M a1 xs i:=⟨by have:=hA.1;simp at this;omega,fun j a v hj hv=>hA.2 j a v (z2b hj) hv⟩
      have cA2:Cs M a2 xs (i+z0a sh):=⟨by have:=hA.1;simp at this;omega,fun j a v hj hv=>hA.2 (a1.length+j) a v (by rw[List.getElem?_append_right (by omega)];simpa using hj) (by rw[← hv];congr 1;omega)⟩
      have p1:=z6I (P:=P) (w:=w) (t:=fl.type) hsh (vs:=xs) (off:=i) (by have:=cA1.1;omega)
      have hh:=IH fl.type m ks ks' sh xs i a1 hk' hsh (by rw[h1,m1]) (by omega) cA1
      have ih:=zmw IH (m:=m) h (by rw[h2,m2]) cA2
      simp only[List.forIn_cons,Sem.run_bind,hfl.1,ne_eq,not_false_eq_true,if_true,hfl.2,Result.andThen_ok,p1,hh,Sem.run_pure]
      exact ih
     ·cases h
    ·cases h
   ·cases h
  ·cases h
theorem ck_ok {em:Bool}:∀ (d:Nat) (t:TypeId),CkAt P w M em d t
 | 0,t=>fun m ks rest sh xs off asv h=>by simp [z5k] at h
 | d+1,t=>fun m ks rest sh xs off asv h hsh hk hla hA=>by
  simp only[z5k] at h
  split at h
  ·rename_i fs hu
   split at h
   ·cases h
   ·have hsn:∃ n,sh=some n:=by
     unfold shOf at hsh
     rw[hu] at hsh
     cases hi:P.info? t with
     | none=>rw[hi] at hsh;simp at hsh
     | some i=>rw[hi] at hsh;simp at hsh;exact⟨_,hsh.symm⟩
    obtain⟨n,rfl⟩:=hsn
    show (Instr.checkKey em (m+d+1) t (.agg _)).run P w=_
    simp only[Instr.checkKey,Sem.run_bind,z0b hu,Result.andThen_ok]
    rw[← Array.forIn_toList]
    simp only[z0a] at hla
    have:=zmw (em:=em) (m:=m) (xs:=(List.range n).map fun j=>(xs[off+j]?).getD undef) (ck_ok d) h hk ⟨by simp;omega,fun j a v hj hv=>by
     have hjn:j<n:=by rw[← hla];exact z0f hj
     have hlt:off+j<xs.length:=by have:=hA.1;omega
     simp [hjn,hlt] at hv
     exact hA.2 j a v hj (by rw[← hv];simp [hlt])⟩
    rw[this]
    rfl
  ·split at h
   ·rename_i k r' hnot
    split at h
    ·rename_i hkk
     have hsn:sh=none:=by
      obtain⟨h1,h2⟩:=hkk
      unfold shOf at hsh
      unfold zfR at h1
      split at h1
      ·rename_i hu;rw[hu] at hsh;split at hsh <;> simp_all
      ·rename_i hu;rw[hu] at hsh;split at hsh <;> simp_all
      ·rename_i hu;rw[hu] at hsh;split at hsh <;> simp_all
      ·omega
     subst hsn
     obtain⟨h1,h2⟩:=hkk
     show (Instr.checkKey em (m+d+1) t _).run P w=_
     unfold zfR at h1
     split at h1
     ·rename_i hu;simp [Instr.checkKey,z0b hu]
     ·rename_i hu;simp [Instr.checkKey,z0b hu]
     ·rename_i hu;simp [Instr.checkKey,z0b hu]
     ·omega
    ·cases h
   ·cases h
theorem KeyAt.check {kt:TypeId} {kk:Sh × List Nat} {key:PV} {kv:Value} (K:KeyAt P M kt kk key kv) (em:Bool):(Instr.checkKey em 10000 kt kv).run P w = .ok () w:=by
 obtain⟨ct,hkey,hshp,hkinds,R⟩:=K
 unfold zbI at ct
 simp only[Bool.and_eq_true,beq_iff_eq] at ct
 obtain⟨⟨c1,c2⟩,c3⟩:=ct
 obtain⟨xs,e1,C1,L1⟩:=z7e hshp R
 have:=ck_ok (P:=P) (w:=w) (M:=M) (em:=em) 20 kt 9980 kk.2 [] kk.1 xs 0 key.cells c2 c1 (by rw[hkinds];simp) L1 C1
 rw[e1] at this
 exact this
theorem zfe {a:PV} {x:Value} (hk:a.key=true) (R:RPV M a x):∀ n,2≤n→Instr.sameBits n x x=true:=by
 intro n hn
 obtain⟨m,rfl⟩:∃ m,n=m+2:=⟨n-2,by omega⟩
 cases a with
 | int k n=>cases R;simp [Instr.sameBits]
 | bool b=>cases R;simp [Instr.sameBits]
 | str s=>cases R;simp [Instr.sameBits,MapKept.bytes_beq]
 | sl sh xs=>simp [PV.key] at hk
 | nilp=>simp [PV.key] at hk
 | unk=>simp [PV.key] at hk
 | agg cs=>
  cases R with | agg _ vs hl hr=>
  simp only[Instr.sameBits,beq_self_eq_true,Bool.true_and,List.all_eq_true]
  intro p hp
  obtain⟨i,hi,e⟩:=List.getElem_of_mem hp
  simp only[List.length_zip,Nat.min_self] at hi
  have hi':i<vs.length:=by simpa using hi
  rw[List.getElem_zip] at e
  rw[← e]
  have q1:=hr i cs[i] vs[i] (List.getElem?_eq_getElem (by omega)) (List.getElem?_eq_getElem hi')
  simp only[PV.key] at hk
  have:=List.all_eq_true.1 hk _ (List.getElem_mem (show i<cs.length by omega))
  generalize cs[i]=c at *
  dsimp only
  generalize vs[i]=v at *
  cases c <;> simp at this
  ·cases q1;simp [Instr.sameBits]
  ·cases q1;simp [Instr.sameBits]
  ·cases q1;simp [Instr.sameBits,MapKept.bytes_beq]
theorem KeyAt.stays {kt:TypeId} {kk:Sh × List Nat} {key:PV} {kv:Value} (K:KeyAt P M kt kk key kv):(Instr.keyThatStays kv kv).run P w = .ok kv w:=by
 simp [Instr.keyThatStays,zfe K.ok K.rel 10000 (by omega)]
theorem z4j {key:PV}:∀ {es:List ME} {i:Nat},z1X key es=some (some i)→∃ e,es[i]?=some e∧e.key=key
 | [],i,h=>by simp [z1X] at h
 | e::es,i,h=>by
  simp only[z1X] at h
  split at h
  ·rename_i hq
   injection h with h
   injection h with h
   subst h
   exact⟨e,rfl,((zoI hq).2.1 rfl).symm⟩
  ·simp only[Option.map_eq_some_iff] at h
   obtain⟨r,h1,h2⟩:=h
   cases r with
   | none=>simp at h2
   | some j=>
    simp at h2
    subst h2
    obtain⟨e',h3,h4⟩:=z4j h1
    exact⟨e',by simpa using h3,h4⟩
  ·cases h
theorem z4O {v:AV} {id c:Nat} {es:List ME} (hm:mget h v=some (id,es,c)):v = .mp id∧h[id]?=some (.amap es c):=by
 unfold mget at hm
 split at hm
 ·split at hm
  ·rename_i ho
   simp only[Option.some.injEq,Prod.mk.injEq] at hm
   obtain⟨rfl,rfl,rfl⟩:=hm
   exact⟨rfl,ho⟩
  ·cases hm
 ·cases hm
structure MapAt (h:Heap) (μ:Mu) (w:World) (id:Nat) (es:List ME) (c:Nat) (b:Nat) (n:Nat) (ces:Array MapEntry):Prop where
 ho:h[id]?=some (.amap es c)
 hm:μ[id]?=some (some (b,n))
 hb:w.heap[b]?=some (.map ces c)
 sz:ces.size=es.length
 bd:∀ e∈es,e.born<c
 rel:∀ (i:Nat) (e:ME) (ce:MapEntry),es[i]?=some e→ces[i]?=some ce→RPV (imm h μ w) e.key ce.key∧e.key.key=true∧RAV (imm h μ w) h μ e.val ce.val∧ce.born=e.born
theorem zbi {v:AV} {id c:Nat} {es:List ME} {x:Value} (H:HeapRel h μ w) (R:RAV (imm h μ w) h μ v x) (hm:mget h v=some (id,es,c)):∃ b n ces,x = .map (some b)∧MapAt h μ w id es c b n ces:=by
 obtain⟨rfl,ho⟩:=z4O hm
 cases R with | mp _ b n es' c' ho' hmu=>
 obtain⟨b',n',ces,hb',k1,k2,k4,k3⟩:=H.obj _ _ _ ho hmu
 injection hb' with hb';injection hb' with hb1 hb2
 subst hb1
 exact⟨_,_,ces,rfl,ho,hmu,k1,k2,k4,k3⟩
theorem MapAt.esrel {id c b n:Nat} {es:List ME} {ces:Array MapEntry} (A:MapAt h μ w id es c b n ces):z7X (imm h μ w) es ces.toList:=
 ⟨by simp [A.sz],fun i e ce h1 h2=>by obtain⟨q1,q2,_⟩:=A.rel i e ce h1 (by simpa using h2);exact⟨q1,q2⟩⟩
theorem MapAt.put {id c b n:Nat} {es:List ME} {ces:Array MapEntry} (A:MapAt h μ w id es c b n ces) (H:HeapRel h μ w) {es':List ME} {c':Nat} {ces':Array MapEntry} (hsz:ces'.size=es'.length) (hbd:∀ e∈es',e.born<c')
 (hrel:∀ (i:Nat) (e:ME) (ce:MapEntry),es'[i]?=some e→ces'[i]?=some ce→RPV (imm h μ w) e.key ce.key∧e.key.key=true∧RAV (imm h μ w) h μ e.val ce.val∧ce.born=e.born) :
 HeapRel (h.set id (.amap es' c')) μ (z04 w b (.map ces' c'))∧Evo (imm h μ w) h μ (imm (h.set id (.amap es' c')) μ (z04 w b (.map ces' c'))) (h.set id (.amap es' c')) μ:=by
 have hμ:μ.set id (some (b,n))=μ:=by
  apply List.ext_getElem?
  intro j
  rw[List.getElem?_set]
  split
  ·rename_i hj;subst hj;rw[if_pos (z0f A.hm),A.hm]
  ·rfl
 have:=H.set (w':=z04 w b (.map ces' c')) (id:=id) (o:=.amap es c) (o':=.amap es' c') (m:=some (b,n)) (m':=some (b,n)) A.ho A.hm ⟨⟨_,_,rfl⟩,rfl⟩ rfl (by rw[z1r];exact Nat.le_refl _)
  (fun b' _ hne=>z1V (fun e=>hne n (by rw[e]))) (fun b' n' e=>.inl ⟨n',e⟩) (fun b' n' sh xs fz _ e=>by cases e)
  (fun M' E=>⟨b,n,ces',rfl,z0U A.hb,hsz,hbd,fun i e ce h1 h2=>by
   obtain⟨q1,q2,q3,q4⟩:=hrel i e ce h1 h2
   exact⟨q1.mono E.le,q2,q3.evo E,q4⟩⟩)
  (fun b' n' t e ht=>by
   injection e with e
   injection e with e1 _
   subst e1
   unfold ety at ht
   rw[A.hb] at ht
   cases ht)
 rw[hμ] at this
 exact this
theorem z1e {b c:Nat} {ces:Array MapEntry} (hb:w.heap[b]?=some (.map ces c)):(getObj b).run P w = .ok (.map ces c) w:=MapKept.run_getObj_map hb
theorem z1O {b c:Nat} {ces:Array MapEntry} (o:Go.Obj) (hb:w.heap[b]?=some (.map ces c)):(setObj b o).run P w = .ok () (z04 w b o):=MapKept.run_setObj_map o hb
def z5j (P:Program) (kk:Sh × List Nat) (t:TypeId):Bool:=match P.underlying t with
 | some (.map k _)=>zbI P k kk
 | _=>false
def z6W (P:Program) (kk:Sh × List Nat) (z:AV) (t:TypeId):Bool:=match P.underlying t with
 | some (.map k e)=>zbI P k kk&&(match P.info? e with | some i=>(match i.zero with | some v=>z2F z v | none=>false) | none=>false)
 | _=>false
theorem z8x {kk:Sh × List Nat} {t:TypeId} (hc:z5j P kk t=true):∃ k e,P.underlying t=some (.map k e)∧zbI P k kk=true:=by
 unfold z5j at hc
 split at hc
 ·rename_i k e hu;exact⟨k,e,hu,hc⟩
 ·cases hc
theorem z8y {kk:Sh × List Nat} {z:AV} {t:TypeId} (hc:z6W P kk z t=true):∃ k e v,P.underlying t=some (.map k e)∧zbI P k kk=true∧z2F z v=true∧∀ w,(zeroValue e).run P w = .ok v w:=by
 unfold z6W at hc
 split at hc
 ·rename_i k e hu
  simp only[Bool.and_eq_true] at hc
  obtain⟨c1,c2⟩:=hc
  split at c2
  ·rename_i i hi
   split at c2
   ·rename_i v hv
    refine⟨k,e,v,hu,c1,c2,fun w=>?_⟩
    unfold zeroValue
    rw[Sem.run_bind,z02 hi]
    simp [hv]
   ·cases c2
  ·cases c2
 ·cases hc
theorem zhY {kk:Sh × List Nat} {kt:TypeId} (hc:zbI P kt kk=true) {v:AV} {key:PV} {x:Value} (hk:z2c kk v=some key) (R:RAV (imm h μ w) h μ v x):KeyAt P (imm h μ w) kt kk key x:=by
 obtain⟨rfl,k1,k2,k3⟩:=zpu hk
 exact⟨hc,k1,k2,k3,R.p_inv⟩
theorem z4M {ces:List MapEntry} {i:Nat} {ce:MapEntry} (hc:ces[i]?=some ce):z5R ces 0 (some i)=some (i,ce.val):=by simp [z5R,hc]
theorem zae {es:List ME} {i:Nat} {v:AV}:AV.tops ((es.modify i fun e=>{ e with val:=v }).map ME.val)≤max (AV.tops (es.map ME.val)) v.top:=by
 refine z49 (fun j y hy=>?_)
 rw[List.getElem?_map,List.getElem?_modify] at hy
 simp only[Option.map_eq_map,Option.map_eq_some_iff] at hy
 obtain⟨e,he,rfl⟩:=hy
 obtain⟨e0,he0,rfl⟩:=he
 have h0:(es.map ME.val)[j]?=some e0.val:=by simp [he0]
 have:=z4h h0
 split
 ·show v.top≤_;omega
 ·show e0.val.top≤_;omega
theorem zfr {es:List ME} {e:ME}:AV.tops ((es++[e]).map ME.val)≤max (AV.tops (es.map ME.val)) e.val.top:=by
 rw[List.map_append,z2r]
 simp [AV.tops]
theorem zjS {es:List ME} {i:Nat}:AV.tops ((es.eraseIdx i).map ME.val)≤AV.tops (es.map ME.val):=by
 refine z49 (fun j y hy=>?_)
 have hm:y∈(es.eraseIdx i).map ME.val:=by
  obtain⟨hj,e⟩:=List.getElem?_eq_some_iff.1 hy
  rw[← e];exact List.getElem_mem _
 obtain⟨e,he,rfl⟩:=List.mem_map.1 hm
 have he':=(List.eraseIdx_sublist es i).subset he
 obtain⟨k,hk,ek⟩:=List.getElem_of_mem he'
 have:(es.map ME.val)[k]?=some e.val:=by simp [hk,ek]
 exact z4h this
theorem zm4 {z:AV} {v:Value} (hc:z2F z v=true):z.top=0:=by
 have:=(z0Q (M:=⟨fun _ _=>none,fun _=>none,none,fun _=>none⟩) (h:=[]) (μ:=[]) hc).top_le
 simpa using this
theorem zyG {kk:Sh × List Nat} {ok:Bool} {z:AV} {t:TypeId} (hc:z6W P kk z t=true) {ev:Opd→AV} {p q:Opd} {x y:Value} {v:AV} {h1:Heap} {e:Esc} (H:HeapRel h μ w) (Rp:RAV (imm h μ w) h μ (ev p) x) (Rq:RAV (imm h μ w) h μ (ev q) y)
 (he:aop (.look kk ok z p q) ev h=some (v,h1,e)):OpOk P (do pure (.value (← Instr.lookup t x y ok))) h μ w v h1 e:=by
 obtain⟨kt,et,zv,hu,hkt,hz,hzr⟩:=z8y hc
 have Rz:RAV (imm h μ w) h μ z zv:=z0Q hz
 simp only[aop] at he
 split at he
 ·rename_i key hk
  have K:=zhY hkt hk Rq
  have fin:∀ {es:List ME} {ces:Array MapEntry} {r:Option Nat},z7X (imm h μ w) es ces.toList→(∀ (i:Nat) (e:ME) (ce:MapEntry),es[i]?=some e→ces[i]?=some ce→RAV (imm h μ w) h μ e.val ce.val) →
   z1X key es=some r→(Instr.lookup t x y ok).run P w=(do
    Instr.checkKey ces.isEmpty 10000 kt y
    let q ← Instr.findKey kt y ces.toList
    match q with
    | some (_,v)=>do
     let z ← pure (v,true)
     pure (if ok=true then .tuple #[z.1,.bool z.2] else z.1)
    | none=>do
     let u ← zeroValue et
     let z ← pure (u,false)
     pure (if ok=true then .tuple #[z.1,.bool z.2] else z.1):Sem Value).run P w →
   some ((bif ok then AV.tup [((r.bind (es[·]?)).map ME.val).getD z,pbool ((r.bind (es[·]?)).map ME.val).isSome] else ((r.bind (es[·]?)).map ME.val).getD z),h,([]:Esc))=some (v,h1,e) →
   OpOk P (do pure (.value (← Instr.lookup t x y ok))) h μ w v h1 e:=by
   intro es ces r hr hv hf hg hres
   simp only[Option.some.injEq,Prod.mk.injEq] at hres
   obtain⟨rfl,rfl,rfl⟩:=hres
   have hfind:=K.find (w:=w) hr hf
   have hck:=K.check (w:=w) ces.isEmpty
   rw[Sem.run_bind,hck] at hg
   simp only[Result.andThen_ok] at hg
   rw[Sem.run_bind,hfind] at hg
   simp only[Result.andThen_ok] at hg
   have done:∀ (u:Value) (b:Bool),RAV (imm h μ w) h μ (((r.bind (es[·]?)).map ME.val).getD z) u→b=((r.bind (es[·]?)).map ME.val).isSome →
    (Instr.lookup t x y ok).run P w = .ok (if ok=true then .tuple #[u,.bool b] else u) w→OpOk P (do pure (.value (← Instr.lookup t x y ok))) h μ w (bif ok then AV.tup [((r.bind (es[·]?)).map ME.val).getD z,pbool ((r.bind (es[·]?)).map ME.val).isSome] else ((r.bind (es[·]?)).map ME.val).getD z) h []:=by
    intro u b Ru hb hrun
    refine OpOk.pure H (z0n hrun) ?_
    cases ok with
    | false=>simpa using Ru
    | true=>
     simp only[cond_true,if_true]
     refine .tup _ [u,.bool b] rfl (fun j a c h1 h2=>?_)
     match j with
     | 0=>cases h1;cases h2;exact Ru
     | 1=>cases h1;cases h2;rw[hb];exact RAV.pbool _
     | j+2=>simp at h1
   cases r with
   | none=>exact done zv false Rz rfl (by rw[hg];simp [z5R,hzr])
   | some i=>
    obtain⟨e0,he0,_⟩:=z4j hf
    have hi:i<ces.size:=by have:=z0f he0;have:=hr.1;simp at this;omega
    have hce:ces[i]?=some ces[i]:=Array.getElem?_eq_getElem hi
    refine done ces[i].val true ?_ (by simp [he0]) (by rw[hg,z4M (ce:=ces[i]) (by simpa using hce)];simp)
    simp only[Option.bind_some,he0,Option.map_some,Option.getD_some]
    exact hv i e0 _ he0 hce
  split at he
  ·rename_i es hes
   split at he
   ·rename_i r hf
    split at hes
    ·rename_i hp
     injection hes with hes
     subst hes
     rw[hp] at Rp
     cases Rp
     exact fin (ces:=#[]) ⟨rfl,fun i e ce h1=>by simp at h1⟩ (fun i e ce h1=>by simp at h1) hf (by
      unfold Instr.lookup
      rw[Sem.run_bind,z0b hu]
      rfl) he
    ·simp only[Option.map_eq_some_iff] at hes
     obtain⟨⟨id,es',c⟩,hm,rfl⟩:=hes
     obtain⟨b,n,ces,rfl,A⟩:=zbi H Rp hm
     refine fin (ces:=ces) A.esrel (fun i e ce h1 h2=>(A.rel i e ce h1 h2).2.2.1) hf ?_ he
     unfold Instr.lookup
     rw[Sem.run_bind,z0b hu]
     simp only[Result.andThen_ok]
     rw[Sem.run_bind,z1e A.hb]
     rfl
   ·cases he
  ·cases he
 ·cases he
theorem z4d {ces:Array MapEntry} {i:Nat} {ce:MapEntry} (hc:ces[i]?=some ce) (d:Value):((ces[i]?).map (·.key)).getD d=ce.key:=by simp [hc]
theorem zbo {M:Mem} {es:List ME} {ces:Array MapEntry} {i:Nat} {kv:Value} {key:PV} {v:AV} {x:Value} (hk:∀ e,es[i]?=some e→e.key=key) (Rk:RPV M key kv) (Rv:RAV M h μ v x)
 (hrel:∀ (i:Nat) (e:ME) (ce:MapEntry),es[i]?=some e→ces[i]?=some ce→RPV M e.key ce.key∧e.key.key=true∧RAV M h μ e.val ce.val∧ce.born=e.born) :
 ∀ (j:Nat) (e:ME) (ce:MapEntry),(es.modify i fun e=>{ e with val:=v })[j]?=some e→(ces.modify i fun e=>{ e with key:=kv,val:=x })[j]?=some ce→RPV M e.key ce.key∧e.key.key=true∧RAV M h μ e.val ce.val∧ce.born=e.born:=by
 intro j e ce h1 h2
 rw[List.getElem?_modify] at h1
 simp only[Option.map_eq_map,Option.map_eq_some_iff] at h1
 simp only[Array.getElem?_modify] at h2
 obtain⟨e0,he0,rfl⟩:=h1
 by_cases hij:i=j
 ·subst hij
  simp only[if_true,Option.map_eq_some_iff] at h2 ⊢
  obtain⟨c0,hc0,rfl⟩:=h2
  obtain⟨q1,q2,q3,q4⟩:=hrel i e0 c0 he0 hc0
  exact⟨by rw[hk e0 he0];exact Rk,q2,Rv,q4⟩
 ·rw[if_neg hij] at h2
  rw[if_neg hij]
  exact hrel j e0 ce he0 h2
theorem zir {M:Mem} {es:List ME} {ces:Array MapEntry} {e1:ME} {c1:MapEntry} (hsz:ces.size=es.length) (h1:RPV M e1.key c1.key∧e1.key.key=true∧RAV M h μ e1.val c1.val∧c1.born=e1.born)
 (hrel:∀ (i:Nat) (e:ME) (ce:MapEntry),es[i]?=some e→ces[i]?=some ce→RPV M e.key ce.key∧e.key.key=true∧RAV M h μ e.val ce.val∧ce.born=e.born) :
 ∀ (j:Nat) (e:ME) (ce:MapEntry),(es++[e1])[j]?=some e→(ces.push c1)[j]?=some ce→RPV M e.key ce.key∧e.key.key=true∧RAV M h μ e.val ce.val∧ce.born=e.born:=by
 intro j e ce ha hb
 rcases z1P ha with ha | ⟨rfl,rfl⟩
 ·have hj:=z0f ha
  rw[Array.getElem?_push,if_neg (by omega)] at hb
  exact hrel j e ce ha hb
 ·rw[Array.getElem?_push,if_pos (by omega)] at hb
  injection hb with hb
  subst hb
  exact h1
theorem zqj {kk:Sh × List Nat} {t:TypeId} (hc:z5j P kk t=true) {ev:Opd→AV} {m k u:Opd} {x y z:Value} {v:AV} {h1:Heap} {e:Esc} (H:HeapRel h μ w) (Rm:RAV (imm h μ w) h μ (ev m) x) (Rk:RAV (imm h μ w) h μ (ev k) y) (Ru:RAV (imm h μ w) h μ (ev u) z)
 (he:aop (.mupd kk m k u) ev h=some (v,h1,e)):OpOk P (do Instr.mapUpdate t x y z;pure .skip) h μ w v h1 e:=by
 obtain⟨kt,et,hu,hkt⟩:=z8x hc
 simp only[aop] at he
 split at he
 ·rename_i key id es c hk hm hok
  have K:=zhY hkt hk Rk
  obtain⟨b,n,ces,rfl,A⟩:=zbi H Rm hm
  have hck:=K.check (w:=w) false
  split at he
  ·rename_i i hf
   simp only[Option.some.injEq,Prod.mk.injEq] at he
   obtain⟨rfl,rfl,rfl⟩:=he
   obtain⟨e0,he0,hek⟩:=z4j hf
   have hi:i<ces.size:=by have:=z0f he0;have:=A.sz;omega
   have hce:ces[i]?=some ces[i]:=Array.getElem?_eq_getElem hi
   obtain⟨q1,q2,q3,q4⟩:=A.rel i e0 _ he0 hce
   have hkv:ces[i].key=y:=zsm (by rw[hek];exact K.ok) q1 (by rw[hek];exact K.rel)
   have hfind:=K.find (w:=w) A.esrel hf
   rw[z4M (ce:=ces[i]) (by simpa using hce)] at hfind
   have hrun:(Instr.mapUpdate t (.map (some b)) y z).run P w = .ok () (z04 w b (.map (ces.modify i fun e=>{ e with key:=y,val:=z }) c)):=by
    unfold Instr.mapUpdate
    rw[Sem.run_bind,z0b hu]
    simp only[Result.andThen_ok]
    rw[Sem.run_bind,z1e A.hb]
    simp only[Result.andThen_ok]
    rw[Sem.run_bind,hck]
    simp only[Result.andThen_ok]
    rw[Sem.run_bind,hfind]
    simp only[Result.andThen_ok]
    rw[Sem.run_bind,z4d hce,hkv,K.stays]
    simp only[Result.andThen_ok]
    exact z1O _ A.hb
   obtain⟨n1,n2⟩:=A.put H (es':=es.modify i fun e=>{ e with val:=ev u }) (c':=c) (ces':=ces.modify i fun e=>{ e with key:=y,val:=z }) (by simp [A.sz])
    (fun e he=>by
     obtain⟨j,hj,ej⟩:=List.getElem_of_mem he
     have:(es.modify i fun e=>{ e with val:=ev u })[j]?=some e:=by rw[List.getElem?_eq_getElem hj,ej]
     rw[List.getElem?_modify] at this
     simp only[Option.map_eq_map,Option.map_eq_some_iff] at this
     obtain⟨e',he',rfl⟩:=this
     have:=A.bd e' (by obtain⟨q,e⟩:=List.getElem?_eq_some_iff.1 he';rw[← e];exact List.getElem_mem _)
     split <;> exact this)
    (zbo (fun e he=>by rw[he0] at he;injection he with he;rw[← he];exact hek) K.rel Ru A.rel)
   exact⟨_,_,_,zuQ hrun,.inr ⟨rfl,rfl⟩,n1,n2,z0i.set A.ho (by
    have:=zae (es:=es) (i:=i) (v:=ev u)
    have:=z1S id (ev u)
    simp only[Obj.top];omega)⟩
  ·rename_i hf
   simp only[Option.some.injEq,Prod.mk.injEq] at he
   obtain⟨rfl,rfl,rfl⟩:=he
   have hfind:=K.find (w:=w) A.esrel hf
   have hrun:(Instr.mapUpdate t (.map (some b)) y z).run P w = .ok () (z04 w b (.map (ces.push { key:=y,val:=z,born:=c }) (c+1))):=by
    unfold Instr.mapUpdate
    rw[Sem.run_bind,z0b hu]
    simp only[Result.andThen_ok]
    rw[Sem.run_bind,z1e A.hb]
    simp only[Result.andThen_ok]
    rw[Sem.run_bind,hck]
    simp only[Result.andThen_ok]
    rw[Sem.run_bind,hfind]
    simp only[z5R,Option.bind_none,Result.andThen_ok]
    exact z1O _ A.hb
   obtain⟨n1,n2⟩:=A.put H (es':=es++[⟨key,ev u,c⟩]) (c':=c+1) (ces':=ces.push { key:=y,val:=z,born:=c }) (by simp [A.sz])
    (fun e he=>by
     rw[List.mem_append,List.mem_singleton] at he
     rcases he with he | rfl
     ·have:=A.bd e he;omega
     ·exact Nat.lt_succ_self _)
    (zir A.sz ⟨K.rel,K.ok,Ru,rfl⟩ A.rel)
   exact⟨_,_,_,zuQ hrun,.inr ⟨rfl,rfl⟩,n1,n2,z0i.set A.ho (by
    have:=zfr (es:=es) (e:=⟨key,ev u,c⟩)
    have:=z1S id (ev u)
    simp only[Obj.top];dsimp only at *;omega)⟩
  ·cases he
 ·cases he
theorem zyI {kk:Sh × List Nat} {z:AV} {t:TypeId} (hc:z6W P kk z t=true) {ev:Opd→AV} {m k:Opd} {x y:Value} {v:AV} {h1:Heap} {e:Esc} (H:HeapRel h μ w) (Rm:RAV (imm h μ w) h μ (ev m) x) (Rk:RAV (imm h μ w) h μ (ev k) y)
 (he:aop (.ment kk z m k) ev h=some (v,h1,e)):OpOk P (do pure (.value (← Instr.mapEntry t x y))) h μ w v h1 e:=by
 obtain⟨kt,et,zv,hu,hkt,hz,hzr⟩:=z8y hc
 have Rz:RAV (imm h μ w) h μ z zv:=z0Q hz
 simp only[aop] at he
 split at he
 ·rename_i key id es c hk hm
  have K:=zhY hkt hk Rk
  obtain⟨b,n,ces,rfl,A⟩:=zbi H Rm hm
  have hck:=K.check (w:=w) false
  split at he
  ·rename_i i hf
   simp only[Option.map_eq_some_iff,Prod.mk.injEq] at he
   obtain⟨e0,he0,rfl,rfl,rfl⟩:=he
   have hek:e0.key=key:=by
    obtain⟨e1,h2,h3⟩:=z4j hf
    rw[he0] at h2;injection h2 with h2;rw[h2];exact h3
   have hi:i<ces.size:=by have:=z0f he0;have:=A.sz;omega
   have hce:ces[i]?=some ces[i]:=Array.getElem?_eq_getElem hi
   obtain⟨q1,q2,q3,q4⟩:=A.rel i e0 _ he0 hce
   have hkv:ces[i].key=y:=zsm (by rw[hek];exact K.ok) q1 (by rw[hek];exact K.rel)
   have hfind:=K.find (w:=w) A.esrel hf
   rw[z4M (ce:=ces[i]) (by simpa using hce)] at hfind
   have hsame:ces.modify i (fun e=>{ e with key:=y })=ces:=by
    apply Array.ext_getElem?
    intro j
    rw[Array.getElem?_modify]
    split
    ·rename_i hij;subst hij
     rw[hce];simp [← hkv]
    ·rfl
   have hrun:(Instr.mapEntry t (.map (some b)) y).run P w = .ok (.tuple #[ces[i].val,goInt e0.born]) w:=by
    unfold Instr.mapEntry
    rw[Sem.run_bind,z0b hu]
    simp only[Result.andThen_ok]
    rw[Sem.run_bind,z1e A.hb]
    simp only[Result.andThen_ok]
    rw[Sem.run_bind,hck]
    simp only[Result.andThen_ok]
    rw[Sem.run_bind,hfind]
    simp only[Result.andThen_ok]
    rw[Sem.run_bind,z4d hce,hkv,K.stays]
    simp only[Result.andThen_ok]
    rw[Sem.run_bind,hsame,z1O _ A.hb,z5r A.hb]
    simp [hce,q4]
   refine OpOk.pure H (z0n hrun) (.tup _ [ces[i].val,goInt e0.born] rfl (fun j a c h1 h2=>?_))
   match j with
   | 0=>simp at h1 h2;subst h1;subst h2;exact q3
   | 1=>simp at h1 h2;subst h1;subst h2;exact RAV.pint _
   | j+2=>simp at h1
  ·rename_i hf
   simp only[Option.some.injEq,Prod.mk.injEq] at he
   obtain⟨rfl,rfl,rfl⟩:=he
   have hfind:=K.find (w:=w) A.esrel hf
   have hrun:(Instr.mapEntry t (.map (some b)) y).run P w = .ok (.tuple #[zv,goInt c]) (z04 w b (.map (ces.push { key:=y,val:=zv,born:=c }) (c+1))):=by
    unfold Instr.mapEntry
    rw[Sem.run_bind,z0b hu]
    simp only[Result.andThen_ok]
    rw[Sem.run_bind,z1e A.hb]
    simp only[Result.andThen_ok]
    rw[Sem.run_bind,hck]
    simp only[Result.andThen_ok]
    rw[Sem.run_bind,hfind]
    simp only[z5R,Option.bind_none,Result.andThen_ok]
    rw[Sem.run_bind,hzr]
    simp only[Result.andThen_ok]
    rw[Sem.run_bind,z1O _ A.hb]
    rfl
   obtain⟨n1,n2⟩:=A.put H (es':=es++[⟨key,z,c⟩]) (c':=c+1) (ces':=ces.push { key:=y,val:=zv,born:=c }) (by simp [A.sz])
    (fun e he=>by
     rw[List.mem_append,List.mem_singleton] at he
     rcases he with he | rfl
     ·have:=A.bd e he;omega
     ·exact Nat.lt_succ_self _)
    (zir A.sz ⟨K.rel,K.ok,Rz,rfl⟩ A.rel)
   refine⟨_,_,_,z0n hrun,.inl ⟨_,rfl,.tup _ [zv,goInt c] rfl (fun j a c' h1 h2=>?_)⟩,n1,n2,z0i.set A.ho (by
    have h3:=zfr (es:=es) (e:=⟨key,z,c⟩)
    have h4:=zm4 hz
    simp only[Obj.top,z1i];dsimp only at *;omega)⟩
   match j with
   | 0=>simp at h1 h2;subst h1;subst h2;exact z0Q hz
   | 1=>simp at h1 h2;subst h1;subst h2;exact RAV.pint _
   | j+2=>simp at h1
  ·cases he
 ·cases he
theorem zoK {t:TypeId} {ev:Opd→AV} {m s u:Opd} {x y z:Value} {v:AV} {h1:Heap} {e:Esc} (H:HeapRel h μ w) (Rm:RAV (imm h μ w) h μ (ev m) x) (Rs:RAV (imm h μ w) h μ (ev s) y) (Ru:RAV (imm h μ w) h μ (ev u) z)
 (he:aop (.estore m s u) ev h=some (v,h1,e)):OpOk P (do Instr.entryStore t x y z;pure .skip) h μ w v h1 e:=by
 simp only[aop] at he
 split at he
 ·rename_i id es c bn hm hs hok
  obtain⟨b,n,ces,rfl,A⟩:=zbi H Rm hm
  obtain⟨kk,rfl⟩:=z1Y hs Rs
  split at he
  ·rename_i i hf
   simp only[Option.some.injEq,Prod.mk.injEq] at he
   obtain⟨rfl,rfl,rfl⟩:=he
   rw[List.findIdx?_eq_some_iff_getElem] at hf
   obtain⟨hi,hb1,hb2⟩:=hf
   have he0:es[i]?=some es[i]:=List.getElem?_eq_getElem hi
   have hi':i<ces.size:=by have:=A.sz;omega
   have hce:ces[i]?=some ces[i]:=Array.getElem?_eq_getElem hi'
   obtain⟨q1,q2,q3,q4⟩:=A.rel i _ _ he0 hce
   have hfi:ces.findIdx? (fun e=>(e.born:Int)==(bn:Int))=some i:=by
    rw[Array.findIdx?_eq_some_iff_getElem]
    refine⟨hi',?_,fun j hj=>?_⟩
    ·simp only[beq_iff_eq] at hb1 ⊢;rw[q4,hb1]
    ·have hj1:j<es.length:=by omega
     have hj2:j<ces.size:=by omega
     obtain⟨_,_,_,q5⟩:=A.rel j _ _ (List.getElem?_eq_getElem hj1) (Array.getElem?_eq_getElem hj2)
     have:=hb2 j hj
     simp only[beq_iff_eq] at this ⊢
     rw[q5];omega
   have hrun:(Instr.entryStore t (.map (some b)) (.int kk bn) z).run P w = .ok () (z04 w b (.map (ces.modify i fun e=>{ e with val:=z }) c)):=by
    unfold Instr.entryStore
    dsimp only
    rw[Sem.run_bind,z1e A.hb]
    simp only[Result.andThen_ok]
    rw[Sem.run_bind]
    have:(asInt (.int kk (bn:Int))).run P w = .ok (bn:Int) w:=by simp [asInt,asIntOf]
    rw[this]
    simp only[Result.andThen_ok,hfi]
    exact z1O _ A.hb
   have hmod:ces.modify i (fun e=>{ e with val:=z })=ces.modify i (fun e=>{ e with key:=ces[i].key,val:=z }):=by
    apply Array.ext_getElem?
    intro j
    rw[Array.getElem?_modify,Array.getElem?_modify]
    split
    ·rename_i hij;subst hij;rw[hce];rfl
    ·rfl
   rw[hmod] at hrun
   obtain⟨n1,n2⟩:=A.put H (es':=es.modify i fun e=>{ e with val:=ev u }) (c':=c) (ces':=ces.modify i fun e=>{ e with key:=ces[i].key,val:=z }) (by simp [A.sz])
    (fun e he=>by
     obtain⟨j,hj,ej⟩:=List.getElem_of_mem he
     have:(es.modify i fun e=>{ e with val:=ev u })[j]?=some e:=by rw[List.getElem?_eq_getElem hj,ej]
     rw[List.getElem?_modify] at this
     simp only[Option.map_eq_map,Option.map_eq_some_iff] at this
     obtain⟨e',he',rfl⟩:=this
     have:=A.bd e' (by obtain⟨q,e⟩:=List.getElem?_eq_some_iff.1 he';rw[← e];exact List.getElem_mem _)
     split <;> exact this)
    (zbo (key:=es[i].key) (fun e he=>by rw[he0] at he;injection he with he;rw[← he]) q1 Ru A.rel)
   exact⟨_,_,_,zuQ hrun,.inr ⟨rfl,rfl⟩,n1,n2,z0i.set A.ho (by
    have:=zae (es:=es) (i:=i) (v:=ev u)
    have:=z1S id (ev u)
    simp only[Obj.top];omega)⟩
  ·cases he
 ·cases he
theorem zyH {kk:Sh × List Nat} {t ty:TypeId} {ts:List TypeId} (hc:z5j P kk t=true) {ev:Opd→AV} {m k:Opd} {x y:Value} {v:AV} {h1:Heap} {e:Esc} (H:HeapRel h μ w) (Rm:RAV (imm h μ w) h μ (ev m) x) (Rk:RAV (imm h μ w) h μ (ev k) y)
 (he:aop (.mdel kk m k) ev h=some (v,h1,e)):OpOk P (do pure (.value (← Builtin.delete_ (t::ts).toArray ty #[x,y]))) h μ w v h1 e:=by
 obtain⟨kt,et,hu,hkt⟩:=z8x hc
 simp only[aop] at he
 split at he
 ·rename_i key id es c hk hm
  have K:=zhY hkt hk Rk
  obtain⟨b,n,ces,rfl,A⟩:=zbi H Rm hm
  have hck:=K.check (w:=w) ces.isEmpty
  split at he
  ·rename_i i hf
   simp only[Option.some.injEq,Prod.mk.injEq] at he
   obtain⟨rfl,rfl,rfl⟩:=he
   obtain⟨e0,he0,hek⟩:=z4j hf
   have hi:i<ces.size:=by have:=z0f he0;have:=A.sz;omega
   have hce:ces[i]?=some ces[i]:=Array.getElem?_eq_getElem hi
   have hfind:=K.find (w:=w) A.esrel hf
   rw[z4M (ce:=ces[i]) (by simpa using hce)] at hfind
   have hrun:(Builtin.delete_ (t::ts).toArray ty #[.map (some b),y]).run P w = .ok (.tuple #[]) (z04 w b (.map (ces.eraseIdxIfInBounds i) c)):=by
    unfold Builtin.delete_
    simp only[List.getElem?_toArray,List.getElem?_cons_zero,List.getElem?_cons_succ]
    rw[Sem.run_bind,z0b hu]
    simp only[Result.andThen_ok]
    simp only[Sem.run_bind]
    simp [z1e A.hb,hck,hfind,z1O _ A.hb]
   have herase:∀ j:Nat,(ces.eraseIdxIfInBounds i)[j]?=(ces.toList.eraseIdx i)[j]?:=by
    intro j
    unfold Array.eraseIdxIfInBounds
    rw[dif_pos hi,← Array.getElem?_toList,Array.toList_eraseIdx]
   obtain⟨n1,n2⟩:=A.put H (es':=es.eraseIdx i) (c':=c) (ces':=ces.eraseIdxIfInBounds i)
    (by unfold Array.eraseIdxIfInBounds;rw[dif_pos hi,Array.size_eraseIdx,List.length_eraseIdx_of_lt (z0f he0),A.sz])
    (fun e he=>A.bd e ((List.eraseIdx_sublist _ _).subset he))
    (fun j e ce h1 h2=>by
     rw[herase,List.getElem?_eraseIdx] at h2
     rw[List.getElem?_eraseIdx] at h1
     split at h1
     ·rename_i hj;rw[if_pos hj] at h2;exact A.rel j e ce h1 (by simpa using h2)
     ·rename_i hj;rw[if_neg hj] at h2;exact A.rel (j+1) e ce h1 (by simpa using h2))
   exact⟨_,_,_,z0n hrun,.inl ⟨_,rfl,.und _⟩,n1,n2,z0i.set A.ho (by
    have:=zjS (es:=es) (i:=i)
    simp only[Obj.top,z1i];omega)⟩
  ·rename_i hf
   simp only[Option.some.injEq,Prod.mk.injEq] at he
   obtain⟨rfl,rfl,rfl⟩:=he
   have hfind:=K.find (w:=w) A.esrel hf
   have hrun:(Builtin.delete_ (t::ts).toArray ty #[.map (some b),y]).run P w = .ok (.tuple #[]) w:=by
    unfold Builtin.delete_
    simp only[List.getElem?_toArray,List.getElem?_cons_zero,List.getElem?_cons_succ]
    rw[Sem.run_bind,z0b hu]
    simp only[Result.andThen_ok]
    simp only[Sem.run_bind]
    simp [z1e A.hb,hck,hfind,z5R,z1O _ A.hb,z5r A.hb]
   exact OpOk.pure H (z0n hrun) (.und _)
  ·cases he
 ·cases he
end Go.Am
end
section
/- The abstract machine,part N: ranges over maps,whatever the order. -/
set_option linter.unusedSimpArgs false
set_option linter.unusedVariables false
set_option maxHeartbeats 1000000
namespace Go.Am
variable {h h':Heap} {μ μ':Mu} {w w':World} {P:Program} {M M':Mem}
def zbJ (P:Program) (t:TypeId):Bool:=match P.underlying t with
 | some (.map _ _)=>true
 | _=>false
theorem z9T {b s l:Nat} {m:Option Nat} {seen:Array Nat} (hb:w.heap[b]?=some (.mapIter m s seen l)):(getObj b).run P w = .ok (.mapIter m s seen l) w:=by
 simp [getObj,Sem.run,hb]
theorem zsn {b s l:Nat} {m:Option Nat} {seen:Array Nat} (o':Go.Obj) (hb:w.heap[b]?=some (.mapIter m s seen l)):(setObj b o').run P w = .ok () (z04 w b o'):=by
 simp [setObj,Sem.run,hb,z04]
theorem zqi {t:TypeId} (hc:zbJ P t=true) {ev:Opd→AV} {p:Opd} {x:Value} {v:AV} {h1:Heap} {e:Esc} (H:HeapRel h μ w) (Rp:RAV (imm h μ w) h μ (ev p) x)
 (he:aop (.mrange p) ev h=some (v,h1,e)):OpOk P (do pure (.value (← Instr.range t x))) h μ w v h1 e:=by
 have hu:∃ a b,P.underlying t=some (.map a b):=by
  unfold zbJ at hc
  split at hc
  ·rename_i a b hu;exact⟨a,b,hu⟩
  ·cases hc
 obtain⟨ka,kb,hu⟩:=hu
 simp only[aop] at he
 split at he
 ·rename_i id es c hm
  simp only[Option.some.injEq,Prod.mk.injEq] at he
  obtain⟨rfl,rfl,rfl⟩:=he
  obtain⟨b,n,ces,rfl,A⟩:=zbi H Rp hm
  have hrun:(Instr.range t (.map (some b))).run P w = .ok (.pointer (some ⟨w.heap.size,0,none⟩)) { w with heap:=w.heap.push (.mapIter (some b) c #[] c) }:=by
   unfold Instr.range
   rw[Sem.run_bind,z0b hu]
   simp only[Result.andThen_ok]
   rw[Sem.run_bind,z1e A.hb]
   simp only[Result.andThen_ok]
   rfl
  obtain⟨n1,n2⟩:=H.push (WExt.push w (.mapIter (some b) c #[] c)) (.iter (some id) c [] c) (some (w.heap.size,0)) (fun b n e=>by injection e with e;injection e with e1 e2;subst e1;exact⟨Nat.le_refl _,by simp⟩)
   (fun M' E=>⟨w.heap.size,0,rfl,⟨b,n,es,c,z2b A.hm,z2b A.ho,by simp⟩⟩)
  exact⟨_,_,_,z0n hrun,.inl ⟨_,rfl,.it h.length w.heap.size 0 (some id) c [] c (by simp) (by rw[← H.len];simp)⟩,n1,n2,z0i.push (by
   have:=z0f A.ho
   simp only[Obj.top];omega)⟩
 ·split at he
  ·rename_i hp
   simp only[Option.some.injEq,Prod.mk.injEq] at he
   obtain⟨rfl,rfl,rfl⟩:=he
   rw[hp] at Rp
   cases Rp
   have hrun:(Instr.range t (.map none)).run P w = .ok (.pointer (some ⟨w.heap.size,0,none⟩)) { w with heap:=w.heap.push (.mapIter none 0 #[] 0) }:=by
    unfold Instr.range
    rw[Sem.run_bind,z0b hu]
    simp only[Result.andThen_ok]
    rfl
   obtain⟨n1,n2⟩:=H.push (WExt.push w (.mapIter none 0 #[] 0)) (.iter none 0 [] 0) (some (w.heap.size,0)) (fun b n e=>by injection e with e;injection e with e1 e2;subst e1;exact⟨Nat.le_refl _,by simp⟩)
    (fun M' E=>⟨w.heap.size,0,rfl,fun _=>by simp⟩)
   exact⟨_,_,_,z0n hrun,.inl ⟨_,rfl,.it h.length w.heap.size 0 none 0 [] 0 (by simp) (by rw[← H.len];simp)⟩,n1,n2,z0i.push (by simp [Obj.top])⟩
  ·cases he
theorem zfO {id:Nat} {mm:Option Nat} {since:Nat} {seen:List Nat} {last:Nat} {x:Value} (H:HeapRel h μ w) (R:RAV (imm h μ w) h μ (.it id) x) (hi:h[id]?=some (.iter mm since seen last)) :
 ∃ b n,x = .pointer (some ⟨b,0,none⟩)∧μ[id]?=some (some (b,n))∧(match (generalizing:=false) mm with
  | none=>since=0→w.heap[b]?=some (.mapIter none 0 #[] 0)
  | some i=>∃ bm nm es c,μ[i]?=some (some (bm,nm))∧h[i]?=some (.amap es c)∧w.heap[b]?=some (.mapIter (some bm) since seen.toArray last)):=by
 cases R with | it _ b n m s sn l ho hm=>
 obtain⟨b',n',hb',k1⟩:=H.obj _ _ _ hi hm
 injection hb' with hb';injection hb' with hb1 hb2
 subst hb1
 exact⟨_,_,rfl,hm,k1⟩
theorem zqg {ev:Opd→AV} {p:Opd} {x:Value} {v:AV} {h1:Heap} {e:Esc} (H:HeapRel h μ w) (Rp:RAV (imm h μ w) h μ (ev p) x)
 (he:aop (.mentry p) ev h=some (v,h1,e)):OpOk P (do pure (.value (← Instr.entry x))) h μ w v h1 e:=by
 simp only[aop] at he
 split at he
 ·rename_i id hp
  split at he
  ·rename_i mi since seen last hi
   split at he
   ·rename_i mid es c bo hm hl
    rw[hp] at Rp
    obtain⟨b,n,rfl,hmu,bm,nm,es',c',k1,k2,k3⟩:=zfO H Rp hi
    split at he
    ·rename_i hcl
     simp only[Option.map_eq_some_iff,Prod.mk.injEq] at he
     obtain⟨e0,hf,rfl,rfl,rfl⟩:=he
     have hm2:h[mi]?=some (.amap es c):=by
      have:=(z4O hm).2
      have:=(z4O hm).1
      injection this with this
      subst this
      assumption
     have hmi:mid=mi:=by have:=(z4O hm).1;injection this with this;exact this.symm
     rw[k2] at hm2
     injection hm2 with hm2
     injection hm2 with q1 q2
     subst q1;subst q2
     obtain⟨b3,n3,ces,hb3,w1,w2,w4,w3⟩:=H.obj _ _ _ k2 k1
     injection hb3 with hb3;injection hb3 with hb31 hb32
     subst hb31
     rw[List.find?_eq_some_iff_getElem] at hf
     obtain⟨hb0,i,hi1,hei,hlt⟩:=hf
     have hi2:i<ces.size:=by omega
     obtain⟨q1,q2,q3,q4⟩:=w3 i _ _ (List.getElem?_eq_getElem hi1) (Array.getElem?_eq_getElem hi2)
     have hfind:ces.find? (·.born==bo)=some ces[i]:=by
      rw[Array.find?_eq_some_iff_getElem]
      refine⟨by rw[q4,hei];exact hb0,i,hi2,rfl,fun j hj=>?_⟩
      obtain⟨_,_,_,q5⟩:=w3 j _ _ (List.getElem?_eq_getElem (show j<es'.length by omega)) (Array.getElem?_eq_getElem (show j<ces.size by omega))
      have:=hlt j hj
      rw[q5];simpa using this
     have hback:seen.toArray.back?=some bo:=by rw[List.back?_toArray];exact hl
     have hrun:(Instr.entry (.pointer (some ⟨b,0,none⟩))).run P w = .ok (.tuple #[ces[i].key,ces[i].val]) w:=by
      unfold Instr.entry
      simp only[Sem.run_bind,Sem.run_pure,Result.andThen_ok,z9T k3,hback,z1e w1,hcl,hfind]
      simp
     refine OpOk.pure H (z0n hrun) (.tup _ [ces[i].key,ces[i].val] rfl (fun j a c h1 h2=>?_))
     rw[hei] at q1 q3
     match j with
     | 0=>simp at h1 h2;subst h1;subst h2;exact .p _ _ q1
     | 1=>simp at h1 h2;subst h1;subst h2;exact q3
     | j+2=>simp at h1
    ·cases he
   ·cases he
  ·cases he
 ·cases he
theorem zuy {es:List ME} {ces:Array MapEntry} {seen:List Nat} (hsz:ces.size=es.length) (hb:∀ (i:Nat) (e:ME) (ce:MapEntry),es[i]?=some e→ces[i]?=some ce→ce.born=e.born) :
 ∀ ce∈(ces.filter fun e=>!seen.toArray.contains e.born).toList,∃ (i:Nat) (e:ME),es[i]?=some e∧ces[i]?=some ce∧e∈es.filter fun e=>!seen.contains e.born:=by
 intro ce hce
 rw[Array.toList_filter,List.mem_filter] at hce
 obtain⟨h1,h2⟩:=hce
 obtain⟨i,hi,rfl⟩:=List.getElem_of_mem h1
 have hi1:i<ces.size:=by simpa using hi
 have hi2:i<es.length:=by omega
 have hc:ces[i]?=some ces[i]:=Array.getElem?_eq_getElem hi1
 have:=hb i _ _ (List.getElem?_eq_getElem hi2) hc
 refine⟨i,es[i],List.getElem?_eq_getElem hi2,by simpa using hc,?_⟩
 rw[List.mem_filter]
 refine⟨List.getElem_mem _,?_⟩
 rw[← this]
 simpa using h2
theorem zeE {es:List ME} {ces:Array MapEntry} {seen:List Nat} (hsz:ces.size=es.length) (hb:∀ (i:Nat) (e:ME) (ce:MapEntry),es[i]?=some e→ces[i]?=some ce→ce.born=e.born)
 (h0:(ces.filter fun e=>!seen.toArray.contains e.born) = #[]):es.filter (fun e=>!seen.contains e.born)=[]:=by
 rw[List.filter_eq_nil_iff]
 intro e he
 obtain⟨i,hi,rfl⟩:=List.getElem_of_mem he
 have hi2:i<ces.size:=by omega
 have:=hb i _ _ (List.getElem?_eq_getElem hi) (Array.getElem?_eq_getElem hi2)
 rw[Array.filter_eq_empty_iff] at h0
 have:=h0 ces[i] (Array.getElem_mem hi2)
 simp_all
theorem zu4 {ty:TypeId} {ev:Opd→AV} {p:Opd} {x:Value} {l:List (AV × Heap)} (H:HeapRel h μ w) (Rp:RAV (imm h μ w) h μ (ev p) x)
 (he:zeI h (ev p)=some l):∃ y∈l,OpOk P (do pure (.value (← Instr.next x false ty))) h μ w y.1 y.2 []:=by
 unfold zeI at he
 split at he
 ·rename_i id hp
  rw[hp] at Rp
  split at he
  ·rename_i s sn ls hi
   obtain⟨b,n,rfl,hmu,k1⟩:=zfO H Rp hi
   split at he
   case isFalse=>cases he
   rename_i hs0
   injection he with he
   subst he
   have k1:=k1 hs0
   refine⟨_,List.mem_singleton.2 rfl,?_⟩
   have hrun:(Instr.next (.pointer (some ⟨b,0,none⟩)) false ty).run P w = .ok (.tuple #[.bool false]) w:=by
    unfold Instr.next
    simp [z9T k1]
   refine OpOk.pure H (z0n hrun) (.tup _ [.bool false] rfl (fun j a c h1 h2=>?_))
   match j with
   | 0=>simp at h1 h2;subst h1;subst h2;exact RAV.pbool _
   | j+1=>simp at h1
  ·rename_i mi since seen last hi
   obtain⟨b,n,rfl,hmu,bm,nm,es',c',k1,k2,k3⟩:=zfO H Rp hi
   split at he
   ·rename_i mid es c hm
    have hm2:=(z4O hm).2
    have hmi:mi=mid:=by have:=(z4O hm).1;injection this
    subst hmi
    rw[k2] at hm2
    injection hm2 with hm2
    injection hm2 with q1 q2
    subst q1;subst q2
    obtain⟨b3,n3,ces,hb3,w1,w2,w4,w3⟩:=H.obj _ _ _ k2 k1
    injection hb3 with hb3;injection hb3 with hb31 hb32
    subst hb31
    split at he
    ·rename_i hcs
     obtain⟨rfl,rfl⟩:=hcs
     have hbo:∀ (i:Nat) (e:ME) (ce:MapEntry),es'[i]?=some e→ces[i]?=some ce→ce.born=e.born:=fun i e ce a1 a2=>(w3 i e ce a1 a2).2.2.2
     have hblt:∀ ce∈ces,ce.born<last:=by
      intro ce hce
      obtain⟨i,hi1,rfl⟩:=Array.getElem_of_mem hce
      have hi2:i<es'.length:=by omega
      rw[hbo i _ _ (List.getElem?_eq_getElem hi2) (Array.getElem?_eq_getElem hi1)]
      exact w4 _ (List.getElem_mem hi2)
     have huns:(!seen.toArray.isEmpty && !ces.isEmpty&&ces.all (fun e=>decide (e.born≥last)))=false:=by
      cases hz:ces.isEmpty with
      | true=>simp
      | false=>
       have h0:0<ces.size:=by
        rcases Nat.eq_zero_or_pos ces.size with q | q
        ·rw[Array.isEmpty_iff_size_eq_zero.2 q] at hz;cases hz
        ·exact q
       have:ces.all (fun e=>decide (e.born≥last))=false:=by
        rw[Bool.eq_false_iff]
        intro hall
        rw[Array.all_eq_true_iff_forall_mem] at hall
        have q1:=hall ces[0] (Array.getElem_mem h0)
        have q2:=hblt ces[0] (Array.getElem_mem h0)
        simp at q1;omega
       simp [this]
     have hold:(ces.filter fun e=>!seen.toArray.contains e.born).filter (fun e=>decide (e.born<last))=ces.filter fun e=>!seen.toArray.contains e.born:=by
      rw[Array.filter_eq_self]
      intro ce hce
      rw[Array.mem_filter] at hce
      simpa using hblt ce hce.1
     have hnew:(ces.filter fun e=>!seen.toArray.contains e.born).filter (fun e=>decide (e.born≥last)) = #[]:=by
      rw[Array.filter_eq_empty_iff]
      intro ce hce
      rw[Array.mem_filter] at hce
      have:=hblt ce hce.1
      simp;omega
     generalize hL:(ces.filter fun e=>!seen.toArray.contains e.born)=L at *
     have hbody:∀ (q:Nat) (w1':World),(choose (.mapNext ((if L.isEmpty then #[none] else #[])++(L ++ #[]).map some).size)).run P w = .ok q w1'→WExt w w1' →
      (Instr.next (.pointer (some ⟨b,0,none⟩)) false ty).run P w=(match ((if L.isEmpty then #[none] else #[])++(L ++ #[]).map some)[q]? with
       | some (some e)=>(do setObj b (.mapIter (some bm) last (seen.toArray.push e.born) last);pure (.tuple #[.bool true,e.key,e.val]):Sem Value)
       | some none=>pure (.tuple #[.bool false])
       | none=>stuck "Next: no such candidate").run P w1':=by
      intro q w1' hch _
      unfold Instr.next
      simp only[Sem.run_bind,Sem.run_pure,Result.andThen_ok,z9T k3,z1e w1,huns,Bool.false_eq_true,if_false,hL,hold,hnew,hch]
      rfl
     have hlen:es'.filter (fun e=>!seen.contains e.born)=[]∨L ≠ #[]:=by
      by_cases h0:L = #[]
      ·left;exact zeE w2 hbo (by rw[hL];exact h0)
      ·right;exact h0
     by_cases h0:L = #[]
     ·subst h0
      have hnil:=zeE w2 hbo hL
      rw[hnil] at he
      injection he with he
      subst he
      refine⟨_,List.mem_singleton.2 rfl,?_⟩
      have hch:(choose (.mapNext ((if (#[]:Array MapEntry).isEmpty then #[none] else #[])++((#[]:Array MapEntry) ++ #[]).map some).size)).run P w = .ok 0 w:=by
       simp [Question.forced]
      have:=hbody 0 w hch (WExt.refl w)
      have hrun:(Instr.next (.pointer (some ⟨b,0,none⟩)) false ty).run P w = .ok (.tuple #[.bool false]) w:=by
       rw[this];simp
      have hμ:μ.set id (some (b,n))=μ:=by
       apply List.ext_getElem?
       intro j
       rw[List.getElem?_set]
       split
       ·rename_i hj;subst hj;rw[if_pos (z0f hmu),hmu]
       ·rfl
      have:=H.set (w':=w) (id:=id) (o:=.iter (some mi) last seen last) (o':=.iter none 1 [] 0) (m:=some (b,n)) (m':=some (b,n)) hi hmu ⟨⟨_,_,_,_,rfl⟩,rfl⟩ rfl (Nat.le_refl _)
       (fun b' _ hne=>rfl) (fun b' n' e=>.inl ⟨n',e⟩) (fun b' n' sh xs fz _ e=>by cases e)
       (fun M' E=>⟨b,n,rfl,fun e=>by cases e⟩) (fun _ _ _ _ h=>h)
      rw[hμ] at this
      obtain⟨n1,n2⟩:=this
      refine⟨_,_,_,z0n hrun,.inl ⟨_,rfl,.tup _ [.bool false] rfl (fun j a c h1 h2=>?_)⟩,n1,n2,z0i.set hi (by simp only[Obj.top,z1i];omega)⟩
      match j with
      | 0=>simp at h1 h2;subst h1;subst h2;exact RAV.pbool _
      | j+1=>simp at h1
     ·have hne:L.isEmpty=false:=by
       cases hz:L.isEmpty with
       | false=>rfl
       | true=>exact absurd (Array.isEmpty_iff.1 hz) h0
      have hpos:0<L.size:=by
       rcases Nat.eq_zero_or_pos L.size with q | q
       ·exact absurd (Array.eq_empty_of_size_eq_zero q) h0
       ·exact q
      have hcand:((if L.isEmpty then #[none] else #[])++(L ++ #[]).map some)=L.map some:=by rw[hne];simp
      obtain⟨q,w1',hch,hq,hext⟩:∃ q w1',(choose (.mapNext ((if L.isEmpty then #[none] else #[])++(L ++ #[]).map some).size)).run P w = .ok q w1'∧q<L.size∧WExt w w1':=by
       rw[hcand]
       simp only[Array.size_map,run_choose,Question.forced,Question.cut]
       by_cases h1:L.size≤1
       ·exact⟨0,w,by simp [h1],by omega,WExt.refl w⟩
       ·exact⟨w.tape w.drawn (Question.mapNext L.size)%L.size,{ w with drawn:=w.drawn+1 },by simp [h1],Nat.mod_lt _ hpos,WExt.drew w _⟩
      have hb:=hbody q w1' hch hext
      rw[hcand] at hb
      have hLq:(L.map some)[q]?=some (some L[q]):=by simp [hq]
      rw[hLq] at hb
      dsimp only at hb
      obtain⟨i,e,he1,he2,he3⟩:=zuy (seen:=seen) w2 hbo L[q] (by rw[hL];simp)
      have hes:es'.filter (fun e=>!seen.contains e.born)≠[]:=fun hn=>by rw[hn] at he3;cases he3
      have hl:l=(es'.filter (fun e=>!seen.contains e.born)).map fun e=>(.tup [pbool true,.p e.key,e.val],h.set id (.iter (some mi) last (seen++[e.born]) last)):=by
       split at he
       ·rename_i hn;exact absurd hn hes
       ·injection he with he;exact he.symm
      obtain⟨q1,q2,q3,q4⟩:=w3 i e _ he1 he2
      have k3':w1'.heap[b]?=some (.mapIter (some bm) last seen.toArray last):=by rw[hext.right b (z8q k3)];exact k3
      have hrun:(Instr.next (.pointer (some ⟨b,0,none⟩)) false ty).run P w = .ok (.tuple #[.bool true,L[q].key,L[q].val]) (z04 w1' b (.mapIter (some bm) last (seen.toArray.push L[q].born) last)):=by
       rw[hb,Sem.run_bind,zsn _ k3']
       rfl
      obtain⟨H1,E1⟩:=H.ext hext
      have hμ:μ.set id (some (b,n))=μ:=by
       apply List.ext_getElem?
       intro j
       rw[List.getElem?_set]
       split
       ·rename_i hj;subst hj;rw[if_pos (z0f hmu),hmu]
       ·rfl
      have hidm:id≠mi:=fun e=>by subst e;rw[k2] at hi;cases hi
      have:=H1.set (w':=z04 w1' b (.mapIter (some bm) last (seen.toArray.push L[q].born) last)) (id:=id) (o:=.iter (some mi) last seen last) (o':=.iter (some mi) last (seen++[e.born]) last) (m:=some (b,n)) (m':=some (b,n)) hi hmu ⟨⟨_,_,_,_,rfl⟩,rfl⟩ rfl (by rw[z1r];exact Nat.le_refl _)
       (fun b' _ hne=>z1V (fun e=>hne n (by rw[e]))) (fun b' n' e=>.inl ⟨n',e⟩) (fun b' n' sh xs fz _ e=>by cases e)
       (fun M' E=>⟨b,n,rfl,bm,nm,es',last,by rw[List.getElem?_set_ne hidm];exact k1,by rw[List.getElem?_set_ne hidm];exact k2,by
        rw[z0U k3',← q4];simp⟩)
       (fun b' n' t e ht=>by
        injection e with e
        injection e with e1 _
        subst e1
        unfold ety at ht
        rw[k3'] at ht
        cases ht)
      rw[hμ] at this
      obtain⟨n1,n2⟩:=this
      refine⟨(.tup [pbool true,.p e.key,e.val],h.set id (.iter (some mi) last (seen++[e.born]) last)),?_,_,_,_,z0n hrun,.inl ⟨_,rfl,.tup _ [.bool true,L[q].key,L[q].val] rfl (fun j a c h1 h2=>?_)⟩,n1,E1.trans n2,z0i.set hi (by simp only[Obj.top,z1i];omega)⟩
      ·rw[hl];exact List.mem_map.2 ⟨e,he3,rfl⟩
      ·match j with
       | 0=>simp at h1 h2;subst h1;subst h2;exact RAV.pbool _
       | 1=>simp at h1 h2;subst h1;subst h2;exact .p _ _ (q1.mono (E1.trans n2).le)
       | 2=>simp at h1 h2;subst h1;subst h2;exact q3.evo (E1.trans n2)
       | j+3=>simp at h1
    ·cases he
   ·cases he
  ·cases he
 ·cases he
theorem zx7 {sh:Sh} {t u ty:TypeId} (hc:z2K P sh t u=true) {ev:Opd→AV} {p q:Opd} {s x:Value} {l:List (AV × Heap)} (H:HeapRel h μ w) (Rs:RAV (imm h μ w) h μ (ev p) s) (Rx:RAV (imm h μ w) h μ (ev q) x)
 (he:z5l h (some sh) ([p,q].map ev)=some l):∃ y∈l,OpOk P (do pure (.value (← Builtin.append_ #[t,u] ty #[s,x]))) h μ w y.1 y.2 []:=by
 simp only[List.map_cons,List.map_nil,z5l] at he
 unfold appq at he
 split at he
 case h_2=>cases he
 rename_i sh' ys hr
 split at he
 case isFalse=>cases he
 rename_i hsh
 subst hsh
 have S:=z3w (P:=P) H Rx hr
 obtain⟨c,hck,hc2⟩:=S.2 ys.length (Nat.le_refl _)
 rw[List.take_length] at hc2
 have hck0:(Builtin.firstCells (z0a sh') ys.length x).run P w = .ok c w:=hck w.drawn
 split at he
 case h_2=>cases he
 rename_i id g off len hs0
 split at he
 case h_2=>cases he
 rename_i rsh xs fz ho
 split at he
 case isTrue hcond=>
  obtain⟨rfl,hg,hlen,hmax,hfz⟩:=hcond
  injection he with he
  subst he
  rw[hs0] at Rs
  have RR:=z1Q H Rs ho hg
  obtain⟨_,k2,a,cap,rfl,hlc,hcap⟩:=RR
  obtain⟨m,hm,hO⟩:=z4l H ho
  obtain⟨kf,_,kO⟩:=hO
  subst hg
  by_cases hroom:len+ys.length≤cap
  ·by_cases hc0:0<cap
   ·obtain⟨b,n,c',hm',rfl,hB,hn1,hn2,hcell⟩:=hcap hc0
    refine⟨_,List.mem_cons_self,?_⟩
    obtain⟨w',r1,r2,r3,r4⟩:=z2p (P:=P) (at_:=xs.length) H ho hm' hB hc2 hfz (Nat.le_refl _) (Nat.le_trans (Nat.mul_le_mul_right _ (by omega)) hn1)
    rw[z7g] at r2 r3 r4
    have hrun:=z0o (ty:=ty) (base:=some ⟨b,off*z0a rsh,none⟩) (sLen:=len) (sCap:=cap) hc S.1 hck0 hroom (w':=w') (by
     have e:off*z0a rsh+len*z0a rsh=xs.length*z0a rsh:=by rw[← Nat.add_mul,hlen]
     simpa [z1m,e] using r1)
    refine⟨_,_,_,z0n hrun,.inl ⟨_,rfl,?_⟩,r2,r3,r4⟩
    refine .own id (xs.length+ys.length) off (len+ys.length) _ cap rsh (xs++ys) fz (some (b,n)) hroom (z0y ho) hm' (by simp) (by omega) (fun _=>?_)
    right
    exact⟨rfl,hn1⟩
   ·have hl0:len=0:=by omega
    have hy0:ys=[]:=by apply List.length_eq_zero_iff.1;omega
    subst hy0;subst hl0
    have hcap0:cap=0:=by omega
    subst hcap0
    refine⟨_,List.mem_cons_self,?_⟩
    have hrun:=z0o (ty:=ty) (base:=a) (sLen:=0) (sCap:=0) hc S.1 hck0 (by simp) (w':=w) (by
     have:c.toList=[]:=by apply List.length_eq_zero_iff.1;rw[hc2.1];simp
     cases a with
     | none=>rfl
     | some a=>rw[this];rfl)
    have hs:h.set id (.row rsh (xs++[]) fz)=h:=by rw[List.append_nil];exact z0z ho
    rw[hs]
    refine⟨_,_,_,z0n hrun,.inl ⟨_,rfl,?_⟩,H,Evo.refl _ _ _,z0i.refl _ _⟩
    exact Rs
  ·have hr0:rds h (.own id xs.length off len)=some (rsh,win xs off len):=by simp [rds,rd,ho];omega
   have hwl:(win xs off len).length=len:=by simp [win];omega
   obtain⟨newCap,n,w',c',g1,g2,g3,g4,g5,g6,g7,_⟩:=z39 (ty:=ty) (base:=a) (sCap:=cap) (xs:=win xs off len) (v0:=.own id xs.length off len) hc H Rx hr (by omega) (by omega) (by rw[hwl];exact Rs) hr0
   rw[hwl] at g1 g3
   obtain⟨n1,n2⟩:=z5n H g4 (Nat.le_refl _) g5 g6 (by rw[← g2];exact Nat.mul_le_mul_right _ (by rw[List.length_append,hwl];exact g1)) g7.2.1 g7.2.2
   refine⟨_,List.mem_cons_of_mem _ List.mem_cons_self,?_⟩
   refine⟨_,_,_,z0n g3,.inl ⟨_,rfl,?_⟩,n1,n2,z0i.push (by simp [Obj.top])⟩
   refine .own h.length (len+ys.length) 0 (len+ys.length) _ newCap rsh (win xs off len++ys) 0 (some (w.heap.size,n)) g1 (by simp) (by rw[← H.len];simp) (by simp [hwl]) (by simp) (fun _=>?_)
   right
   exact⟨by simp,by rw[← g2];simp⟩
 split at he
 case isFalse=>cases he
 rename_i hcond
 obtain⟨rfl,hg,hlen,hfz,hmax⟩:=hcond
 injection he with he
 subst he
 rw[hs0] at Rs
 have RR:=z1Q H Rs ho hg
 obtain⟨_,k2,a,cap,rfl,hlc,hcap⟩:=RR
 obtain⟨m,hm,hO⟩:=z4l H ho
 obtain⟨kf,_,kO⟩:=hO
 subst hg
 have hsl:∀ zs:List PV,xs.length≤(splice xs (off+len) zs).length:=by intro zs;simp [splice];omega
 have hsl2:∀ zs:List PV,off+len+zs.length≤(splice xs (off+len) zs).length:=by intro zs;simp [splice];omega
 by_cases hroom:len+ys.length≤cap
 ·by_cases hc0:0<cap
  ·obtain⟨b,n,c',hm',rfl,hB,hn1,hn2,hcell⟩:=hcap hc0
   refine⟨_,List.mem_cons_self,?_⟩
   obtain⟨w',r1,r2,r3,r4⟩:=z2p (P:=P) (at_:=off+len) H ho hm' hB hc2 hfz (by omega) (Nat.le_trans (Nat.mul_le_mul_right _ (by omega)) hn1)
   have hrun:=z0o (ty:=ty) (base:=some ⟨b,off*z0a rsh,none⟩) (sLen:=len) (sCap:=cap) hc S.1 hck0 hroom (w':=w') (by
    have e:off*z0a rsh+len*z0a rsh=(off+len)*z0a rsh:=by rw[← Nat.add_mul]
    simpa [z1m,e] using r1)
   refine⟨_,_,_,z0n hrun,.inl ⟨_,rfl,?_⟩,r2,r3,r4⟩
   refine .own id (splice xs (off+len) ys).length off (len+ys.length) _ cap rsh (splice xs (off+len) ys) fz (some (b,n)) hroom (z0y ho) hm' (Nat.le_refl _) (by have:=hsl2 ys;omega) (fun _=>?_)
   right
   exact⟨rfl,hn1⟩
  ·have hl0:len=0:=by omega
   have hy0:ys=[]:=by apply List.length_eq_zero_iff.1;omega
   subst hy0;subst hl0
   have hcap0:cap=0:=by omega
   subst hcap0
   refine⟨_,List.mem_cons_self,?_⟩
   have hrun:=z0o (ty:=ty) (base:=a) (sLen:=0) (sCap:=0) hc S.1 hck0 (by simp) (w':=w) (by
    have:c.toList=[]:=by apply List.length_eq_zero_iff.1;rw[hc2.1];simp
    cases a with
    | none=>rfl
    | some a=>rw[this];rfl)
   have hsp:splice xs (off+0) []=xs:=by simp [splice]
   have hs:h.set id (.row rsh (splice xs (off+0) []) fz)=h:=by rw[hsp];exact z0z ho
   rw[hs]
   refine⟨_,_,_,z0n hrun,.inl ⟨_,rfl,?_⟩,H,Evo.refl _ _ _,z0i.refl _ _⟩
   rw[hsp]
   exact Rs
 ·have hr0:rds h (.own id xs.length off len)=some (rsh,win xs off len):=by simp [rds,rd,ho];omega
  have hwl:(win xs off len).length=len:=by simp [win];omega
  obtain⟨newCap,n,w',c',g1,g2,g3,g4,g5,g6,g7,_⟩:=z39 (ty:=ty) (base:=a) (sCap:=cap) (xs:=win xs off len) (v0:=.own id xs.length off len) hc H Rx hr (by omega) (by omega) (by rw[hwl];exact Rs) hr0
  rw[hwl] at g1 g3
  obtain⟨n1,n2⟩:=z5n H g4 (Nat.le_refl _) g5 g6 (by rw[← g2];exact Nat.mul_le_mul_right _ (by rw[List.length_append,hwl];exact g1)) g7.2.1 g7.2.2
  refine⟨_,List.mem_cons_of_mem _ List.mem_cons_self,?_⟩
  refine⟨_,_,_,z0n g3,.inl ⟨_,rfl,?_⟩,n1,n2,z0i.push (by simp [Obj.top])⟩
  refine .own h.length (len+ys.length) 0 (len+ys.length) _ newCap rsh (win xs off len++ys) 0 (some (w.heap.size,n)) g1 (by simp) (by rw[← H.len];simp) (by simp [hwl]) (by simp) (fun _=>?_)
  right
  exact⟨by simp,by rw[← g2];simp⟩
end Go.Am
end
section
/- The abstract machine: rows whose elements name rows (made,put tov). -/
set_option linter.unusedSimpArgs false
set_option linter.unusedVariables false
namespace Go.Am
variable {h h':Heap} {μ μ':Mu} {w w':World} {P:Program} {M M':Mem}
theorem zqm (H:HeapRel h μ w) (sh:Sh) :
 HeapRel (h++[.arow sh []]) (μ++[none]) w∧Evo (imm h μ w) h μ (imm (h++[.arow sh []]) (μ++[none]) w) (h++[.arow sh []]) (μ++[none]):=
 H.push (WExt.refl w) _ _ (fun b' n e=>by cases e) (fun M' E=>⟨by simp,rfl⟩)
theorem zid {t:Nat} (H:HeapRel h μ w):OpOk P (pure (.value (.slice none 0 0))) h μ w (.bt 3 t h.length 0) (h++[.arow (z2j t) []]) []:=by
 obtain⟨k1,k2⟩:=zqm H (z2j t)
 refine⟨_,_,_,Sem.run_pure ..,.inl ⟨_,rfl,?_⟩,k1,k2,z0i.push (by simp [Obj.top,AV.tops])⟩
 exact .bt3 t h.length 0 none 0 (.arow (z2j t) []) none (Nat.le_refl _) (by simp) (by rw[← H.len];simp) (fun sh cs e=>by
  injection e with e1 e2
  subst e1;subst e2
  exact⟨by simp,fun _=>by simp [z50]⟩)
def chk9 (P:Program) (sh:Sh) (t:TypeId):Bool:=match P.underlying t with
 | some (.slice e)=>shOf P e==some sh&&decide (z0a sh≤2^24)&&decide (z0a sh≠0)&&(match P.info? e with
  | some i=>(match i.zero with | some v=>v.cells.size==z0a sh | none=>false)
  | none=>false)
 | _=>false
theorem zml {t:TypeId} {sh:Sh} {e9:Nat} (hsh:z2j e9=sh) (hc:chk9 P sh t=true) {a:AV} {x:Value} {cs:List AV} (H:HeapRel h μ w) (R:RAV (imm h μ w) h μ a x) (hv:a.cells=some cs) (hl:cs.length=z0a sh) :
 OpOk P (do pure (.value (← Instr.buildSlice t 1 #[(0,x)]))) h μ w (.bt 3 e9 h.length 1) (h++[.arow sh cs]) []:=by
 unfold chk9 at hc
 split at hc
 case h_2=>cases hc
 rename_i el hu
 simp only[Bool.and_eq_true,beq_iff_eq,decide_eq_true_eq] at hc
 obtain⟨⟨⟨c1,c4⟩,c5⟩,c6⟩:=hc
 split at c6
 case h_2=>cases c6
 rename_i i hi
 split at c6
 case h_2=>cases c6
 rename_i zv hz
 simp only[beq_iff_eq] at c6
 obtain⟨s1,s2⟩:=z15 R hv
 obtain⟨c0,hc0⟩:∃ c0:Array Value,c0=(Array.range (1*z0a sh)).map (fun k=>zv.cells[k%zv.cells.size]!):=⟨_,rfl⟩
 have h0:c0.size=z0a sh:=by rw[hc0];simp
 have hsz:0+x.cells.toList.length≤c0.size:=by rw[h0];simp [s1,hl]
 have hrun:(Instr.buildSlice t 1 #[(0,x)]).run P w = .ok (.slice (some ⟨w.heap.size,0,none⟩) 1 1) { w with heap:=w.heap.push (.cells (z09 c0 0 x.cells.toList) el (0,0)) }:=by
  unfold Instr.buildSlice
  rw[Sem.run_bind,z0b hu]
  simp only[Result.andThen_ok,Sem.run_bind,z0v c1]
  rw[if_neg (by omega),if_neg (by omega)]
  have hf:Instr.fill (fun i=>some (i*z0a sh,z0a sh)) c0 [(0,x)]=some (z09 c0 0 x.cells.toList):=by
   simp only[Instr.fill]
   have hneg:¬ ((decide (x.cells.size≠z0a sh)||decide (0*z0a sh+x.cells.size>c0.size))=true):=by
    simp [s1,hl,h0]
   rw[if_neg hneg,z7b,Nat.zero_mul]
  simp only[Sem.run_bind,z6J hi hz,Result.andThen_ok,Sem.run_pure,← hc0,hf,z0w]
 have hB:z0H { w with heap:=w.heap.push (.cells (z09 c0 0 x.cells.toList) el (0,0)) } w.heap.size (z09 c0 0 x.cells.toList).size (z09 c0 0 x.cells.toList):=z0H.push _ el
 have hsz2:(z09 c0 0 x.cells.toList).size=z0a sh:=by rw[z0M,h0]
 obtain⟨n1,n2⟩:=H.push (WExt.push w (.cells (z09 c0 0 x.cells.toList) el (0,0))) (.arow sh cs) (some (w.heap.size,z0a sh)) (fun b' n e=>by injection e with e;injection e with e1 e2;subst e1;exact⟨Nat.le_refl _,by simp⟩)
  (fun M' E=>⟨fun y hy=>by obtain⟨j,hj⟩:=List.getElem?_of_mem hy;exact (s2 j y hj).1,_,hsz2 ▸ hB,by omega,fun j y hy=>by
   obtain⟨_,u,q1,q2⟩:=s2 j y hy
   refine⟨u,?_,q2.evo E⟩
   have hj:=z0f hy
   rw[z1w _ _ _ _ hsz,if_pos (by simp [s1];omega)]
   simpa using q1⟩)
 refine⟨_,_,_,z0n hrun,.inl ⟨_,rfl,?_⟩,n1,n2,z0i.push ?_⟩
 ·exact .bt3 e9 h.length 1 _ 1 (.arow sh cs) (some (w.heap.size,z0a sh)) (Nat.le_refl _) (by simp) (by rw[← H.len];simp) (fun sh2 cs2 e=>by
   injection e with e1 e2
   subst e1;subst e2
   refine⟨by omega,fun _=>.inr ⟨by simp,by omega⟩⟩)
 ·have:=z8u hv
  have:=R.top_le
  simp only[Obj.top]
  omega
theorem asrc (H:HeapRel h μ w) {t id g:Nat} {x:Value} (R:RAV (imm h μ w) h μ (.bt 3 t id g) x) {sh:Sh} {ds:List AV} (ho:h[id]?=some (.arow sh ds)) (hg:g*z0a sh=ds.length) (h0:z0a sh≠0) :
 ∃ a cap m,x = .slice a g cap∧g≤cap∧μ[id]?=some m∧z50 m (z0a sh) 0 a cap∧(Builtin.lenOf x).run P w = .ok g w ∧
  ∃ c:Array Value,(∀ k,(Builtin.firstCells (z0a sh) g x).run P { w with drawn:=k } = .ok c { w with drawn:=k })∧c.size=ds.length∧∀ (j:Nat) (y:AV),ds[j]?=some y→y.sc=true∧∃ v,c[j]?=some v∧RAV (imm h μ w) h μ y v:=by
 cases R with | bt3 _ _ _ a cap ob m hl ho' hm hv=>
 rw[ho] at ho'
 injection ho' with ho'
 obtain⟨q1,q2⟩:=hv sh ds ho'.symm
 have q3:=q2 hg
 refine⟨a,cap,m,rfl,hl,hm,q3,by simp [Builtin.lenOf],?_⟩
 obtain⟨k1,k2⟩:=H.obj id _ m ho hm
 by_cases hz:g=0
 ·subst hz
  have hd:ds=[]:=by
   rw[Nat.zero_mul] at hg
   exact List.length_eq_zero_iff.1 hg.symm
  subst hd
  refine⟨#[],fun k=>?_,rfl,fun j y hy=>by simp at hy⟩
  cases a with
  | none=>simp [Builtin.firstCells]
  | some a=>simp [Builtin.firstCells,loadCells,loadCellsFrom]
 ·cases m with
  | none=>simp [z50] at q3;omega
  | some m=>
   obtain⟨b,n⟩:=m
   obtain⟨c,c1,c2,c3⟩:=k2
   have ha:a=some ⟨b,0,none⟩:=by
    rcases q3 with q3 | q3
    ·omega
    ·rw[q3.1,Nat.zero_mul]
   subst ha
   refine⟨((List.range (g*z0a sh)).map fun j=>(c[j]?).getD undef).toArray,fun k=>?_,by simp [hg],fun j y hy=>?_⟩
   ·simp only[Builtin.firstCells]
    refine z3H (fun j hj=>?_)
    have hlt:j<c.size:=by rw[c1.1];omega
    have hB:z0H { w with drawn:=k } b n c:=c1
    rw[z0u hB,Nat.zero_add]
    simp [hlt]
   ·obtain⟨v,v1,v2⟩:=c3 j y hy
    have hj:=z0f hy
    exact⟨k1 y (List.mem_of_getElem? hy),v,by simp [hg,hj,v1],v2⟩
theorem zi3:∀ (a b:List AV),AV.tops (a++b)=max (AV.tops a) (AV.tops b)
 | [],b=>by simp [AV.tops]
 | x::a,b=>by simp only[List.cons_append,AV.tops,zi3 a b];omega
theorem apA_ok {t u ty:TypeId} {e9:Nat} {sh:Sh} (hsh:z2j e9=sh) (hc:z2K P sh t u=true) (h0:z0a sh≠0) {s x:Value} {vs vx v:AV} {h1:Heap} {e:Esc} (H:HeapRel h μ w) (Rs:RAV (imm h μ w) h μ vs s) (Rx:RAV (imm h μ w) h μ vx x)
 (he:apA sh h vs vx=some (v,h1,e)):OpOk P (do pure (.value (← Builtin.append_ #[t,u] ty #[s,x]))) h μ w v h1 e:=by
 unfold apA at he
 split at he
 case h_2=>cases he
 rename_i k tt id g k' tt' id' g'
 cases hk:(Nat.beq k 3&&Nat.beq k' 3) with
 | false=>rw[hk] at he;cases he
 | true=>
  rw[hk] at he
  simp only[Bool.and_eq_true] at hk
  have hk1:=Nat.eq_of_beq_eq_true hk.1
  have hk2:=Nat.eq_of_beq_eq_true hk.2
  subst hk1;subst hk2
  simp only[cond_true] at he
  split at he
  case h_2=>cases he
  rename_i rsh cs rsh' ds ho ho'
  split at he
  case isFalse=>cases he
  rename_i hcond
  obtain⟨rfl,rfl,hg,hg',hmax⟩:=hcond
  simp only[Option.some.injEq,Prod.mk.injEq] at he
  obtain⟨rfl,rfl,rfl⟩:=he
  obtain⟨a,cap,m,rfl,hl,hm,hO,_,old,hok,holdn,hold⟩:=asrc (P:=P) H Rs ho hg h0
  obtain⟨a',cap',m',rfl,hl',hm',hO',hlen',c,hck,hcn,hcc⟩:=asrc (P:=P) H Rx ho' hg' h0
  have hmul:(g+g')*z0a rsh'=cs.length+ds.length:=by rw[Nat.add_mul,hg,hg']
  have hesc:∀ o:Obj,z0i h (h.set id (.arow rsh' (cs++ds))) (bif decide (id<AV.tops ds) then [(id,AV.tops ds)] else []):=fun _=>by
   refine z0i.set ho ?_
   simp only[Obj.top,zi3]
   cases hd:decide (id<AV.tops ds) with
   | false=>simp at hd;simp only[cond_false,z1i];omega
   | true=>simp only[cond_true,z1i];simp;omega
  by_cases hroom:g+g'≤cap
  ·cases m with
   | none=>
    have hc0:cap=0:=hO
    have hg0:g=0:=by omega
    have hg0':g'=0:=by omega
    subst hg0;subst hg0'
    have hd0:ds=[]:=by rw[Nat.zero_mul] at hg';exact List.length_eq_zero_iff.1 hg'.symm
    have hcs0:cs=[]:=by rw[Nat.zero_mul] at hg;exact List.length_eq_zero_iff.1 hg.symm
    subst hd0;subst hcs0
    have hc00:c = #[]:=by apply Array.eq_empty_of_size_eq_zero;simpa using hcn
    subst hc00
    have hrun:=z0o (P:=P) (w:=w) (ty:=ty) (base:=a) (sLen:=0) (sCap:=cap) hc hlen' (hck w.drawn) hroom (w':=w) (by cases a <;> simp [storeCells])
    have hs:h.set id (.arow rsh' ([]++[]))=h:=z0z ho
    rw[hs]
    exact⟨_,_,_,z0n hrun,.inl ⟨_,rfl,by simpa using Rs⟩,H,Evo.refl _ _ _,z0i.refl _ _⟩
   | some m=>
    obtain⟨b,n⟩:=m
    obtain⟨k1,c1,hB,hn,hcell⟩:=H.obj id _ _ ho hm
    by_cases hz:g'=0
    ·subst hz
     have hd0:ds=[]:=by rw[Nat.zero_mul] at hg';exact List.length_eq_zero_iff.1 hg'.symm
     subst hd0
     have hc00:c = #[]:=by apply Array.eq_empty_of_size_eq_zero;simpa using hcn
     subst hc00
     have hrun:=z0o (P:=P) (w:=w) (ty:=ty) (base:=a) (sLen:=g) (sCap:=cap) hc hlen' (hck w.drawn) hroom (w':=w) (by cases a <;> simp [storeCells])
     have hs:h.set id (.arow rsh' (cs++[]))=h:=by rw[List.append_nil];exact z0z ho
     rw[hs]
     exact⟨_,_,_,z0n hrun,.inl ⟨_,rfl,by simpa using Rs⟩,H,Evo.refl _ _ _,z0i.refl _ _⟩
    ·have hOa:a=some ⟨b,0,none⟩∧cap*z0a rsh'≤n:=by
      rcases hO with q | q
      ·omega
      ·exact⟨by rw[q.1,Nat.zero_mul],by rw[← Nat.zero_add cap];exact q.2⟩
     obtain⟨rfl,hcapn⟩:=hOa
     have hfit:(g+g')*z0a rsh'≤n:=Nat.le_trans (Nat.mul_le_mul_right _ hroom) hcapn
     have hone:∀ u∈c.toList,u.oneCell'=true:=fun u hu=>by
      obtain⟨j,hj⟩:=List.getElem?_of_mem hu
      have hjl:j<ds.length:=by have:=z0f hj;simp at this;omega
      obtain⟨q1,u',q2,q3⟩:=hcc j ds[j] (List.getElem?_eq_getElem hjl)
      rw[Array.getElem?_toList,q2] at hj
      injection hj with hj
      subst hj
      exact zff q3 q1
     obtain⟨E,lo,hi,g1,g2⟩:=z2G (P:=P) (o:=g*z0a rsh') c.toList w c1 0 hB (by simp;omega) hone
     simp only[Nat.add_zero] at g2
     have hlo:¬ False→lo<hi→n≤lo:=by
      obtain⟨_,E',lo',hi'',q1,q2⟩:=hB
      rw[g1] at q1;injection q1 with q1;injection q1 with _ _ q3;injection q3 with q3 q4;subst q3;subst q4;exact q2
     have hsz:g*z0a rsh'+c.toList.length≤c1.size:=by rw[hB.1];simp;omega
     have hμ:μ.set id (some (b,n))=μ:=z0z hm
     have key:=H.set (w':=z04 w b (.cells (z09 c1 (g*z0a rsh') c.toList) E (lo,hi))) (o':=.arow rsh' (cs++ds)) (m':=some (b,n)) ho hm (.inl ⟨_,rfl,by simp,fun _=>rfl⟩)
      rfl (Nat.le_of_eq (z1r _ _).symm) (fun b' _ hb'=>z1V (fun e=>hb' n (by rw[e])))
      (fun b' n e=>.inl ⟨n,e⟩) (fun b' n' sh2 xs2 fz2 e1 e2=>by cases e2)
      (fun M' Ev=>by
       refine⟨fun y hy=>?_,z09 c1 (g*z0a rsh') c.toList,⟨by rw[z0M,hB.1],E,lo,hi,z0U g1,hlo⟩,by rw[List.length_append];omega,fun j y hy=>?_⟩
       ·rcases List.mem_append.1 hy with hy | hy
        ·exact k1 y hy
        ·obtain⟨j,hj⟩:=List.getElem?_of_mem hy
         exact (hcc j y hj).1
       ·rw[z1w _ _ _ _ hsz]
        rcases Nat.lt_or_ge j cs.length with hj | hj
        ·rw[List.getElem?_append_left hj] at hy
         rw[if_neg (by omega)]
         obtain⟨u,p,q⟩:=hcell j y hy
         exact⟨u,p,q.evo Ev⟩
        ·rw[List.getElem?_append_right hj] at hy
         have:=z0f hy
         rw[if_pos (by simp;omega)]
         obtain⟨_,u,p,q⟩:=hcc _ y hy
         exact⟨u,by rw[Array.getElem?_toList,hg];exact p,q.evo Ev⟩) (z6Z g1)
     rw[hμ] at key
     have hrun:=z0o (P:=P) (ty:=ty) (base:=some ⟨b,0,none⟩) (sLen:=g) (sCap:=cap) hc hlen' (hck w.drawn) hroom (by simpa [z1m] using g2)
     refine⟨_,_,_,z0n hrun,.inl ⟨_,rfl,?_⟩,key.1,key.2,hesc (.box [])⟩
     exact .bt3 tt id (g+g') _ cap _ _ hroom (z0y ho) hm (fun sh2 cs2 e=>by
      injection e with e1 e2
      subst e1;subst e2
      exact⟨by rw[hmul,List.length_append];exact Nat.le_refl _,fun _=>.inr ⟨by simp,by simpa using hcapn⟩⟩)
  ·obtain⟨el,newCap,rest,r0,r1,r2,r3⟩:=z3P (P:=P) (w:=w) (ty:=ty) (base:=a) (sLen:=g) (sCap:=cap) hc hlen' hck (by omega) hmax hok
   have hbsz:(old++c++rest).size=newCap*z0a rsh':=by
    simp only[Array.size_append,holdn,hcn,r2,Nat.sub_mul]
    have:=Nat.mul_le_mul_right (z0a rsh') r1
    omega
   have hB:z0H { w with drawn:=w.drawn+1,heap:=w.heap.push (.cells (old++c++rest) el (0,0)) } w.heap.size (old++c++rest).size (old++c++rest):=⟨rfl,el,0,0,by simp,fun _ h=>by omega⟩
   have hfit:(g+g')*z0a rsh'≤newCap*z0a rsh':=Nat.mul_le_mul_right _ r1
   have key:=H.set (w':={ w with drawn:=w.drawn+1,heap:=w.heap.push (.cells (old++c++rest) el (0,0)) }) (o':=.arow rsh' (cs++ds)) (m':=some (w.heap.size,(old++c++rest).size)) ho hm
    (.inl ⟨_,rfl,by simp,fun he=>by
     exfalso
     rw[List.length_append] at he
     have:g'*z0a rsh'=0:=by omega
     rcases Nat.mul_eq_zero.1 this with q | q
     ·subst q
      omega
     ·exact h0 q⟩)
    rfl (by simp) (fun b' hb' _=>by simp [Array.getElem?_push,Nat.ne_of_lt hb'])
    (fun b' n e=>by injection e with e;injection e with e1 e2;subst e1;exact .inr ⟨Nat.le_refl _,by simp⟩) (fun b' n' sh2 xs2 fz2 e1 e2=>by cases e2)
    (fun M' Ev=>by
     refine⟨fun y hy=>?_,_,hB,by rw[List.length_append,hbsz];omega,fun j y hy=>?_⟩
     ·rcases List.mem_append.1 hy with hy | hy
      ·obtain⟨j,hj⟩:=List.getElem?_of_mem hy
       exact (hold j y hj).1
      ·obtain⟨j,hj⟩:=List.getElem?_of_mem hy
       exact (hcc j y hj).1
     ·rcases Nat.lt_or_ge j cs.length with hj | hj
      ·rw[List.getElem?_append_left hj] at hy
       obtain⟨_,u,p,q⟩:=hold j y hy
       refine⟨u,?_,q.evo Ev⟩
       rw[Array.append_assoc,Array.getElem?_append_left (by omega)]
       exact p
      ·rw[List.getElem?_append_right hj] at hy
       have:=z0f hy
       obtain⟨_,u,p,q⟩:=hcc _ y hy
       refine⟨u,?_,q.evo Ev⟩
       rw[Array.append_assoc,Array.getElem?_append_right (by omega),Array.getElem?_append_left (by omega),holdn]
       exact p) (fun b' n' t' e ht=>by
        rw[z4K (w:=w)]
        ·exact ht
        ·have:=zh7 ht
         simp [Array.getElem?_push,Nat.ne_of_lt this])
   refine⟨_,_,_,z0n r3,.inl ⟨_,rfl,?_⟩,key.1,key.2,hesc (.box [])⟩
   exact .bt3 tt id (g+g') _ newCap _ _ r1 (z0y ho) (z0y hm) (fun sh2 cs2 e=>by
    injection e with e1 e2
    subst e1;subst e2
    exact⟨by rw[hmul,List.length_append];exact Nat.le_refl _,fun _=>.inr ⟨by simp,by rw[hbsz];simp⟩⟩)
end Go.Am
end
section
/- The abstract machine: a strings.Builder's operations (z2v) are sound. -/
set_option linter.unusedSimpArgs false
set_option linter.unusedVariables false
namespace Go.Am
variable {h h':Heap} {μ μ':Mu} {w w':World} {P:Program} {M M':Mem}
def za1 (P:Program) (t:TypeId):Bool:=match P.info? t with
 | some i=>i.size==2&&(match i.zero with | some v=>(match v.cells.toList with | [.pointer none,.slice none 0 0]=>true | _=>false) | none=>false)&&liesAt P P.depth t (2 / P.cellsOf t) 0 t 1
 | none=>false
def zxY (P:Program) (t s d:TypeId):Bool:=match P.underlying s with
 | some (.pointer t')=>t'==t&&(match P.underlying d with | some .unsafePointer=>true | _=>false)
 | some .unsafePointer=>match P.underlying d with
  | some (.pointer t')=>t'==t
  | _=>false
 | _=>false
def zxX (P:Program) (s:TypeId):Bool:=match P.underlying s with
 | some (.pointer t)=>(P.info? t).isSome
 | _=>false
def zmt (P:Program) (t s:TypeId):Bool:=match P.underlying s with
 | some (.pointer t')=>t'==t
 | _=>false
def zmu (P:Program) (t s:TypeId):Bool:=match P.underlying s with
 | some (.slice t')=>t'==t
 | _=>false
theorem newBld {t te:TypeId} (hc:za1 P t=true) (H:HeapRel h μ w) :
 OpOk P (do pure (.value (← Instr.alloc t true (.tuple #[])))) h μ w (.ref h.length 0) (h++[.box [.bt 0 t h.length 0,.bt 1 te (h.length+1) 0],.row none [] 0]) [(h.length,h.length+2)]:=by
 unfold za1 at hc
 split at hc
 case h_2=>cases hc
 rename_i i hi
 simp only[Bool.and_eq_true,beq_iff_eq] at hc
 obtain⟨⟨c1,c2⟩,c3⟩:=hc
 split at c2
 case h_2=>cases c2
 rename_i v hv
 split at c2
 case h_2=>cases c2
 rename_i hcells
 have hvc:v.cells = #[.pointer none,.slice none 0 0]:=by rw[← hcells]
 have hrun:(Instr.alloc t true (.tuple #[])).run P w = .ok (.pointer (some ⟨w.heap.size,0,none⟩)) { w with heap:=w.heap.push (.cells v.cells t (0,0)) }:=by
  unfold Instr.alloc
  rw[Sem.run_bind]
  have:(zeroValue t).run P w = .ok v w:=by
   unfold zeroValue
   rw[Sem.run_bind,z02 hi]
   simp [hv]
  rw[this]
  simp [newVar,z0w]
 have hB:z0H { w with heap:=w.heap.push (.cells v.cells t (0,0)) } w.heap.size 2 v.cells:=by
  have:=z0H.push (w:=w) v.cells t
  rwa [show v.cells.size=2 by rw[hvc];rfl] at this
 obtain⟨h1,h2⟩:=zxm (cs:=[.nilp,.sl0 none]) H (WExt.push w _) (Nat.le_refl _) (by simp) hB (c:=v.cells) (fun j x hx=>by
  rw[hvc]
  match j with
  | 0=>simp at hx;subst hx;exact⟨rfl,_,rfl,.nilp⟩
  | 1=>simp at hx;subst hx;exact⟨rfl,_,rfl,.sl0 _ _⟩
  | j+2=>simp at hx)
 simp only[List.length_cons,List.length_nil,Nat.zero_add,Nat.reduceAdd] at h1 h2
 obtain⟨h3,h4⟩:=zbl h1 none
 simp only[List.append_assoc,List.cons_append,List.nil_append] at h3 h4
 have ho:(h++[Obj.box [.nilp,.sl0 none],.row none [] 0])[h.length]?=some (.box [.nilp,.sl0 none]):=by simp
 have hm:(μ++[some (w.heap.size,2),none])[h.length]?=some (some (w.heap.size,2)):=by rw[← H.len];simp
 have ho2:(h++[Obj.box [.nilp,.sl0 none],.row none [] 0])[h.length+1]?=some (.row none [] 0):=by
  rw[List.getElem?_append_right (by omega)];simp
 have hm2:(μ++[some (w.heap.size,2),none])[h.length+1]?=some none:=by
  rw[← H.len,List.getElem?_append_right (by omega)];simp
 have hg:({ w with heap:=w.heap.push (.cells v.cells t (0,0)) }:World).heap[w.heap.size]?=some (.cells v.cells t (0,0)):=by simp
 have key:=h3.set (w':={ w with heap:=w.heap.push (.cells v.cells t (0,0)) }) (o':=.box [.bt 0 t h.length 0,.bt 1 te (h.length+1) 0]) (m':=some (w.heap.size,2)) ho hm ⟨⟨_,rfl⟩,rfl⟩ rfl (Nat.le_refl _) (fun _ _ _=>rfl)
  (fun b n e=>.inl ⟨n,e⟩) (fun b n sh xs fz _ e=>by cases e)
  (fun M' E=>⟨w.heap.size,v.cells,rfl,hB,fun j x hx=>by
   rw[hvc]
   match j with
   | 0=>simp at hx;subst hx;exact⟨rfl,_,rfl,.bt0 t h.length 0 w.heap.size 2 _ (z0y ho) (z0y hm) (E.le.s _ _ (z3Y hg))⟩
   | 1=>simp at hx;subst hx;exact⟨rfl,_,rfl,.bt1 te (h.length+1) 0 none 0 [] 0 none (Nat.le_refl _) (by rw[List.getElem?_set_ne (by omega)];exact ho2) (by rw[List.getElem?_set_ne (by omega)];exact hm2) (Nat.le_refl _) (fun _=>⟨rfl,rfl⟩)⟩
   | j+2=>simp at hx⟩)
  (fun _ _ _ _ h=>h)
 have es:(h++[Obj.box [.nilp,.sl0 none],.row none [] 0]).set h.length (.box [.bt 0 t h.length 0,.bt 1 te (h.length+1) 0])=h++[.box [.bt 0 t h.length 0,.bt 1 te (h.length+1) 0],.row none [] 0]:=by simp
 have em:(μ++[some (w.heap.size,2),none]).set h.length (some (w.heap.size,2))=μ++[some (w.heap.size,2),none]:=z0z hm
 have hE:z0i h (h++[.box [.bt 0 t h.length 0,.bt 1 te (h.length+1) 0],.row none [] 0]) [(h.length,h.length+2)]:=by
  have a:=z0i.push (h:=h) (o:=.box [.nilp,.sl0 none]) (by simp [Obj.top,AV.tops,AV.top])
  have a2:=z0i.push (h:=h++[.box [.nilp,.sl0 none]]) (o:=.row none [] 0) (by simp [Obj.top])
  have a3:=a.trans a2
  simp only[List.append_assoc,List.cons_append,List.nil_append] at a3
  have b:=z0i.set (x:=[(h.length,h.length+2)]) (o':=.box [.bt 0 t h.length 0,.bt 1 te (h.length+1) 0]) ho (by simp [Obj.top,AV.tops,AV.top,z1i])
  rw[es] at b
  exact a3.trans b
 rw[es,em] at key
 exact⟨_,_,_,z0n hrun,.inl ⟨_,rfl,.ref h.length 0 w.heap.size 2 [.bt 0 t h.length 0,.bt 1 te (h.length+1) 0] (by simp) (by rw[← H.len];simp)⟩,key.1,(h2.trans h4).trans key.2,hE⟩
theorem zaa {w:World} {b:Nat} {c:Array Value} {E:TypeId} {f:Nat × Nat} (e:w.heap[b]?=some (.cells c E f)):w.shape? b=some (E,c.size):=by
 unfold World.shape?
 simp only[e]
theorem upB_ok {t s d:TypeId} (hb:za1 P t=true) (hc:zxY P t s d=true) {id:Nat} {x:Value} (H:HeapRel h μ w) (R:RAV (imm h μ w) h μ (.ref id 0) x) {t' id' g:Nat} {v2:AV} (ho:h[id]?=some (.box [.bt 0 t' id' g,v2])) (e1:t'=t) (e2:id'=id) :
 OpOk P (do pure (.value (← convert s d x))) h μ w (.ref id 0) h []:=by
 subst e1;subst e2
 have R0:=R
 cases R with | ref _ _ b n cs ho' hm=>
 rw[ho] at ho'
 injection ho' with ho'
 injection ho' with ho'
 subst ho'
 obtain⟨b',c,hbn,hB,hcell⟩:=H.obj id' _ _ ho hm
 injection hbn with hbn
 injection hbn with q1 q2
 subst q1
 obtain⟨_,vv,_,hR⟩:=hcell 0 _ rfl
 have hty:ety w b=some t':=by
  cases hR with | bt0 _ _ _ b2 n2 cs2 ho2 hm2 hs2=>
  rw[hm] at hm2
  injection hm2 with hm2
  injection hm2 with hm2
  injection hm2 with r1 r2
  subst r1
  exact hs2
 obtain⟨hsz,E,lo,hi,he,_⟩:=hB
 have hE:E=t':=by rw[z3Y he] at hty;injection hty
 subst hE
 have hsh:w.shape? b=some (E,2):=by rw[zaa he,hsz];rfl
 unfold za1 at hb
 split at hb
 case h_2=>cases hb
 rename_i i hi
 simp only[Bool.and_eq_true,beq_iff_eq] at hb
 obtain⟨⟨c1,c2⟩,c3⟩:=hb
 unfold zxY at hc
 split at hc
 ·rename_i t'' hs
  simp only[Bool.and_eq_true,beq_iff_eq] at hc
  obtain⟨rfl,hd⟩:=hc
  have hd:P.underlying d=some .unsafePointer:=by split at hd <;> simp_all
  exact OpOk.pure H (z0n (Lib.run_to_unsafe w ⟨b,0,none⟩ hs hd hi (by rw[c1];decide) hsh (Nat.zero_lt_succ 1))) R0
 ·rename_i hs
  split at hc
  case h_2=>cases hc
  rename_i t'' hd
  simp only[beq_iff_eq] at hc
  subst hc
  exact OpOk.pure H (z0n (Lib.run_from_unsafe w ⟨b,0,none⟩ hs hd hi hsh c3)) R0
 ·cases hc
theorem zyP {t:TypeId} (hc:zxX P t=true) {a b:Operand} {id o:Nat} {x y:Value} (H:HeapRel h μ w) (Rx:RAV (imm h μ w) h μ (.ref id o) x) (Ry:RAV (imm h μ w) h μ (.ref id o) y) :
 OpOk P (do pure (.value (← (do eqGuard .neq t a b x y;binOp .neq t x y)))) h μ w (pbool false) h []:=by
 cases Rx with | ref _ _ b1 n1 cs1 ho1 hm1=>
 cases Ry with | ref _ _ b2 n2 cs2 ho2 hm2=>
 rw[hm1] at hm2
 injection hm2 with hm2
 injection hm2 with hm2
 injection hm2 with r1 r2
 subst r1
 unfold zxX at hc
 split at hc
 case h_2=>cases hc
 rename_i te ht
 obtain⟨j,hj⟩:=Option.isSome_iff_exists.1 hc
 refine OpOk.pure H (z0n ?_) (RAV.pbool false)
 have hg:(eqGuard .neq t a b (.pointer (some ⟨b1,o,none⟩)) (.pointer (some ⟨b1,o,none⟩))).run P w = .ok () w:=rfl
 rw[Sem.run_bind,hg]
 exact Lib.run_neq_ptr_same w _ ht hj
theorem zy6 {t ty:TypeId} {ts:List TypeId} {n:Nat} {x:Value} {a:Option Addr} {cap:Nat} (hx:x = .slice a n cap) (H:HeapRel h μ w) (hc:z3K P t=1) :
 OpOk P (do pure (.value (← Builtin.len_ (t::ts).toArray ty #[x]))) h μ w (pint n) h []:=by
 have hu:∃ el,P.underlying t=some (.slice el):=by
  unfold z3K at hc
  split at hc <;> simp_all
 obtain⟨el,hu⟩:=hu
 subst hx
 refine OpOk.pure H (z0n ?_) (RAV.pint n)
 simp [Builtin.len_,z0b hu]
theorem zx6 {t u ty te:TypeId} (hc:z2K P none t u=true) (ht:zmu P te t=true) {s x:Value} {vs vx v:AV} {h1:Heap} {e:Esc} (H:HeapRel h μ w) (Rs:RAV (imm h μ w) h μ vs s) (Rx:RAV (imm h μ w) h μ vx x)
 (he:appB te h vs vx=some (v,h1,e)):OpOk P (do pure (.value (← Builtin.append_ #[t,u] ty #[s,x]))) h μ w v h1 e:=by
 have htt:P.underlying t=some (.slice te):=by
  unfold zmu at ht
  split at ht
  ·rename_i t' h'
   simp only[beq_iff_eq] at ht
   subst ht
   exact h'
  ·cases ht
 unfold appB at he
 split at he
 case h_2=>cases he
 rename_i ys hr
 have S:=z3w (P:=P) H Rx hr
 obtain⟨c,hck,hc2⟩:=S.2 ys.length (Nat.le_refl _)
 rw[List.take_length] at hc2
 have hck0:(Builtin.firstCells (z0a none) ys.length x).run P w = .ok c w:=hck w.drawn
 split at he
 ·rename_i t0 id g
  split at he
  case h_2=>cases he
  rename_i xs fz ho
  split at he
  case isFalse=>cases he
  rename_i hcond
  obtain⟨rfl,rfl,hfz,hmax⟩:=hcond
  simp only[Option.some.injEq,Prod.mk.injEq] at he
  obtain⟨rfl,rfl,rfl⟩:=he
  have Rs0:=Rs
  cases Rs with | bt1 _ _ _ a cap xs' fz' m hl ho' hm hg hv=>
  rw[ho] at ho'
  injection ho' with ho'
  injection ho' with _ q2 q3
  subst q2;subst q3
  have hb:=hv rfl
  obtain⟨kf,ks,kO⟩:=H.obj id _ _ ho hm
  cases m with
  | none=>
   obtain⟨rfl,rfl⟩:=hb
   have hx0:xs=[]:=kO
   subst hx0
   by_cases hz:ys.length=0
   ·have hy0:ys=[]:=List.length_eq_zero_iff.1 hz
    subst hy0
    have hrun:=z0o (ty:=ty) (base:=none) (sLen:=0) (sCap:=0) hc S.1 hck0 (by simp) (w':=w) rfl
    have hs:h.set id (.row none ([]++[]) fz)=h:=z0z ho
    rw[hs]
    exact⟨_,_,_,z0n hrun,.inl ⟨_,rfl,Rs0⟩,H,Evo.refl _ _ _,z0i.refl _ _⟩
   ·obtain⟨newCap,n,w',c',g1,g2,g3,g4,g5,g6,g7,g8⟩:=z39 (ty:=ty) (base:=none) (sCap:=0) (xs:=[]) (v0:=.sl0 none) hc H Rx hr (by simp;omega) (by simpa using hmax) (.sl0 none none) rfl
    have key:=H.set (w':=w') (o':=.row none ([]++ys) fz) (m':=some (w.heap.size,n)) ho hm ⟨[]++ys,fz,rfl,by simp,fun hl=>by rw[List.length_append] at hl;simp only[List.length_nil] at hl;omega⟩
     g4.zz g4.1 (fun b hb _=>g4.2 b hb) (fun b n' e=>by injection e with e;injection e with e1 e2;subst e1;exact .inr ⟨Nat.le_refl _,g5⟩)
     (fun b n' sh2 xs2 fz2 e1 e2=>by cases e1)
     (fun M' Ev=>by
      refine⟨by have q:fz≤0:=hfz;omega,g7.2.1,c',g6.sealed _,?_,fun i j x y hx hy=>?_⟩
      ·rw[← g2];exact Nat.mul_le_mul_right _ (by simpa using g1)
      ·obtain⟨v,q1,q2⟩:=g7.2.2 i j x y hx hy
       exact⟨v,q1,q2.mono Ev.le⟩) (fun b n t e ht=>by cases e)
    refine⟨_,_,_,z0n g3,.inl ⟨_,rfl,?_⟩,key.1,key.2,z0i.set ho (by simp [Obj.top])⟩
    exact .bt1 t0 id (0+ys.length) _ newCap ([]++ys) fz (some (w.heap.size,n)) (by simpa using g1) (z0y ho) (z0y hm) (by simp) (fun _=>⟨rfl,⟨by omega,by rw[← g2];simp [z0a]⟩,g8 _ htt⟩)
  | some m=>
   obtain⟨b,n⟩:=m
   obtain⟨rfl,hcn,hst⟩:=hb
   obtain⟨c',hB,hn2,hcell⟩:=kO
   by_cases hroom:xs.length+ys.length≤cap
   ·obtain⟨w',r1,r2,r3,r4⟩:=z2p (P:=P) (at_:=xs.length) H ho hm hB hc2 hfz (Nat.le_refl _) (by simp only[z0a];omega)
    rw[z7g] at r2 r3 r4
    have hrun:=z0o (ty:=ty) (base:=some ⟨b,0,none⟩) (sLen:=xs.length) (sCap:=cap) hc S.1 hck0 hroom (w':=w') (by simpa [z1m] using r1)
    refine⟨_,_,_,z0n hrun,.inl ⟨_,rfl,?_⟩,r2,r3,r4⟩
    exact .bt1 t0 id (xs.length+ys.length) _ cap (xs++ys) fz (some (b,n)) hroom (z0y ho) hm (by simp) (fun _=>⟨rfl,hcn,r3.le.s _ _ hst⟩)
   ·have Ro:RAV (imm h μ w) h μ (.own id xs.length 0 xs.length) (.slice (some ⟨b,0,none⟩) xs.length cap):=.own id xs.length 0 xs.length _ cap none xs fz (some (b,n)) hl ho hm (Nat.le_refl _) (by simp) (fun _=>.inr ⟨by simp,by simp [z0a];exact hcn.2⟩)
    have hr0:rds h (.own id xs.length 0 xs.length)=some (none,xs):=by simp [rds,rd,ho,win]
    obtain⟨newCap,n',w',c'',g1,g2,g3,g4,g5,g6,g7,g8⟩:=z39 (ty:=ty) (base:=some ⟨b,0,none⟩) (sCap:=cap) (xs:=xs) (v0:=.own id xs.length 0 xs.length) hc H Rx hr (by omega) hmax Ro hr0
    have hpos:0<ys.length:=by omega
    have key:=H.set (w':=w') (o':=.row none (xs++ys) fz) (m':=some (w.heap.size,n')) ho hm ⟨xs++ys,fz,rfl,by simp,fun hl=>by rw[List.length_append] at hl;omega⟩
     g4.zz g4.1 (fun b hb _=>g4.2 b hb) (fun b n' e=>by injection e with e;injection e with e1 e2;subst e1;exact .inr ⟨Nat.le_refl _,g5⟩)
     (fun b n' sh2 xs2 fz2 e1 e2=>by
      injection e2 with e2 e3 e4
      subst e2;subst e3;subst e4
      refine⟨_,fz,rfl,fun j hj=>⟨z1R (g4.2 b (H.inside id b n' (e1 ▸ hm))),fun n'' e3=>hj⟩⟩)
     (fun M' Ev=>by
      refine⟨by simp;omega,g7.2.1,c'',g6.sealed _,?_,fun i j x y hx hy=>?_⟩
      ·rw[← g2];exact Nat.mul_le_mul_right _ (by simpa using g1)
      ·obtain⟨v,q1,q2⟩:=g7.2.2 i j x y hx hy
       exact⟨v,q1,q2.mono Ev.le⟩) (fun b n t e ht=>by rw[z4K (g4.2 b (H.inside id b n (e ▸ hm)))];exact ht)
    refine⟨_,_,_,z0n g3,.inl ⟨_,rfl,?_⟩,key.1,key.2,z0i.set ho (by simp [Obj.top])⟩
    exact .bt1 t0 id (xs.length+ys.length) _ newCap (xs++ys) fz (some (w.heap.size,n')) g1 (z0y ho) (z0y hm) (by simp) (fun _=>⟨rfl,⟨by omega,by rw[← g2];simp [z0a]⟩,g8 _ htt⟩)
 ·cases he
theorem ztB {ts:Array TypeId} {ty te:TypeId} {x:Value} {vx v:AV} (H:HeapRel h μ w) (Rx:RAV (imm h μ w) h μ vx x) {h1:Heap} {e:Esc}
 (he:ztA te h vx=some (v,h1,e)):OpOk P (do pure (.value (← Builtin.unsafeSliceData_ ts ty #[x]))) h μ w v h1 e:=by
 unfold ztA at he
 split at he
 ·rename_i t0 id g
  split at he
  case h_2=>cases he
  rename_i xs fz ho
  split at he
  case isFalse=>cases he
  rename_i hcond
  obtain⟨rfl,rfl⟩:=hcond
  cases Rx with | bt1 _ _ _ a cap xs' fz' m hl ho' hm hg hv=>
  rw[ho] at ho'
  injection ho' with ho'
  injection ho' with _ q2 q3
  subst q2;subst q3
  have hb:=hv rfl
  obtain⟨kf,ks,kO⟩:=H.obj id _ _ ho hm
  cases m with
  | none=>
   obtain⟨rfl,rfl⟩:=hb
   have hx0:xs=[]:=kO
   subst hx0
   simp only[List.length_nil,if_true,Option.some.injEq,Prod.mk.injEq] at he
   obtain⟨rfl,rfl,rfl⟩:=he
   exact OpOk.pure H (z0n (Lib.run_unsafeSliceData_nil w ts ty 0 0)) (.anyp none)
  | some m=>
   obtain⟨b,n⟩:=m
   obtain⟨rfl,hcn,hst⟩:=hb
   have hrun:=Lib.run_unsafeSliceData_row (P:=P) w ts ty ⟨b,0,none⟩ xs.length cap (by omega)
   split at he
   ·simp only[Option.some.injEq,Prod.mk.injEq] at he
    obtain⟨rfl,rfl,rfl⟩:=he
    exact OpOk.pure H (z0n hrun) (.anyp _)
   ·simp only[Option.some.injEq,Prod.mk.injEq] at he
    obtain⟨rfl,rfl,rfl⟩:=he
    exact OpOk.pure H (z0n hrun) (.bt2 t0 id xs.length _ xs fz (some (b,n)) ho hm (Nat.le_refl _) (fun _=>⟨b,n,rfl,rfl,hst⟩))
 ·cases he
theorem zjr {b n:Nat} {c:Array Value} {E:TypeId} {lo hi:Nat} (hb:w.heap[b]?=some (.cells c E (lo,hi))) (hn:n≠0):∃ lo' hi',w.freeze ⟨b,0,none⟩ n=z04 w b (.cells c E (lo',hi')):=by
 have hlt:b<w.heap.size:=z8q hb
 have hb':w.heap[b] = .cells c E (lo,hi):=by
  rw[Array.getElem?_eq_getElem hlt] at hb;injection hb
 refine⟨if lo==hi then 0 else min lo 0,if lo==hi then 0+n else max hi (0+n),?_⟩
 unfold World.freeze
 rw[if_neg hn]
 simp only[z04]
 congr 1
 apply Array.ext_getElem?
 intro i
 by_cases hi':b=i
 ·subst hi'
  rw[Array.getElem?_setIfInBounds_self_of_lt hlt,Array.getElem?_modify]
  simp only[if_true,Array.getElem?_eq_getElem hlt,Option.map_some,hb']
  by_cases hq:lo=hi <;> simp [hq]
 ·rw[Array.getElem?_setIfInBounds_ne hi',Array.getElem?_modify]
  simp [hi']
theorem zgj:∀ {xs:List PV} {s:List UInt8},z5s xs=some s→s.length=xs.length∧∀ (j:Nat) (b:UInt8),s[j]?=some b→xs[j]?=some (.int .u8 b.toNat):=by
 intro xs s h
 rw[z48 h]
 exact⟨by simp [z1a],fun j b hb=>by rw[z6V,hb];rfl⟩
theorem zz1 {ts:List TypeId} {pt it ty te:TypeId} (ht:zmt P te pt=true) (hcell1:P.cellsOf te=1) {x:Value} {vx v:AV} {n:Nat} (H:HeapRel h μ w) (Rx:RAV (imm h μ w) h μ vx x) {h1:Heap} {e:Esc}
 (he:strB te h vx n=some (v,h1,e)):OpOk P (do pure (.value (← Builtin.unsafeString_ #[pt,it] ty #[x,.int .i64 n]))) h μ w v h1 e:=by
 have htt:P.underlying pt=some (.pointer te):=by
  unfold zmt at ht
  split at ht
  ·rename_i t' h'
   simp only[beq_iff_eq] at ht
   subst ht
   exact h'
  ·cases ht
 unfold strB at he
 split at he
 ·split at he
  case isFalse=>cases he
  rename_i h0
  subst h0
  simp only[Option.some.injEq,Prod.mk.injEq] at he
  obtain⟨rfl,rfl,rfl⟩:=he
  cases Rx with | anyp a=>
  exact OpOk.pure H (z0n (Lib.run_unsafeString_none w pt it ty a)) (.p _ _ (.str []))
 ·rename_i t0 id g
  split at he
  case h_2=>cases he
  rename_i xs fz ho
  split at he
  case isFalse=>cases he
  rename_i hcond
  obtain⟨rfl,rfl,rfl,hpos,hmax⟩:=hcond
  simp only[Option.map_eq_some_iff,Prod.mk.injEq] at he
  obtain⟨s,hs,rfl,rfl,rfl⟩:=he
  obtain⟨hsl,hsg⟩:=zgj hs
  cases Rx with | bt2 _ _ _ a xs' fz' m ho' hm hg hv=>
  rw[ho] at ho'
  injection ho' with ho'
  injection ho' with _ q2 q3
  subst q2;subst q3
  obtain⟨b,n,rfl,rfl,hst⟩:=hv rfl
  obtain⟨kf,ks,c,hB,hn2,hcell⟩:=H.obj id _ _ ho hm
  obtain⟨hsz,E,lo,hi,hE,_⟩:=hB
  have hEt:E=t0:=by
   have hst:ety w b=some t0:=hst
   rw[z3Y hE] at hst
   injection hst
  subst hEt
  have hne:s≠[]:=by intro h0;subst h0;simp at hsl;omega
  have hrun:=Lib.run_unsafeString_row (P:=P) w pt it ty E htt hcell1 b c.size (zaa hE) s hne (by simp only[z0a] at hn2;omega) (by unfold z1c at hmax;omega) (fun j y hy=>by
   rw[z1m,Nat.zero_add]
   obtain⟨v,v1,v2⟩:=hcell j 0 _ (.int .u8 y.toNat) (hsg j y hy) rfl
   cases v2
   have:w.cell? ⟨b,j,none⟩=c[j]?:=by
    unfold World.cell?
    simp [hE]
   rw[this]
   simpa [z0a] using v1)
  rw[hsl] at hrun
  have hw2:∃ lo' hi',w.freeze ⟨b,0,none⟩ xs.length=z04 w b (.cells c E (lo',hi')):=zjr hE (by omega)
  obtain⟨lo',hi',hw2⟩:=hw2
  have key:=H.set (w':=z04 w b (.cells c E (lo',hi'))) (o':=.row none xs (xs.length+1)) (m':=some (b,n)) ho hm ⟨xs,_,rfl,Nat.le_refl _,fun _=>rfl⟩
   rfl (Nat.le_of_eq (z1r _ _).symm) (fun b' _ hb'=>z1V (fun e=>hb' n (by rw[e]))) (fun b' n e=>.inl ⟨n,e⟩)
   (fun b' n' sh2 xs2 fz2 e1 e2=>by
    injection e2 with e2 e3 e4
    subst e2;subst e3;subst e4
    injection e1 with e1;injection e1 with e1 _;subst e1
    refine⟨_,_,rfl,fun j hj=>⟨?_,fun _ _=>by simp only[z0a] at hj ⊢;omega⟩⟩
    unfold World.cell?
    simp [hE,z0U hE])
   (fun M' Ev=>by
    refine⟨by omega,ks,c,⟨hsz,E,lo',hi',z0U hE,fun q=>absurd (by omega) q⟩,hn2,fun i j x y hx hy=>?_⟩
    obtain⟨v,v1,v2⟩:=hcell i j x y hx hy
    exact⟨v,v1,v2.mono Ev.le⟩) (z6Z hE)
  rw[z0z hm] at key
  rw[hw2] at hrun
  exact⟨_,_,_,z0n hrun,.inl ⟨_,rfl,.p _ _ (.str s)⟩,key.1,key.2,z0i.set ho (by simp [Obj.top])⟩
 ·cases he
def z7m (o:Op):Option (Operand × List Operand):=match o with
 | .call c=>match c.callee with
  | .value f=>some (f,c.args.toList)
  | _=>none
 | _=>none
theorem z6H {o:Oper} {f:Operand} {ys:List Operand} (hc:z7m o.op=some (f,ys)) {ρ:Operand→Value} {g:Nat} {caps:Array Value} (hf:ρ f = .func (.func g) #[] caps) :
 (execOp ρ o).run P w=(callFunc g ((ys.map ρ).toArray++caps)).run P w:=by
 unfold z7m at hc
 split at hc
 ·rename_i c hop
  split at hc
  ·rename_i f' hcal
   injection hc with hc
   injection hc with h1 h2
   subst h1;subst h2
   unfold execOp
   rw[hop]
   simp only[resolve,hcal,Deferred.ofValue,hf,Sem.run_bind,Sem.run_pure,Result.andThen_ok,invoke]
   have e1:(List.map ρ c.args.toList).toArray=c.args.map ρ:=by rw[← Array.toList_map]
   rw[e1]
   simp
  ·cases hc
 ·cases hc
def zfF (P:Program) (f:Nat):Bool:=match P.funcs[f]? with
 | some fn=>fn.name == "internal/abi.NoEscape" && fn.body.isNone&&(Extern.findNext fn).isNone
 | none=>false
theorem zoZ {fn:Func} (h:fn.name = "internal/abi.NoEscape"):Extern.find fn=some Extern.AbiNoEscape.same:=by
 have h1:(Extern.allGenericRows.lookup "internal/abi.NoEscape").isNone=true:=by kernel_rfl
 have h2:(Extern.allTypedRows.lookup "internal/abi.NoEscape").isNone=true:=by kernel_rfl
 have h3:Extern.allRows.lookup "internal/abi.NoEscape" = some Extern.AbiNoEscape.same:=by kernel_rfl
 unfold Extern.find
 rw[h]
 simp only[Option.isNone_iff_eq_none.1 h1,Option.isNone_iff_eq_none.1 h2,h3]
 rfl
theorem zuV {f:Nat} (hc:zfF P f=true) {o:Oper} {g y:Operand} (ho:z7m o.op=some (g,[y])) {ρ:Operand→Value} (hg:ρ g = .func (.func f) #[] #[]) {v:AV} (H:HeapRel h μ w) (R:RAV (imm h μ w) h μ v (ρ y)) :
 OpOk P (execOp ρ o) h μ w v h []:=by
 unfold zfF at hc
 split at hc
 case h_2=>cases hc
 rename_i fn hf
 simp only[Bool.and_eq_true,beq_iff_eq] at hc
 obtain⟨⟨c1,c2⟩,c3⟩:=hc
 refine OpOk.pure H ?_ R
 rw[z6H ho hg,run_callFunc_extern hf (by rw[c1];rfl) c2 (Option.isNone_iff_eq_none.1 c3) (zoZ c1)]
 rfl
def zu5:AV→Value→Bool
 | .sl0 _,.slice none 0 0=>true
 | .sl0 _,_=>false
 | _,_=>true
def zOkR:List AV→List Value→Bool
 | [],[]=>true
 | a::r,b::s=>(match a with
  | .bt k _ _ _=>Nat.beq k 3&&zu5 (.sl0 none) b
  | a=>a.sc&&z2F a b&&zu5 a b)&&zOkR r s
 | _,_=>false
theorem ziC:∀ {z:List AV} {c:List Value},zOkR z c=true→z.length=c.length
 | [],[],_=>rfl
 | [],_::_,e=>by simp [zOkR] at e
 | _::_,[],e=>by simp [zOkR] at e
 | a::r,b::s,e=>by
  simp only[zOkR,Bool.and_eq_true] at e
  simp [ziC e.2]
theorem zeK {sh:Sh} {b:Value} (e4:zu5 (.sl0 sh) b=true):b = .slice none 0 0:=by
 unfold zu5 at e4
 split at e4
 ·rfl
 ·cases e4
 ·rename_i h1 h2
  first | exact absurd rfl (h2 _) | exact (h1 _ rfl).elim | exact (h2 _ rfl).elim | exact absurd rfl (h1 _)
def z8v (P:Program) (z:List AV) (t:TypeId):Bool:=match P.info? t with
 | some i=>match i.zero with
  | some v=>zOkR z v.cells.toList
  | none=>false
 | none=>false
theorem z6G:∀ (z:List AV) (c:List Value) {h:Heap} {μ:Mu},HeapRel h μ w→zOkR z c=true →
 ∃ μ',HeapRel (z03 z h).2 μ' w∧Evo (imm h μ w) h μ (imm (z03 z h).2 μ' w) (z03 z h).2 μ'∧z0i h (z03 z h).2 []∧(z03 z h).1.length=z.length ∧
  ∀ (j:Nat) (x:AV),(z03 z h).1[j]?=some x→x.sc=true∧∃ v,c[j]?=some v∧RAV (imm (z03 z h).2 μ' w) (z03 z h).2 μ' x v
 | [],c,h,μ,H,_=>⟨μ,H,Evo.refl _ _ _,z0i.refl _ _,rfl,fun j x hx=>by simp [z03] at hx⟩
 | a::r,[],h,μ,H,e=>by simp [zOkR] at e
 | a::r,b::s,h,μ,H,e=>by
  simp only[zOkR,Bool.and_eq_true] at e
  obtain⟨e1,e3⟩:=e
  by_cases ha:∃ sh,a = .sl0 sh
  ·obtain⟨sh,rfl⟩:=ha
   simp only[Bool.and_eq_true] at e1
   obtain⟨k1,k2⟩:=zbl H sh
   obtain⟨μ',g1,g2,g3,g4,g5⟩:=z6G r s k1 e3
   have hb':b = .slice none 0 0:=zeK e1.2
   refine⟨μ',g1,k2.trans g2,?_,by simp [z03,g4],fun j x hx=>?_⟩
   ·simpa [z03] using (z0i.push (h:=h) (o:=.row sh [] 0) (by simp [Obj.top])).trans g3
   ·cases j with
    | zero=>
     simp [z03] at hx
     subst hx
     refine⟨rfl,b,rfl,?_⟩
     subst hb'
     have q:RAV (imm (h++[.row sh [] 0]) (μ++[none]) w) (h++[.row sh [] 0]) (μ++[none]) (.own h.length 0 0 0) (.slice none 0 0):=
      .own h.length 0 0 0 none 0 sh [] 0 none (Nat.le_refl _) (by simp) (by rw[← H.len];simp) (Nat.zero_le _) (Nat.le_refl _) (fun _=>by simp [z50])
     exact q.evo g2
    | succ j=>exact g5 j x (by simpa [z03] using hx)
  ·by_cases hb:∃ k t id g,a = .bt k t id g
   ·obtain⟨k,t,id,g,rfl⟩:=hb
    simp only[Bool.and_eq_true] at e1
    obtain⟨k1,k2⟩:=zqm H (z2j t)
    obtain⟨μ',g1,g2,g3,g4,g5⟩:=z6G r s k1 e3
    have hb':b = .slice none 0 0:=zeK e1.2
    refine⟨μ',g1,k2.trans g2,?_,by simp [z03,g4],fun j x hx=>?_⟩
    ·simpa [z03] using (z0i.push (h:=h) (o:=.arow (z2j t) []) (by simp [Obj.top,AV.tops])).trans g3
    ·cases j with
     | zero=>
      simp [z03] at hx
      subst hx
      refine⟨rfl,b,rfl,?_⟩
      subst hb'
      have q:RAV (imm (h++[.arow (z2j t) []]) (μ++[none]) w) (h++[.arow (z2j t) []]) (μ++[none]) (.bt 3 t h.length 0) (.slice none 0 0):=
       .bt3 t h.length 0 none 0 (.arow (z2j t) []) none (Nat.le_refl _) (by simp) (by rw[← H.len];simp) (fun sh cs e=>by
        injection e with q1 q2
        subst q1;subst q2
        exact⟨by simp,fun _=>by simp [z50]⟩)
      exact q.evo g2
     | succ j=>exact g5 j x (by simpa [z03] using hx)
   ·obtain⟨μ',g1,g2,g3,g4,g5⟩:=z6G r s H e3
    have hr:z03 (a::r) h=(a::(z03 r h).1,(z03 r h).2):=by
     cases a <;> first | rfl | exact absurd ⟨_,rfl⟩ ha | exact absurd ⟨_,_,_,_,rfl⟩ hb
    have e2:a.sc=true∧z2F a b=true:=by
     cases a <;> first | exact absurd ⟨_,rfl⟩ ha | exact absurd ⟨_,_,_,_,rfl⟩ hb | (simp only[Bool.and_eq_true] at e1;exact e1.1)
    rw[hr]
    refine⟨μ',g1,g2,g3,by simp [g4],fun j x hx=>?_⟩
    cases j with
    | zero=>
     simp at hx
     subst hx
     exact⟨e2.1,b,rfl,(z0Q e2.2).evo g2⟩
    | succ j=>exact g5 j x (by simpa using hx)
theorem zlY {z:List AV} {t:TypeId} (hc:z8v P z t=true) (H:HeapRel h μ w) :
 OpOk P (do pure (.value (← Instr.alloc t true (.tuple #[])))) h μ w (.ref (z03 z h).2.length 0) ((z03 z h).2++[.box (z03 z h).1]) []:=by
 unfold z8v at hc
 split at hc
 ·rename_i i hi
  split at hc
  ·rename_i v hv
   obtain⟨μ',g1,g2,g3,g4,g5⟩:=z6G z v.cells.toList H hc
   have hl:=ziC hc
   obtain⟨_,_,μ2,k1,k2,k3,k4,k5⟩:=zih (P:=P) g1 (s:=do pure (.value (← Instr.alloc t true (.tuple #[])))) (c:=v.cells) t (by rw[g4,hl];simp) (fun j x hx=>by simpa using g5 j x hx) (by
    refine z0n ?_
    unfold Instr.alloc
    rw[Sem.run_bind]
    have:(zeroValue t).run P w = .ok v w:=by
     unfold zeroValue
     rw[Sem.run_bind,z02 hi]
     simp [hv]
    rw[this]
    simp [newVar,z0w])
   exact⟨_,_,μ2,k1,k2,k3,g2.trans k4,by simpa using g3.trans k5⟩
  ·cases hc
 ·cases hc
theorem zci:∀ (z:List AV) (c:List Value) {h:Heap} {μ:Mu},HeapRel h μ w→c.length=z.length→(∀ (j:Nat) (x:AV),z[j]?=some x→x.sc=true∧∃ v,c[j]?=some v∧RAV (imm h μ w) h μ x v) →
 ∃ μ',HeapRel (z0X z h).2 μ' w∧Evo (imm h μ w) h μ (imm (z0X z h).2 μ' w) (z0X z h).2 μ'∧z0i h (z0X z h).2 []∧(z0X z h).1.length=z.length ∧
  ∀ (j:Nat) (x:AV),(z0X z h).1[j]?=some x→x.sc=true∧∃ v,c[j]?=some v∧RAV (imm (z0X z h).2 μ' w) (z0X z h).2 μ' x v
 | [],c,h,μ,H,_,_=>⟨μ,H,Evo.refl _ _ _,z0i.refl _ _,rfl,fun j x hx=>by simp [z0X] at hx⟩
 | a::r,[],h,μ,H,e,_=>by simp at e
 | a::r,b::s,h,μ,H,e,hr=>by
  have e3:s.length=r.length:=by simpa using e
  obtain⟨a1,b',hb',a2⟩:=hr 0 a rfl
  have hbb:b'=b:=by simpa using hb'.symm
  subst hbb
  by_cases ha:∃ sh,a = .sl0 sh
  ·obtain⟨sh,rfl⟩:=ha
   obtain⟨k1,k2⟩:=zbl H sh
   obtain⟨μ',g1,g2,g3,g4,g5⟩:=zci r s k1 e3 (fun j x hx=>by
    obtain⟨q1,v,q2,q3⟩:=hr (j+1) x (by simpa using hx)
    exact⟨q1,v,by simpa using q2,q3.evo k2⟩)
   refine⟨μ',g1,k2.trans g2,?_,by simp [z0X,g4],fun j x hx=>?_⟩
   ·simpa [z0X] using (z0i.push (h:=h) (o:=.row sh [] 0) (by simp [Obj.top])).trans g3
   ·cases j with
    | zero=>
     simp [z0X] at hx
     subst hx
     refine⟨rfl,b',rfl,?_⟩
     cases a2 with
     | sl0 _ aa=>
      have q:RAV (imm (h++[.row sh [] 0]) (μ++[none]) w) (h++[.row sh [] 0]) (μ++[none]) (.own h.length 0 0 0) (.slice aa 0 0):=
       .own h.length 0 0 0 aa 0 sh [] 0 none (Nat.le_refl _) (by simp) (by rw[← H.len];simp) (Nat.zero_le _) (Nat.le_refl _) (fun _=>by simp [z50])
      exact q.evo g2
    | succ j=>exact g5 j x (by simpa [z0X] using hx)
  ·obtain⟨μ',g1,g2,g3,g4,g5⟩:=zci r s H e3 (fun j x hx=>by
    obtain⟨q1,v,q2,q3⟩:=hr (j+1) x (by simpa using hx)
    exact⟨q1,v,by simpa using q2,q3⟩)
   have hrw:z0X (a::r) h=(a::(z0X r h).1,(z0X r h).2):=by
    cases a <;> first | rfl | exact absurd ⟨_,rfl⟩ ha
   rw[hrw]
   refine⟨μ',g1,g2,g3,by simp [g4],fun j x hx=>?_⟩
   cases j with
   | zero=>
    simp at hx
    subst hx
    exact⟨a1,b',rfl,a2.evo g2⟩
   | succ j=>exact g5 j x (by simpa using hx)
theorem zxV {t:TypeId} {v:AV} {x:Value} {cs:List AV} (H:HeapRel h μ w) (R:RAV (imm h μ w) h μ v x) (hc:v.cells=some cs) :
 OpOk P (do pure (.value (← Instr.box t x))) h μ w (.ref (z0X cs h).2.length 0) ((z0X cs h).2++[.box (z0X cs h).1]) []:=by
 have hs:=z15 R hc
 obtain⟨μ',g1,g2,g3,g4,g5⟩:=zci cs x.cells.toList H (by simpa using hs.1) (fun j y hy=>by
  obtain⟨q1,u,q2,q3⟩:=hs.2 j y hy
  exact⟨q1,u,by simpa using q2,q3⟩)
 obtain⟨_,_,μ2,k1,k2,k3,k4,k5⟩:=zih (P:=P) g1 (s:=do pure (.value (← Instr.box t x))) (c:=x.cells) t (by rw[g4];exact hs.1) (fun j y hy=>by simpa using g5 j y hy) (by
  refine z0n ?_
  simp [Instr.box,newVar,z0w])
 exact⟨_,_,μ2,k1,k2,k3,g2.trans k4,by simpa using g3.trans k5⟩
end Go.Am
end
section
/- The abstract machine,part 19: which operation stands for which (zt1),and that it is sound. -/
set_option linter.unusedSimpArgs false
set_option linter.unusedVariables false
set_option maxHeartbeats 1000000
namespace Go.Am
variable {h h':Heap} {μ μ':Mu} {w w':World} {P:Program} {M M':Mem}
def zuu (P:Program) (t:TypeId):Bool:=match P.underlying t with | some (.interface _)=>false | some _=>true | none=>false
def z3T (b:Builtin) (o:Op):Option (List Operand × List TypeId):=match o with
 | .call c=>match c.callee with
  | .builtin b'=>if b=b' then some (c.args.toList,c.argTypes.toList) else none
  | _=>none
 | _=>none
def zyZ:List Opd→Option (List AV)
 | []=>some []
 | .c v::r=>(zyZ r).map (v :: ·)
 | _::_=>none
theorem zik {ev:Opd→AV} (he:∀ v,ev (.c v)=v):∀ {xs:List Opd} {vs:List AV},zyZ xs=some vs→xs.map ev=vs
 | [],vs,h=>by cases h;rfl
 | .c v::r,vs,h=>by
  obtain⟨y,hy,rfl⟩:=Option.map_eq_some_iff.1 h
  simp [he,zik he hy]
 | .t _::_,vs,h=>by cases h
 | .f _::_,vs,h=>by cases h
 | .g _::_,vs,h=>by cases h
def one9:Op→Option (TypeId × Operand)
 | .buildSlice t n qs=>if n=1 then match qs.toList with
  | [(0,y)]=>some (t,y)
  | _=>none
  else none
 | _=>none
theorem zyV {o:Op} {t:TypeId} {y:Operand} (h:one9 o=some (t,y)):o = .buildSlice t 1 #[(0,y)]:=by
 unfold one9 at h
 split at h
 ·rename_i t' n qs
  split at h
  ·rename_i hn
   split at h
   ·rename_i y' hq
    simp only[Option.some.injEq,Prod.mk.injEq] at h
    obtain⟨rfl,rfl⟩:=h
    subst hn
    have:qs = #[(0,y')]:=by rw[← Array.toList_inj];exact hq
    rw[this]
   ·cases h
  ·cases h
 ·cases h
def zmv (P:Program) (k t:Nat) (xs:List Opd) (o:Op):Bool:=match k with
 | 0=>match o,xs with
  | .alloc t',[_]=>t'==t&&za1 P t
  | _,_=>false
 | 1=>match o,xs with
  | .convert s d y,[x]=>za1 P t&&zxY P t s d&&z0p x y
  | _,_=>false
 | 2=>match o,xs with
  | .binOp op' t' x' y' _,[x,y]=>decide (op' = .neq)&&zxX P t'&&z0p x x'&&z0p y y'
  | _,_=>false
 | 3=>match z3T .append o,xs with
  | some ([x',y'],[t0,u]),[x,y]=>z2K P none t0 u&&zmu P t t0&&z0p x x'&&z0p y y'
  | _,_=>false
 | 4=>match z3T .len o,xs with
  | some ([y],t0::_),[x]=>z3K P t0==1&&z0p x y
  | _,_=>false
 | 5=>match z3T .unsafeSliceData o,xs with
  | some ([y],_),[x]=>z0p x y
  | _,_=>false
 | 6=>match z3T .unsafeString o,xs with
  | some ([p',n'],[pt,_]),[p,n]=>zmt P t pt&&P.cellsOf t==1&&z0p p p'&&z0p n n'
  | _,_=>false
 | 7=>match z7m o,xs with
  | some (g,[y]),[f,x]=>zfF P t&&z0p f g&&z0p x y
  | _,_=>false
 | 8=>match o,zyZ xs with
  | .alloc t',some z=>z8v P z t'
  | _,_=>false
 | 9=>match one9 o,xs with
  | some (t',y),[x]=>chk9 P (z2j t) t'&&z0p x y
  | _,_=>false
 | 10=>match o,xs with
  | .move (.const (.slice none 0 0)),[]=>true
  | .assign (.const (.slice none 0 0)),[]=>true
  | _,_=>false
 | 11=>match z3T .append o,xs with
  | some ([x',y'],[t0,u]),[x,y]=>z2K P (z2j t) t0 u&&decide (z0a (z2j t)≠0)&&z0p x x'&&z0p y y'
  | _,_=>false
 | 12=>match o,xs with
  | .box _ y,[x]=>z0p x y
  | _,_=>false
 | _=>false
def zt1 (P:Program) (a:AO) (o:Op):Bool:=match a with
 | .uns k t xs=>zmv P k t xs o
 | .mv x=>match o with
  | .move y=>z0p x y
  | .assign y=>z0p x y
  | _=>false
 | .pick c x y=>match o with
  | .pick c' x' y'=>z0p c c'&&z0p x x'&&z0p y y'
  | _=>false
 | .alloc z=>match o with
  | .alloc t=>z56 P z t
  | _=>false
 | .box x=>match o with
  | .box _ y=>z0p x y
  | _=>false
 | .build z ps=>match o with
  | .build t qs=>zbG P z ps t qs.toList
  | _=>false
 | .bsl _ sh n z ps=>match o with
  | .buildSlice t n' qs=>zmq P sh n z ps t n' qs.toList
  | _=>false
 | .load sh x=>match o with
  | .load t y=>shOf P t==some sh&&z0p x y
  | _=>false
 | .store sh x v=>match o with
  | .store t y u=>shOf P t==some sh&&z0p x y&&z0p v u
  | _=>false
 | .nilchk x=>match o with
  | .nilCheck y=>z0p x y
  | _=>false
 | .bin op x y=>match o with
  | .binOp op' _ x' y' _=>decide (op=op')&&z0p x x'&&z0p y y'
  | _=>false
 | .eqa ks neg x y=>match o with
  | .binOp op' t x' y' _=>decide (op'=if neg then .neq else .eql)&&zgV P t ks&&z0p x x'&&z0p y y'
  | _=>false
 | .isnil k neg x=>match o with
  | .binOp op' t x' y' _=>decide (op'=if neg then .neq else .eql)&&z3V P k t y'&&z0p x x'
  | _=>false
 | .mkif _=>match o with
  | .makeInterface t _=>zuu P t
  | _=>false
 | .un op x=>match o with
  | .unOp op' _ y=>decide (op=op')&&z0p x y
  | _=>false
 | .conv c x=>match o with
  | .convert s d y=>z5i P c s d&&z0p x y
  | _=>false
 | .mkfn f caps=>match o with
  | .makeFunc fn first cs=>(match fn with | .func f'=>f==f' | _=>false)&&first.size==0&&z0J caps cs.toList
  | _=>false
 | .mkmap=>match o with
  | .makeMap _ r=>r.isNone
  | _=>false
 | .mksl sh z l c=>match o with
  | .makeSlice t l' c'=>zfE P sh z t&&z0p l l'&&z0p c c'
  | _=>false
 | .slice sh x lo hi mx=>match o with
  | .slice t x' lo' hi' mx'=>z3z P t sh&&z0p x x'&&z1l lo lo'&&z1l hi hi'&&z1l mx mx'&&(mx.isNone||hi.isSome)
  | _=>false
 | .slstr x lo hi=>match o with
  | .slice t x' lo' hi' mx'=>za2 P t&&z0p x x'&&z1l lo lo'&&z1l hi hi'&&mx'.isNone
  | _=>false
 | .faddr off sh x=>match o with
  | .fieldAddr s y f=>z3y P s f off sh&&z0p x y
  | _=>false
 | .field off sh x=>match o with
  | .field s y f=>z3y P s f off sh&&z0p x y
  | _=>false
 | .iaddr sh x i=>match o with
  | .indexAddr t y j=>z3z P t sh&&z0p x y&&z0p i j
  | _=>false
 | .iaddra n sh x i=>match o with
  | .indexAddr t y j=>z3x P t n sh&&z0p x y&&z0p i j
  | _=>false
 | .idxa n sh x i=>match o with
  | .index t y j=>z3x P t n sh&&z0p x y&&z0p i j
  | _=>false
 | .idxs x i=>match o with
  | .index t y j=>za2 P t&&z0p x y&&z0p i j
  | _=>false
 | .ext x i=>match o with
  | .extract y j=>z0p x y&&i==j
  | _=>false
 | .len x=>match z3T .len o with
  | some ([y],t::_)=>z3K P t==1&&z0p x y
  | _=>false
 | .lens x=>match z3T .len o with
  | some ([y],t::_)=>z3K P t==2&&z0p x y
  | _=>false
 | .lenm x=>match z3T .len o with
  | some ([y],t::_)=>z3K P t==3&&z0p x y
  | _=>false
 | .app sh x y=>match z3T .append o with
  | some ([x',y'],[t,u])=>z2K P sh t u&&z0p x x'&&z0p y y'
  | _=>false
 | .copy sh x y=>match z3T .copy o with
  | some ([x',y'],t::_)=>zfD P sh t&&z0p x x'&&z0p y y'
  | _=>false
 | .clr sh z x=>match z3T .clear o with
  | some ([x'],t::_)=>zmr P sh z t&&z0p x x'
  | _=>false
 | .look kk ok z x k=>match o with
  | .lookup t x' k' ok'=>z6W P kk z t&&ok==ok'&&z0p x x'&&z0p k k'
  | _=>false
 | .mupd kk m k v=>match o with
  | .mapUpdate t m' k' v'=>z5j P kk t&&z0p m m'&&z0p k k'&&z0p v v'
  | .insert t m' k' v'=>z5j P kk t&&z0p m m'&&z0p k k'&&z0p v v'
  | _=>false
 | .ment kk z m k=>match o with
  | .mapEntry t m' k'=>z6W P kk z t&&z0p m m'&&z0p k k'
  | _=>false
 | .estore m s v=>match o with
  | .entryStore _ m' s' v'=>z0p m m'&&z0p s s'&&z0p v v'
  | _=>false
 | .mdel kk m k=>match z3T .delete o with
  | some ([m',k'],t::_)=>z5j P kk t&&z0p m m'&&z0p k k'
  | _=>false
 | .mrange x=>match o with
  | .range t y=>zbJ P t&&z0p x y
  | _=>false
 | .mentry x=>match o with
  | .entry y=>z0p x y
  | _=>false
 | .mx xs=>match z3T .max o with
  | some (ys,_)=>z0J xs ys
  | _=>false
 | .mn xs=>match z3T .min o with
  | some (ys,_)=>z0J xs ys
  | _=>false
 | .new0 _=>match o with
  | .move (.const (.slice none 0 0))=>true
  | .assign (.const (.slice none 0 0))=>true
  | _=>false
 | _=>false
theorem z0A {b:Builtin} {o:Oper} {ys:List Operand} {ts:List TypeId} (hb:z3T b o.op=some (ys,ts)) {ρ:Operand→Value} :
 ∃ cs,(execOp ρ o).run P w=(builtin b ts.toArray o.type cs (ys.map ρ).toArray).run P w:=by
 unfold z3T at hb
 split at hb
 ·rename_i c hc
  split at hb
  ·rename_i b' hcb
   split at hb
   ·rename_i hbb
    subst hbb
    injection hb with hb
    injection hb with h1 h2
    subst h1;subst h2
    refine⟨(c.args.map fun | .const _=>true | _=>false),?_⟩
    unfold execOp
    rw[hc]
    simp only[resolve,hcb,Sem.run_bind,Sem.run_pure,Result.andThen_ok,invoke]
    have e1:(List.map ρ c.args.toList).toArray=c.args.map ρ:=by rw[← Array.toList_map]
    rw[e1]
    rfl
   ·cases hb
  ·cases hb
 ·cases hb
theorem OpOk.congr {s s':Sem Next} {v:AV} {h1:Heap} {e:Esc} (hr:s.run P w=s'.run P w) (H:OpOk P s' h μ w v h1 e):OpOk P s h μ w v h1 e:=by
 obtain⟨nx,w',μ',r,q⟩:=H
 exact⟨nx,w',μ',hr.trans r,q⟩
theorem zyM {v:AV} {x:Value} {n:Nat} (H:RAV M h μ v x) (hn:n64 v=some n):x = .int .i64 n:=by
 unfold n64 at hn
 split at hn
 ·rename_i m
  split at hn
  ·injection hn with hn
   have:=H.p_inv
   cases this
   rw[← hn]
   congr 1
   omega
  ·cases hn
 ·cases hn
theorem zsP {k t:Nat} {xs:List Opd} {o:Oper} (hc:zmv P k t xs o.op=true) {ev:Opd→AV} (hev:∀ v,ev (.c v)=v) {ρ:Operand→Value} (hρ:∀ v,ρ (.const v)=v) {v:AV} {h1:Heap} {e:Esc} (H:HeapRel h μ w) (R:z2g (imm h μ w) h μ ev ρ)
 (he:z2v k t (xs.map ev) h=some (v,h1,e)):OpOk P (execOp ρ o) h μ w v h1 e:=by
 have E:∀ {s:Sem Next},execOp ρ o=s→OpOk P s h μ w v h1 e→OpOk P (execOp ρ o) h μ w v h1 e:=fun hs H=>hs ▸ H
 unfold zmv at hc
 split at hc
 ·split at hc
  case h_2=>cases hc
  rename_i t' x ho
  simp only[Bool.and_eq_true,beq_iff_eq] at hc
  obtain⟨rfl,c2⟩:=hc
  simp only[z2v,List.map_cons,List.map_nil] at he
  split at he
  case h_2=>cases he
  simp only[Option.some.injEq,Prod.mk.injEq] at he
  obtain⟨rfl,rfl,rfl⟩:=he
  exact E (by unfold execOp;rw[ho]) (newBld c2 H)
 ·split at hc
  case h_2=>cases hc
  rename_i s d y x ho
  simp only[Bool.and_eq_true] at hc
  obtain⟨⟨c1,c2⟩,c3⟩:=hc
  simp only[z2v,List.map_cons,List.map_nil] at he
  have Rx:=R _ _ c3
  unfold upcB at he
  split at he
  case h_2=>cases he
  rename_i id hx
  split at he
  case h_2=>cases he
  rename_i t' id' g v2 hob
  split at he
  case isFalse=>cases he
  rename_i hcond
  simp only[Option.some.injEq,Prod.mk.injEq] at he
  obtain⟨rfl,rfl,rfl⟩:=he
  rw[hx] at Rx
  exact E (by unfold execOp;rw[ho]) (upB_ok c1 c2 H Rx hob hcond.1 hcond.2)
 ·split at hc
  case h_2=>cases hc
  rename_i op' t' x' y' u x y ho
  simp only[Bool.and_eq_true,decide_eq_true_eq] at hc
  obtain⟨⟨⟨rfl,c2⟩,c3⟩,c4⟩:=hc
  simp only[z2v,List.map_cons,List.map_nil] at he
  have Rx:=R _ _ c3
  have Ry:=R _ _ c4
  unfold neqB at he
  split at he
  case h_2=>cases he
  rename_i id o1 id' o2 hx hy
  split at he
  case isFalse=>cases he
  rename_i hcond
  obtain⟨rfl,rfl⟩:=hcond
  simp only[Option.some.injEq,Prod.mk.injEq] at he
  obtain⟨rfl,rfl,rfl⟩:=he
  rw[hx] at Rx
  rw[hy] at Ry
  exact E (by unfold execOp;rw[ho]) (zyP c2 H Rx Ry)
 ·split at hc
  case h_2=>cases hc
  rename_i x' y' t0 u x y hb
  simp only[Bool.and_eq_true] at hc
  obtain⟨⟨⟨c1,c2⟩,c3⟩,c4⟩:=hc
  simp only[z2v,List.map_cons,List.map_nil] at he
  obtain⟨cs,hr⟩:=z0A (P:=P) (w:=w) hb (ρ:=ρ)
  exact OpOk.congr hr (zx6 c1 c2 H (R _ _ c3) (R _ _ c4) he)
 ·split at hc
  case h_2=>cases hc
  rename_i y t0 ts x hb
  simp only[Bool.and_eq_true,beq_iff_eq] at hc
  simp only[z2v,List.map_cons,List.map_nil,Option.map_eq_some_iff,Prod.mk.injEq] at he
  obtain⟨n,hn,rfl,rfl,rfl⟩:=he
  obtain⟨cs,hr⟩:=z0A (P:=P) (w:=w) hb (ρ:=ρ)
  have Rx:=R _ _ hc.2
  have hx:∃ a cap,ρ y = .slice a n cap:=by
   unfold lenB at hn
   split at hn
   ·rename_i hx
    rw[hx] at Rx
    injection hn with hn
    subst hn
    generalize ρ y=z at Rx
    cases Rx with | bt1 _ _ _ a cap xs' fz' m hl ho' hm hg hv=>exact⟨_,_,rfl⟩
   ·cases hn
  obtain⟨a,cap,hx⟩:=hx
  exact OpOk.congr hr (zy6 hx H hc.1)
 ·split at hc
  case h_2=>cases hc
  rename_i y ts x hb
  simp only[z2v,List.map_cons,List.map_nil] at he
  obtain⟨cs,hr⟩:=z0A (P:=P) (w:=w) hb (ρ:=ρ)
  exact OpOk.congr hr (ztB H (R _ _ hc) he)
 ·split at hc
  case h_2=>cases hc
  rename_i p' n' pt it p n hb
  simp only[Bool.and_eq_true,beq_iff_eq] at hc
  obtain⟨⟨⟨c1,c2⟩,c3⟩,c4⟩:=hc
  simp only[z2v,List.map_cons,List.map_nil] at he
  obtain⟨cs,hr⟩:=z0A (P:=P) (w:=w) hb (ρ:=ρ)
  split at he
  ·rename_i m hm
   have hn:=zyM (R _ _ c4) hm
   refine OpOk.congr hr ?_
   simp only[List.map_cons,List.map_nil,hn]
   exact zz1 (ts:=[]) c1 c2 H (R _ _ c3) he
  ·cases he
 ·split at hc
  case h_2=>cases hc
  rename_i g y f x hb
  simp only[Bool.and_eq_true] at hc
  obtain⟨⟨c1,c2⟩,c3⟩:=hc
  simp only[z2v,List.map_cons,List.map_nil] at he
  have Rf:=R _ _ c2
  have Rx:=R _ _ c3
  unfold zzp at he
  split at he
  case h_2=>cases he
  rename_i g' hf
  split at he
  case isFalse=>cases he
  rename_i hcond
  subst hcond
  simp only[Option.some.injEq,Prod.mk.injEq] at he
  obtain⟨rfl,rfl,rfl⟩:=he
  rw[hf] at Rf
  have hg:ρ g = .func (.func g') #[] #[]:=by
   generalize ρ g=z at Rf
   cases Rf with | fn _ cs vs hl hr=>
   have:vs=[]:=List.length_eq_zero_iff.1 (by rw[← hl];rfl)
   subst this
   rfl
  exact zuV c1 hb hg H Rx
 ·split at hc
  case h_2=>cases hc
  rename_i t' z ho hz
  rw[zik hev hz] at he
  simp only[z2v,Option.some.injEq,Prod.mk.injEq] at he
  obtain⟨rfl,rfl,rfl⟩:=he
  exact E (by unfold execOp;rw[ho]) (zlY hc H)
 ·split at hc
  case h_2=>cases hc
  rename_i t' y x ho
  simp only[Bool.and_eq_true] at hc
  obtain⟨c1,c2⟩:=hc
  have ho:=zyV ho
  simp only[z2v,List.map_cons,List.map_nil] at he
  split at he
  case h_2=>cases he
  rename_i cs hv
  split at he
  case isFalse=>cases he
  rename_i hl
  simp only[Option.some.injEq,Prod.mk.injEq] at he
  obtain⟨rfl,rfl,rfl⟩:=he
  exact E (s:=do pure (.value (← Instr.buildSlice t' 1 #[(0,ρ y)]))) (by unfold execOp;rw[ho];simp) (zml rfl c1 H (R _ _ c2) hv hl)
 ·split at hc
  ·rename_i ho
   simp only[z2v,List.map_nil,Option.some.injEq,Prod.mk.injEq] at he
   obtain⟨rfl,rfl,rfl⟩:=he
   exact E (by unfold execOp;rw[ho];simp only[hρ]) (zid H)
  ·rename_i ho
   simp only[z2v,List.map_nil,Option.some.injEq,Prod.mk.injEq] at he
   obtain⟨rfl,rfl,rfl⟩:=he
   exact E (by unfold execOp;rw[ho];simp only[hρ]) (zid H)
  ·cases hc
 ·split at hc
  case h_2=>cases hc
  rename_i x' y' t0 u x y hb
  simp only[Bool.and_eq_true,decide_eq_true_eq] at hc
  obtain⟨⟨⟨c1,c2⟩,c3⟩,c4⟩:=hc
  simp only[z2v,List.map_cons,List.map_nil] at he
  obtain⟨cs,hr⟩:=z0A (P:=P) (w:=w) hb (ρ:=ρ)
  exact OpOk.congr hr (apA_ok rfl c1 c2 H (R _ _ c3) (R _ _ c4) he)
 ·split at hc
  case h_2=>cases hc
  rename_i t' y x ho
  simp only[z2v,List.map_cons,List.map_nil] at he
  split at he
  case h_2=>cases he
  rename_i cs hv
  simp only[Option.some.injEq,Prod.mk.injEq] at he
  obtain⟨rfl,rfl,rfl⟩:=he
  exact E (by unfold execOp;rw[ho]) (zxV H (R _ _ hc) hv)
 ·cases hc
theorem zij {a:AO} {o:Oper} (hc:zt1 P a o.op=true) {ev:Opd→AV} (hev:∀ v,ev (.c v)=v) {ρ:Operand→Value} (hρ:∀ v,ρ (.const v)=v) {v:AV} {h1:Heap} {e:Esc} (H:HeapRel h μ w) (R:z2g (imm h μ w) h μ ev ρ)
 (he:aop a ev h=some (v,h1,e)):OpOk P (execOp ρ o) h μ w v h1 e:=by
 have E:∀ {s:Sem Next},execOp ρ o=s→OpOk P s h μ w v h1 e→OpOk P (execOp ρ o) h μ w v h1 e:=fun hs H=>hs ▸ H
 cases a <;> simp only[zt1] at hc
 case mv x=>
  split at hc
  ·rename_i y ho;exact E (by unfold execOp;rw[ho]) (mv_ok H (R _ _ hc) he)
  ·rename_i y ho;exact E (by unfold execOp;rw[ho]) (mv_ok H (R _ _ hc) he)
  ·cases hc
 case uns k t xs=>exact zsP hc hev hρ H R he
 case pick c x y=>
  split at hc
  ·rename_i c' x' y' ho
   simp only[Bool.and_eq_true] at hc
   exact E (by unfold execOp;rw[ho]) (zzc H (R _ _ hc.1.1) (R _ _ hc.1.2) (R _ _ hc.2) he)
  ·cases hc
 case alloc z=>
  split at hc
  ·rename_i t ho
   simp only[aop,Option.some.injEq,Prod.mk.injEq] at he
   obtain⟨rfl,rfl,rfl⟩:=he
   exact E (by unfold execOp;rw[ho]) (zto hc H)
  ·cases hc
 case box x=>
  split at hc
  ·rename_i t y ho
   simp only[aop] at he
   split at he
   ·rename_i cs hcs
    simp only[Option.some.injEq,Prod.mk.injEq] at he
    obtain⟨rfl,rfl,rfl⟩:=he
    exact E (by unfold execOp;rw[ho]) (box_ok H (R _ _ hc) hcs)
   ·cases he
  ·cases hc
 case build z ps=>
  split at hc
  ·rename_i t qs ho
   simp only[aop,Option.map_eq_some_iff,Prod.mk.injEq] at he
   obtain⟨cs,hcs,rfl,rfl,rfl⟩:=he
   exact E (by unfold execOp;rw[ho]) (zty hc H R hcs)
  ·cases hc
 case bsl own sh n z ps=>
  split at hc
  ·rename_i t n' qs ho
   exact E (by unfold execOp;rw[ho]) (bsl_ok hc H R he)
  ·cases hc
 case load sh x=>
  split at hc
  ·rename_i t y ho
   simp only[Bool.and_eq_true,beq_iff_eq] at hc
   exact E (by unfold execOp;rw[ho]) (zyE hc.1 H (R _ _ hc.2) ev x rfl he)
  ·cases hc
 case store sh x u=>
  split at hc
  ·rename_i t y z ho
   simp only[Bool.and_eq_true,beq_iff_eq] at hc
   exact E (by unfold execOp;rw[ho]) (zvh hc.1.1 H ev x u (R _ _ hc.1.2) (R _ _ hc.2) he)
  ·cases hc
 case nilchk x=>
  split at hc
  ·rename_i y ho;exact zqo H (R _ _ hc) he rfl ho
  ·cases hc
 case bin op x y=>
  split at hc
  ·rename_i op' t x' y' u ho
   simp only[Bool.and_eq_true,decide_eq_true_eq] at hc
   obtain⟨⟨rfl,c2⟩,c3⟩:=hc
   exact E (by unfold execOp;rw[ho]) (bin_ok H (R _ _ c2) (R _ _ c3) he)
  ·cases hc
 case eqa ks neg x y=>
  split at hc
  ·rename_i op' t x' y' u ho
   simp only[Bool.and_eq_true,decide_eq_true_eq] at hc
   obtain⟨⟨⟨c1,c2⟩,c3⟩,c4⟩:=hc
   exact E (by unfold execOp;rw[ho]) (eqa_ok c1 c2 H (R _ _ c3) (R _ _ c4) he)
  ·cases hc
 case isnil k neg x=>
  split at hc
  ·rename_i op' t x' y' u ho
   simp only[Bool.and_eq_true,decide_eq_true_eq] at hc
   obtain⟨⟨c1,c2⟩,c3⟩:=hc
   have hy:∃ z,y' = .const z:=by
    unfold z3V at c2
    split at c2 <;> first | exact⟨_,rfl⟩ | cases c2
   obtain⟨z,rfl⟩:=hy
   have:=zuw (P:=P) (a:=x') c1 c2 H (R _ _ c3) he
   refine E (by unfold execOp;rw[ho]) ?_
   simp only[hρ]
   exact this
  ·cases hc
 case mkif x=>
  split at hc
  ·rename_i t y ho;exact E (by unfold execOp;rw[ho]) (zyK hc H he)
  ·cases hc
 case un op x=>
  split at hc
  ·rename_i op' t y ho
   simp only[Bool.and_eq_true,decide_eq_true_eq] at hc
   obtain⟨rfl,c2⟩:=hc
   exact E (by unfold execOp;rw[ho]) (un_ok H (R _ _ c2) he)
  ·cases hc
 case conv c x=>
  split at hc
  ·rename_i s d y ho
   simp only[Bool.and_eq_true] at hc
   exact E (by unfold execOp;rw[ho]) (zxZ hc.1 H (R _ _ hc.2) he)
  ·cases hc
 case mkfn f caps=>
  split at hc
  ·rename_i fn first cs ho
   simp only[Bool.and_eq_true,beq_iff_eq] at hc
   obtain⟨⟨c1,c2⟩,c3⟩:=hc
   split at c1
   ·simp only[beq_iff_eq] at c1
    subst c1
    exact E (by unfold execOp;rw[ho]) (zyJ c3 (Array.eq_empty_of_size_eq_zero c2) H R he)
   ·cases c1
  ·cases hc
 case mkmap=>
  split at hc
  ·rename_i t r ho
   rw[Option.isNone_iff_eq_none] at hc
   subst hc
   exact E (s:=do pure (.value (← Instr.makeMap t none))) (by unfold execOp;rw[ho];rfl) (zu3 rfl H he)
  ·cases hc
 case mksl sh z l c=>
  split at hc
  ·rename_i t l' c' ho
   simp only[Bool.and_eq_true] at hc
   exact E (by unfold execOp;rw[ho]) (zyL hc.1.1 H (R _ _ hc.1.2) (R _ _ hc.2) he)
  ·cases hc
 case slice sh x lo hi mx=>
  split at hc
  ·rename_i t x' lo' hi' mx' ho
   simp only[Bool.and_eq_true,Bool.or_eq_true] at hc
   obtain⟨⟨⟨⟨⟨c1,c2⟩,c3⟩,c4⟩,c5⟩,c6⟩:=hc
   refine E (by unfold execOp;rw[ho]) (zuY c1 H R c2 c3 c4 c5 (fun hm=>?_) he)
   rcases c6 with c6 | c6
   ·cases mx <;> simp_all
   ·exact c6
  ·cases hc
 case slstr x lo hi=>
  split at hc
  ·rename_i t x' lo' hi' mx' ho
   simp only[Bool.and_eq_true] at hc
   obtain⟨⟨⟨⟨c1,c2⟩,c3⟩,c4⟩,c5⟩:=hc
   rw[Option.isNone_iff_eq_none] at c5
   subst c5
   exact E (s:=do pure (.value (← Instr.sliceAt t (ρ x') (lo'.map ρ) (hi'.map ρ) none))) (by unfold execOp;rw[ho];rfl) (zuZ c1 H R c2 c3 c4 he)
  ·cases hc
 case faddr off sh x=>
  split at hc
  ·rename_i s y f ho
   simp only[Bool.and_eq_true] at hc
   exact E (by unfold execOp;rw[ho]) (zub hc.1 H ev x (R _ _ hc.2) he)
  ·cases hc
 case field off sh x=>
  split at hc
  ·rename_i s y f ho
   simp only[Bool.and_eq_true] at hc
   exact E (by unfold execOp;rw[ho]) (zud hc.1 H ev x (R _ _ hc.2) he)
  ·cases hc
 case iaddr sh x i=>
  split at hc
  ·rename_i t y j ho
   simp only[Bool.and_eq_true] at hc
   exact E (by unfold execOp;rw[ho]) (zuq hc.1.1 H ev x i (R _ _ hc.1.2) (R _ _ hc.2) he)
  ·cases hc
 case iaddra n sh x i=>
  split at hc
  ·rename_i t y j ho
   simp only[Bool.and_eq_true] at hc
   exact E (by unfold execOp;rw[ho]) (zpn hc.1.1 H ev x i (R _ _ hc.1.2) (R _ _ hc.2) he)
  ·cases hc
 case idxa n sh x i=>
  split at hc
  ·rename_i t y j ho
   simp only[Bool.and_eq_true] at hc
   exact E (by unfold execOp;rw[ho]) (zyw hc.1.1 H ev x i (R _ _ hc.1.2) (R _ _ hc.2) he)
  ·cases hc
 case idxs x i=>
  split at hc
  ·rename_i t y j ho
   simp only[Bool.and_eq_true] at hc
   exact E (by unfold execOp;rw[ho]) (zyx hc.1.1 H ev x i (R _ _ hc.1.2) (R _ _ hc.2) he)
  ·cases hc
 case ext x i=>
  split at hc
  ·rename_i y j ho
   simp only[Bool.and_eq_true,beq_iff_eq] at hc
   obtain⟨c1,rfl⟩:=hc
   exact E (by unfold execOp;rw[ho]) (ext_ok H (R _ _ c1) he)
  ·cases hc
 case len x=>
  split at hc
  ·rename_i y t ts hb
   simp only[Bool.and_eq_true,beq_iff_eq] at hc
   obtain⟨cs,hr⟩:=z0A (P:=P) (w:=w) hb (ρ:=ρ)
   exact OpOk.congr hr (len_ok hc.1 H (R _ _ hc.2) he)
  ·cases hc
 case lens x=>
  split at hc
  ·rename_i y t ts hb
   simp only[Bool.and_eq_true,beq_iff_eq] at hc
   obtain⟨cs,hr⟩:=z0A (P:=P) (w:=w) hb (ρ:=ρ)
   exact OpOk.congr hr (zyB hc.1 H (R _ _ hc.2) he)
  ·cases hc
 case lenm x=>
  split at hc
  ·rename_i y t ts hb
   simp only[Bool.and_eq_true,beq_iff_eq] at hc
   obtain⟨cs,hr⟩:=z0A (P:=P) (w:=w) hb (ρ:=ρ)
   exact OpOk.congr hr (zyA hc.1 H (R _ _ hc.2) he)
  ·cases hc
 case app sh x y=>
  split at hc
  ·rename_i x' y' t u hb
   simp only[Bool.and_eq_true] at hc
   obtain⟨cs,hr⟩:=z0A (P:=P) (w:=w) hb (ρ:=ρ)
   exact OpOk.congr hr (app_ok hc.1.1 H (R _ _ hc.1.2) (R _ _ hc.2) he)
  ·cases hc
 case copy sh x y=>
  split at hc
  ·rename_i x' y' t ts hb
   simp only[Bool.and_eq_true] at hc
   obtain⟨cs,hr⟩:=z0A (P:=P) (w:=w) hb (ρ:=ρ)
   exact OpOk.congr hr (zya hc.1.1 H (R _ _ hc.1.2) (R _ _ hc.2) he)
  ·cases hc
 case clr sh z x=>
  split at hc
  ·rename_i x' t ts hb
   simp only[Bool.and_eq_true] at hc
   obtain⟨cs,hr⟩:=z0A (P:=P) (w:=w) hb (ρ:=ρ)
   exact OpOk.congr hr (clr_ok hc.1 H (R _ _ hc.2) he)
  ·cases hc
 case look kk ok z x k=>
  split at hc
  ·rename_i t x' k' ok' ho
   simp only[Bool.and_eq_true,beq_iff_eq] at hc
   obtain⟨⟨⟨c1,rfl⟩,c3⟩,c4⟩:=hc
   exact E (by unfold execOp;rw[ho]) (zyG c1 H (R _ _ c3) (R _ _ c4) he)
  ·cases hc
 case mupd kk m k u=>
  split at hc
  ·rename_i t m' k' v' ho
   simp only[Bool.and_eq_true] at hc
   obtain⟨⟨⟨c1,c2⟩,c3⟩,c4⟩:=hc
   exact E (by unfold execOp;rw[ho]) (zqj c1 H (R _ _ c2) (R _ _ c3) (R _ _ c4) he)
  ·rename_i t m' k' v' ho
   simp only[Bool.and_eq_true] at hc
   obtain⟨⟨⟨c1,c2⟩,c3⟩,c4⟩:=hc
   exact E (by unfold execOp;rw[ho]) (zqj c1 H (R _ _ c2) (R _ _ c3) (R _ _ c4) he)
  ·cases hc
 case ment kk z m k=>
  split at hc
  ·rename_i t m' k' ho
   simp only[Bool.and_eq_true] at hc
   exact E (by unfold execOp;rw[ho]) (zyI hc.1.1 H (R _ _ hc.1.2) (R _ _ hc.2) he)
  ·cases hc
 case estore m s u=>
  split at hc
  ·rename_i t m' s' v' ho
   simp only[Bool.and_eq_true] at hc
   exact E (by unfold execOp;rw[ho]) (zoK H (R _ _ hc.1.1) (R _ _ hc.1.2) (R _ _ hc.2) he)
  ·cases hc
 case mdel kk m k=>
  split at hc
  ·rename_i m' k' t ts hb
   simp only[Bool.and_eq_true] at hc
   obtain⟨cs,hr⟩:=z0A (P:=P) (w:=w) hb (ρ:=ρ)
   exact OpOk.congr hr (zyH hc.1.1 H (R _ _ hc.1.2) (R _ _ hc.2) he)
  ·cases hc
 case mrange x=>
  split at hc
  ·rename_i t y ho
   simp only[Bool.and_eq_true] at hc
   exact E (by unfold execOp;rw[ho]) (zqi hc.1 H (R _ _ hc.2) he)
  ·cases hc
 case mentry x=>
  split at hc
  ·rename_i y ho
   exact E (by unfold execOp;rw[ho]) (zqg H (R _ _ hc) he)
  ·cases hc
 case mx xs=>
  split at hc
  ·rename_i ys ts hb
   obtain⟨cs,hr⟩:=z0A (P:=P) (w:=w) hb (ρ:=ρ)
   refine OpOk.congr hr ?_
   have:=mx_ok (P:=P) (cs:=ys.toArray) (ts:=ts.toArray) (ty:=o.type) hc H R he
   have h2:Array.map ρ ys.toArray=(List.map ρ ys).toArray:=by simp
   rw[h2] at this
   exact this
  ·cases hc
 case mn xs=>
  split at hc
  ·rename_i ys ts hb
   obtain⟨cs,hr⟩:=z0A (P:=P) (w:=w) hb (ρ:=ρ)
   refine OpOk.congr hr ?_
   have:=mn_ok (P:=P) (cs:=ys.toArray) (ts:=ts.toArray) (ty:=o.type) hc H R he
   have h2:Array.map ρ ys.toArray=(List.map ρ ys).toArray:=by simp
   rw[h2] at this
   exact this
  ·cases hc
 case new0 sh=>
  split at hc
  ·rename_i ho
   refine E (s:=pure (.value (.slice none 0 0))) (by unfold execOp;rw[ho];simp only[hρ]) (zql H he)
  ·rename_i ho
   refine E (s:=pure (.value (.slice none 0 0))) (by unfold execOp;rw[ho];simp only[hρ]) (zql H he)
  ·cases hc
 all_goals cases hc
end Go.Am
end
