/- Texts of the proof, laid together: Am18, AmM, AmN, AmA, AmU, Am19, Am20, AmD, AmE, AmF, AmG. -/
import Derived.MapKept
import Derived.Lib.UnsafeStr
import Derived.Lib.Builder
import Derived.Laws.Externs
import GoSem.Extern.Table
import Derived.Orders
import Derived.Test.YtahgfbhabpiplaaGreatDoorlawRE1
set_option linter.all false
section
/- The abstract machine,part 18: conversions,functions,greatest and PN,new maps. -/
set_option linter.unusedSimpArgs false
set_option linter.unusedVariables false
set_option maxHeartbeats 1000000
namespace Go.Am
variable {h h':aA} {μ μ':Mu} {w w':World} {P:Program} {M M':Mem}
def uG (P:Program)(c:Cv)(src dst:TypeId):Bool:=match c with
 | .i k=>(P.underlying src).isSome&&(match P.underlying dst with|some (.int k')=>k==k'|_=>false)
 | .s2b=>(match P.underlying src with|some .string=>true|_=>false)&&(match P.underlying dst with|some (.slice e)=>(match P.underlying e with|some (.int .u8)=>PA P e==some none|_=>false)|_=>false)
 | .b2s=>(match P.underlying src with|some (.slice e)=>(match P.underlying e with|some (.int .u8)=>PA P e==some none|_=>false)|_=>false)&&(match P.underlying dst with|some .string=>true|_=>false)
 | .r2s=>(P.underlying src).isSome&&(match P.underlying dst with|some .string=>true|_=>false)
 | .same=>(P.underlying src).isSome&&(match P.underlying dst with|some .string=>true|_=>false)
theorem z3W:∀ {xs:List PV} {b:List UInt8},mF xs=some b→xs=ZA b
 | [],b,h=>by simp [mF]at h;subst h;rfl
 | x::r,b,h=>by
  unfold mF at h;split at h
  ·cases ‹_::_=[]›
  ·rename_i n r' he
   injection he with e1 e2
   subst e1;subst e2
   split at h
   ·rename_i hn
    simp only[Option.map_eq_some_iff]at h;obtain⟨l,h1,rfl⟩:=h;rw[z3W h1];simp [ZA];omega
   ·cases h
  ·cases h
theorem BY (s:List UInt8)(j:Nat):(ZA s)[j]?=(s[j]?).map fun b=>.int .u8 b.toNat:=by simp [ZA]
theorem z8P {c:Cv}{src dst:TypeId}(hc:uG P c src dst=true){ev:Opd→AV}{p:Opd}{x:Value}{v:AV}{h1:aA}{e:Esc}(H:HeapRel h μ w)(Rp:RAV (imm h μ w) h μ (ev p) x)
 (he:aop (.conv c p) ev h=some (v,h1,e)):kA P (do pure (.value (←convert src dst x))) h μ w v h1 e:=by
 simp only[aop,Option.map_eq_some_iff,Prod.mk.injEq]at he;obtain⟨⟨u,hh⟩,hconv,rfl,rfl,rfl⟩:=he;cases c with
 | i k=>
  simp only[uG,Bool.and_eq_true]at hc;obtain⟨c1,c2⟩:=hc;obtain⟨d,hd⟩:=Option.isSome_iff_exists.1 c1;have hu:P.underlying dst=some (.int k):=by
   split at c2
   ·rename_i k' hk;rw[hk];simp at c2;rw[c2]
   ·cases c2
  simp only[ZD]at hconv;split at hconv
  ·rename_i hp
   simp only[Option.some.injEq,Prod.mk.injEq]at hconv;obtain⟨rfl,rfl⟩:=hconv;rw[hp]at Rp;rw[Rp.p_int];refine kA.pure H (sA (u:=.int k (k.wrap _)) ?_) (.p _ _ (.int _ _));simp [convert,AA hd,AA hu,Conv.intToInt]
  ·cases hconv
 | s2b=>
  simp only[uG,Bool.and_eq_true]at hc;obtain⟨c1,c2⟩:=hc;have hs:P.underlying src=some .string:=by split at c1 <;> simp_all
  have hd:∃el,P.underlying dst=some (.slice el)∧P.underlying el=some (.int .u8)∧PA P el=some none:=by
   split at c2
   ·rename_i el hel
    split at c2
    ·rename_i hu8;exact⟨el,hel,hu8,by simpa using c2⟩
    ·cases c2
   ·cases c2
  obtain⟨el,hd,hu8,hsh⟩:=hd;simp only[ZD]at hconv;split at hconv
  ·rename_i s hp
   split at hconv
   ·simp only[Option.some.injEq,Prod.mk.injEq]at hconv
    obtain⟨rfl,rfl⟩:=hconv;rw[hp]at Rp;rw[Rp.p_str];have hrun:=run_bytes_of_string w src dst el ⟨s.toArray⟩ hs hd hu8
    have hsz:(⟨s.toArray⟩:ByteArray).size=s.length:=rfl
    rw[hsz]at hrun;generalize hcap:grownCap w s.length 0 el=cap at hrun;have hle:s.length≤cap:=by rw[←hcap];exact qY _ _ _ _
    generalize hrow:bytesRow ⟨s.toArray⟩ cap=row at hrun;have hrs:row.size=cap:=by rw[←hrow];simp [bytesRow,hsz];omega
    have hB:QA (w.drew.alloc (.cells row el (row.size,row.size+1))) w.heap.size cap row:=⟨hrs,el,row.size,row.size+1,by
     show(w.heap.push _)[w.heap.size]?=_
     simp,fun _=>by omega⟩
    have hW:WExt w (w.drew.alloc (.cells row el (row.size,row.size+1))):=by
     refine⟨?_,fun b hb=>?_,rfl⟩
     ·show w.heap.size≤(w.heap.push _).size
      simp
     ·show(w.heap.push _)[b]?=_
      simp [Array.getElem?_push,Nat.ne_of_lt hb]
    have hlt:w.heap.size<(w.drew.alloc (.cells row el (row.size,row.size+1))).heap.size:=by
     show w.heap.size<(w.heap.push _).size
     simp
    obtain⟨n1,n2⟩:=QF (sh:=none) (xs:=ZA s) H hW (Nat.le_refl _) hlt hB (by simp [ZA,gA];omega) (fun x hx=>by
     simp only[ZA,List.mem_map]at hx;obtain⟨b,_,rfl⟩:=hx;rfl) (fun i j x y hx hy=>by
     rw[BY]at hx;simp only[Option.map_eq_some_iff]at hx;obtain⟨b,hb,rfl⟩:=hx;have hj:j=0∧y = .int .u8 b.toNat:=by
      cases j with
      | zero=>simp [PV.cells]at hy;exact⟨rfl,hy.symm⟩
      | succ j=>simp [PV.cells]at hy
     obtain⟨rfl,rfl⟩:=hj;have hi:=tA hb
     refine⟨.int .u8 b.toNat,?_,.int _ _⟩;rw[←hrow];have:=bytesRow_at ⟨s.toArray⟩ cap i (by simpa using hi)
     simp only[gA,Nat.mul_one,Nat.add_zero];rw[this];have hb':s[i]=b:=by rw[List.getElem?_eq_getElem hi]at hb;simpa using hb
     simp [hb'])
    refine⟨_,_,_,sA hrun,.inl ⟨_,rfl,?_⟩,n1,n2,mA.push (by simp [Obj.top])⟩
    refine .own h.length s.length 0 s.length _ cap none (ZA s) 0 (some (w.heap.size,cap)) hle (by simp) (by rw[←H.len];simp) (by simp [ZA]) (by omega) (fun _=>?_)
    right;exact⟨by simp,by simp [gA]⟩
   ·cases hconv
  ·cases hconv
 | b2s=>
  simp only[uG,Bool.and_eq_true]at hc;obtain⟨c1,c2⟩:=hc;have hd:P.underlying dst=some .string:=by split at c2 <;> simp_all
  have hs:∃el,P.underlying src=some (.slice el)∧P.underlying el=some (.int .u8)∧PA P el=some none:=by
   split at c1
   ·rename_i el hel
    split at c1
    ·rename_i hu8;exact⟨el,hel,hu8,by simpa using c1⟩
    ·cases c1
   ·cases c1
  obtain⟨el,hs,hu8,hsh⟩:=hs;have hconv':=hconv
  simp only[ZD]at hconv';split at hconv'
  ·rename_i y hy
   obtain⟨sh,ys⟩:=y;simp only[Option.map_eq_some_iff,Prod.mk.injEq]at hconv';obtain⟨b,hb,rfl,rfl⟩:=hconv';have hys:=z3W hb
   subst hys;obtain⟨a,cap,rfl,hcap,hrd⟩:=z2J H Rp hy;have hlen:(ZA b).length=b.length:=by simp [ZA]
   rw[hlen]at *;refine kA.pure H (sA (u:=.string ⟨b.toArray⟩) ?_) (.p _ _ (.str b));cases a with
   | none=>
    have hb0:b=[]:=by
     rcases Classical.em (b=[]) with h0|h0
     ·exact h0
     ·obtain⟨_,_,_,ha,_⟩:=hrd (by simp [ZA];exact h0)
      cases ha
    subst hb0;rw[run_convert_bytes_string w src dst el none _ _ hs hu8 hd];rfl
   | some a=>
    refine run_convert_bytes_back w src dst el a cap b hs hu8 hd (fun j hj=>?_)
    obtain⟨bb,o,f,ha,hshp,hcell⟩:=hrd (by intro h0;have:=congrArg List.length h0;simp [ZA]at this;rw[this]at hj;simp at hj)
    injection ha with ha
    subst ha;have hfl:((ZA b).flatMap PV.cells)[j]?=some (.int .u8 b[j].toNat):=by
     rw[CY,BY,List.getElem?_eq_getElem hj];rfl
    obtain⟨q1,q2⟩:=hcell j _ hfl;rw[bC,q1];generalize f j=z at q2 ⊢;cases q2;rfl
  ·cases hconv'
 | r2s=>
  simp only[uG,Bool.and_eq_true]at hc;obtain⟨c1,c2⟩:=hc;have hd:P.underlying dst=some .string:=by split at c2 <;> simp_all
  simp only[ZD]at hconv;split at hconv
  ·rename_i k n hp
   split at hconv
   ·rename_i hn
    simp only[Option.some.injEq,Prod.mk.injEq]at hconv;obtain⟨rfl,rfl⟩:=hconv;rw[hp]at Rp;rw[Rp.p_int];refine kA.pure H (sA (u:=.string ⟨#[UInt8.ofNat n.toNat]⟩) ?_) ?_
    ·rw[run_convert_int_string w src dst k n c1 hd]
     have hv:Utf8.valid n=true:=by simp [Utf8.valid];omega
     have h2:n.toNat<128:=by omega
     simp [Utf8.encode,hv,h2]
    ·have:=RPV.str (M:=imm h μ w) [UInt8.ofNat n.toNat]
     exact .p _ _ this
   ·cases hconv
  ·cases hconv
 | same=>
  simp only[uG,Bool.and_eq_true]at hc;obtain⟨c1,c2⟩:=hc;have hd:P.underlying dst=some .string:=by split at c2 <;> simp_all
  obtain⟨d,hd1⟩:=Option.isSome_iff_exists.1 c1;simp only[ZD]at hconv;split at hconv
  ·rename_i s hp
   simp only[Option.some.injEq,Prod.mk.injEq]at hconv;obtain⟨rfl,rfl⟩:=hconv;rw[hp]at Rp;rw[Rp.p_str];refine kA.pure H (sA (u:=.string ⟨s.toArray⟩) ?_) (.p _ _ (.str s));simp [convert,AA hd1,AA hd]
  ·cases hconv
def dB:List Opd→List Operand→Bool
 | [],[]=>true
 | a::r,b::s=>xA a b&&dB r s
 | _,_=>false
theorem WF:∀ {xs:List Opd} {ys:List Operand},dB xs ys=true→xs.length=ys.length
 | [],[],_=>rfl
 | [],_::_,h=>by simp [dB]at h
 | _::_,[],h=>by simp [dB]at h
 | a::r,b::s,h=>by simp only[dB,Bool.and_eq_true]at h;simp [WF h.2]
theorem zfa {xs:List Opd}{y:Operand}(h:dB xs [y]=true):∃q,xs=[q]∧xA q y=true:=by
 match xs,h with
 | [],h=>simp [dB]at h
 | [q],h=>exact⟨q,rfl,by simpa [dB] using h⟩
 | _::_::_,h=>simp [dB]at h
theorem zfb {xs:List Opd}{y z:Operand}(h:dB xs [y,z]=true):∃q r,xs=[q,r]∧xA q y=true∧xA r z=true:=by
 match xs,h with
 | [],h=>simp [dB]at h
 | [q],h=>simp [dB]at h
 | [q,r],h=>exact⟨q,r,rfl,by simpa [dB] using h⟩
 | _::_::_::_,h=>simp [dB]at h
theorem XF {ev:Opd→AV}{ρ:Operand→Value}(R:LC M h μ ev ρ):∀{xs:List Opd} {ys:List Operand},dB xs ys=true →
 ∀(j:Nat) (y:AV) (v:Value),(xs.map ev)[j]?=some y→(ys.map ρ)[j]?=some v→RAV M h μ y v
 | [],[],_,j,y,v,h1,h2=>by simp at h1
 | [],_::_,h,_,_,_,_,_=>by simp [dB]at h
 | _::_,[],h,_,_,_,_,_=>by simp [dB]at h
 | a::r,b::s,h,j,y,v,h1,h2=>by
  simp only[dB,Bool.and_eq_true]at h;cases j with
  | zero=>simp at h1 h2;subst h1;subst h2;exact R a b h.1
  | succ j=>exact XF R h.2 j y v (by simpa using h1) (by simpa using h2)
theorem ze9 {f:Nat}{caps:List Opd}{first cs:Array Operand}{ev:Opd→AV}{ρ:Operand→Value}(hc:dB caps cs.toList=true)(hf:first = #[]){v:AV}{h1:aA}{e:Esc}(H:HeapRel h μ w)(R:LC (imm h μ w) h μ ev ρ)
 (he:aop (.mkfn f caps) ev h=some (v,h1,e)):kA P (do pure (.value (←Instr.makeFunc (.func f) (first.map ρ) (cs.map ρ)))) h μ w v h1 e:=by
 simp only[aop,Option.some.injEq,Prod.mk.injEq]at he;obtain⟨rfl,rfl,rfl⟩:=he;subst hf;refine kA.pure H (sA rfl) ?_;have:=RAV.fn (M:=imm h μ w) (h:=h) (μ:=μ) f (caps.map ev) (cs.toList.map ρ) (by simp [WF hc]) (fun j y v h1 h2=>XF R hc j y v h1 h2)
 have h2:(List.map ρ cs.toList).toArray=cs.map ρ:=by rw[←Array.toList_map]
 rw[h2]at this;have h3:Array.map ρ #[] = #[]:=by simp
 rw[h3];exact this
theorem zeB {t:TypeId}{r:Option Value}(hr:r=none){ev:Opd→AV}{v:AV}{h1:aA}{e:Esc}(H:HeapRel h μ w)(he:aop .mkmap ev h=some (v,h1,e)):kA P (do pure (.value (←Instr.makeMap t r))) h μ w v h1 e:=by
 simp only[aop,Option.some.injEq,Prod.mk.injEq]at he;obtain⟨rfl,rfl,rfl⟩:=he;subst hr;have hrun:(Instr.makeMap t none).run P w = .ok (.map (some w.heap.size)) { w with heap:=w.heap.push (.map #[] 0) }:=by
  simp only[Instr.makeMap];rfl
 obtain⟨n1,n2⟩:=H.push (WExt.push w (.map #[] 0)) (.amap [] 0) (some (w.heap.size,0)) (fun b n e=>by injection e with e;injection e with e1 e2;subst e1;exact⟨Nat.le_refl _,by simp⟩)
  (fun M' E=>⟨w.heap.size,0,#[],rfl,by simp,rfl,fun e he=>(by cases he),fun i e ce he=>(by cases he)⟩)
 exact⟨_,_,_,sA hrun,.inl ⟨_,rfl,.mp h.length w.heap.size 0 [] 0 (by simp) (by rw[←H.len];simp)⟩,n1,n2,mA.push (by simp [Obj.top,AV.tops])⟩
theorem z4i {ev:Opd→AV}{xs:List Opd}{l:List PV}(hu:unp (xs.map ev)=some l):xs.length=l.length∧∀(j:Nat) (y:PV),l[j]?=some y→(xs.map ev)[j]?=some (.p y):=by
 have:=vJ hu;refine⟨by have:=congrArg List.length this;simpa using this,fun j y hy=>by rw[this];simp [hy]⟩
theorem mx_ok {xs:List Opd}{cs:Array Operand}{ts:Array TypeId}{ty:TypeId}(hc:dB xs cs.toList=true){ev:Opd→AV}{ρ:Operand→Value}{v:AV}{h1:aA}{e:Esc}(H:HeapRel h μ w)(R:LC (imm h μ w) h μ ev ρ)
 (he:aop (.mx xs) ev h=some (v,h1,e)):kA P (do pure (.value (←Builtin.max_ ts ty (cs.map ρ)))) h μ w v h1 e:=by
 simp only[aop]at he;split at he
 ·rename_i a r hm
  simp only[Option.map_eq_some_iff,Option.bind_eq_some_iff,Prod.mk.injEq]at he;obtain⟨q,⟨l,hl,hq⟩,rfl,rfl,rfl⟩:=he;cases xs with
  | nil=>simp at hm
  | cons o os=>
   cases hcs:cs.toList with
   | nil=>rw[hcs]at hc;simp [dB]at hc
   | cons c cs'=>
    rw[hcs]at hc;simp only[List.map_cons,List.cons.injEq]at hm;obtain⟨hm1,hm2⟩:=hm;simp only[dB,Bool.and_eq_true]at hc;subst hm2;obtain⟨u1,u2⟩:=z4i hl;have h0:=R o c hc.1
    rw[hm1]at h0;obtain⟨u,hu,hR⟩:=jY (w:=w) (P:=P) h0.p_inv (vs:=cs'.map ρ) (by rw[←u1,WF hc.2];simp) (fun j y v h1 h2=>(XF R hc.2 j (.p y) v (u2 j y h1) h2).p_inv) hq
    refine kA.pure H (sA (u:=u) ?_) (.p _ _ hR);simp only[Builtin.max_,Array.toList_map,hcs,List.map_cons];exact hu
 ·cases he
theorem mn_ok {xs:List Opd}{cs:Array Operand}{ts:Array TypeId}{ty:TypeId}(hc:dB xs cs.toList=true){ev:Opd→AV}{ρ:Operand→Value}{v:AV}{h1:aA}{e:Esc}(H:HeapRel h μ w)(R:LC (imm h μ w) h μ ev ρ)
 (he:aop (.mn xs) ev h=some (v,h1,e)):kA P (do pure (.value (←Builtin.min_ ts ty (cs.map ρ)))) h μ w v h1 e:=by
 simp only[aop]at he;split at he
 ·rename_i a r hm
  simp only[Option.map_eq_some_iff,Option.bind_eq_some_iff,Prod.mk.injEq]at he;obtain⟨q,⟨l,hl,hq⟩,rfl,rfl,rfl⟩:=he;cases xs with
  | nil=>simp at hm
  | cons o os=>
   cases hcs:cs.toList with
   | nil=>rw[hcs]at hc;simp [dB]at hc
   | cons c cs'=>
    rw[hcs]at hc;simp only[List.map_cons,List.cons.injEq]at hm;obtain⟨hm1,hm2⟩:=hm;simp only[dB,Bool.and_eq_true]at hc;subst hm2;obtain⟨u1,u2⟩:=z4i hl;have h0:=R o c hc.1
    rw[hm1]at h0;obtain⟨u,hu,hR⟩:=kY (w:=w) (P:=P) h0.p_inv (vs:=cs'.map ρ) (by rw[←u1,WF hc.2];simp) (fun j y v h1 h2=>(XF R hc.2 j (.p y) v (u2 j y h1) h2).p_inv) hq
    refine kA.pure H (sA (u:=u) ?_) (.p _ _ hR);simp only[Builtin.min_,Array.toList_map,hcs,List.map_cons];exact hu
 ·cases he
end Go.Am
end
section
/- The abstract machine,part M: maps do in the model what they do here. -/
set_option linter.unusedSimpArgs false
set_option linter.unusedVariables false
set_option maxHeartbeats 1000000
namespace Go.Am
variable {h h':aA} {μ μ':Mu} {w w':World} {P:Program} {M M':Mem}
theorem JZ {a b:PV}{r:Bool}(he:PV.eq1 a b=some r):a.kind=b.kind∧(r=true↔a=b):=by
 unfold PV.eq1 at he;split at he
 ·split at he
  ·rename_i hk;subst hk;simp at he;subst he;exact⟨rfl,by simp⟩
  ·cases he
 ·simp at he;subst he;exact⟨rfl,by simp⟩
 ·simp at he;subst he;exact⟨rfl,by simp⟩
 ·cases he
theorem nU:∀ {asv bs:List PV} {r:Bool},eqs asv bs=some r→asv.map PV.kind=bs.map PV.kind∧(r=true↔asv=bs)
 | [],[],r,h=>by simp [eqs]at h;subst h;simp
 | [],_::_,r,h=>by simp [eqs]at h
 | _::_,[],r,h=>by simp [eqs]at h
 | a::asv,b::bs,r,h=>by
  simp only[eqs]at h;split at h
  ·rename_i q hq
   simp only[Option.map_eq_some_iff]at h;obtain⟨r',h1,rfl⟩:=h;obtain⟨k1,k2⟩:=JZ hq;obtain⟨k3,k4⟩:=nU h1;refine⟨by simp [k1,k3],?_⟩
   simp only[Bool.and_eq_true,List.cons.injEq,k2,k4]
  ·cases h
theorem MZ {a b:PV}{r:Bool}(he:PV.eqv a b=some r):eqs a.cells b.cells=some r∧(r=true↔a=b):=by
 have sc:∀{a b:PV},PV.eq1 a b=some r→eqs [a] [b]=some r∧(r=true↔a=b):=fun {a b} h=>by
  refine⟨?_,(JZ h).2⟩;simp only[eqs,h];simp
 cases a <;> cases b <;> first|exact⟨he,by rw[(nU he).2];simp⟩|exact sc he|cases he
theorem z3d {a:PV}{x y:Value}(hk:a.key=true)(Hx:RPV M a x)(Hy:RPV M' a y):x=y:=by
 cases a with
 | int k n=>cases Hx;cases Hy;rfl
 | bool b=>cases Hx;cases Hy;rfl
 | str s=>cases Hx;cases Hy;rfl
 | sl sh xs=>simp [PV.key]at hk
 | nilp=>simp [PV.key]at hk
 | unk=>simp [PV.key]at hk
 | agg cs=>
  cases Hx with|agg _ vs hl hr=>
  cases Hy with|agg _ us hl' hr'=>
  congr 2
  apply List.ext_getElem (by omega)
  intro i h1 h2;have hi:i<cs.length:=by omega
  have q1:=hr i cs[i] vs[i] (List.getElem?_eq_getElem hi) (List.getElem?_eq_getElem h1)
  have q2:=hr' i cs[i] us[i] (List.getElem?_eq_getElem hi) (List.getElem?_eq_getElem h2)
  simp only[PV.key]at hk;have:=List.all_eq_true.1 hk _ (List.getElem_mem hi);generalize cs[i]=c at *;generalize vs[i]=v1 at *;generalize us[i]=v2 at *;cases c <;> simp at this
  ·cases q1;cases q2;rfl
  ·cases q1;cases q2;rfl
  ·cases q1;cases q2;rfl
def OR (P:Program)(kt:TypeId)(ks:List Nat):Bool:=match P.underlying kt with
 | some (.array n e)=>(match PA P e with|some none=>true|_=>false)&&Nat.blt (gC P e) 3&&ks==List.replicate n (gC P e)
 | _=>false
def PE (P:Program)(kt:TypeId)(kk:Sh × List Nat):Bool:=PA P kt==some kk.1&&(QC P 20 kt kk.2==some []||OR P kt kk.2)&&kk.2.length==gA kk.1
theorem JY {kt:TypeId}{ks:List Nat}(h:OR P kt ks=true):∃n e i,P.underlying kt=some (.array n e)∧PA P e=some none∧gC P e<3∧ks=List.replicate n (gC P e)∧P.info? e=some i∧i.size=1:=by
 unfold OR at h;split at h
 ·rename_i n e hu
  simp only[Bool.and_eq_true,beq_iff_eq]at h;obtain⟨⟨c3,c4⟩,c5⟩:=h;have hs:PA P e=some none:=by
   split at c3
   ·assumption
   ·cases c3
  have hk3:gC P e<3:=by simp [Nat.blt]at c4;omega
  have hi:∃i,P.info? e=some i∧i.size=1:=by
   unfold PA at hs;split at hs
   ·cases hs
   ·cases hs
   ·split at hs
    ·exact⟨_,by assumption,by assumption⟩
    ·cases hs
   ·cases hs
  obtain⟨i,hi,hi1⟩:=hi;exact⟨n,e,i,hu,hs,hk3,c5,hi,hi1⟩
 ·cases h
theorem z3K {kt e:TypeId}{n:Nat}{sh:Sh}(hu:P.underlying kt=some (.array n e))(hs:PA P kt=some sh):∃m,sh=some m:=by
 unfold PA at hs;rw[hu]at hs;cases hi:P.info? kt with
 | none=>rw[hi]at hs;simp at hs
 | some i=>rw[hi]at hs;simp at hs;exact⟨_,hs.symm⟩
theorem z8A {em:Bool}{d:Nat}{e:TypeId}(hk:gC P e<3)(v:Value):(Instr.checkKey em (d+1) e v).run P w = .ok () w:=by
 unfold gC at hk;split at hk
 ·rename_i hu;simp [Instr.checkKey,AA hu]
 ·rename_i hu;simp [Instr.checkKey,AA hu]
 ·rename_i hu;simp [Instr.checkKey,AA hu]
 ·omega
theorem dX {sh:Sh}{a:PV}{x:Value}(hs:a.shp sh=true)(R:RPV M a x):∃xs:List Value,(oC sh fun j=>(xs[0+j]?).getD undef)=x∧Cs M a.cells xs 0∧a.cells.length=gA sh:=by
 cases sh with
 | none=>
  have hc:a.cells=[a]:=by cases a <;> first|rfl|(simp [PV.shp,PV.sc]at hs)
  refine⟨[x],by simp [oC],⟨by rw[hc];simp,fun j b v h1 h2=>?_⟩,by rw[hc];rfl⟩
  rw[hc]at h1;cases j with
  | zero=>simp at h1 h2;subst h1;subst h2;exact R
  | succ j=>simp at h1
 | some n=>
  cases a with
  | agg cs=>
   cases R with|agg _ vs hl hr=>
   simp only[PV.shp,Bool.and_eq_true,beq_iff_eq]at hs;refine⟨vs,?_,⟨by simp [PV.cells];omega,fun j b v h1 h2=>hr j b v h1 (by simpa using h2)⟩,hs.1⟩
   simp only[oC];congr 2
   apply List.ext_getElem (by simp;omega)
   intro i h1 h2;simp [h2]
  | _=>simp [PV.shp]at hs
theorem zdz {kk:Sh × List Nat}{v:AV}{key:PV}(hk:EC kk v=some key):v = .p key∧key.key=true∧key.shp kk.1=true∧key.cells.map PV.kind=kk.2:=by
 unfold EC at hk;split at hk
 ·split at hk
  ·rename_i h1
   injection hk with hk
   subst hk;simp only[Bool.and_eq_true,beq_iff_eq]at h1;exact⟨rfl,h1.1.1,h1.1.2,h1.2⟩
  ·cases hk
 ·cases hk
structure KeyAt (P:Program) (M:Mem) (kt:TypeId) (kk:Sh × List Nat) (key:PV) (kv:Value):Prop where
 ct:PE P kt kk=true
 ok:key.key=true
 shp:key.shp kk.1=true
 kinds:key.cells.map PV.kind=kk.2
 rel:RPV M key kv
theorem KeyAt.equal {kt:TypeId}{kk:Sh × List Nat}{key:PV}{kv:Value}(K:KeyAt P M kt kk key kv){k2:PV}{kv2:Value}(R2:RPV M k2 kv2)(h2:k2.key=true){r:Bool}(he:PV.eqv key k2=some r) :
 (Op.equal kt kv kv2).run P w = .ok r w:=by
 obtain⟨ct,hkey,hshp,hkinds,R⟩:=K;unfold PE at ct;simp only[Bool.and_eq_true,Bool.or_eq_true,beq_iff_eq]at ct;obtain⟨⟨c1,c2⟩,c3⟩:=ct;have hq:=(MZ he).1
 have hk2:=(nU hq).1
 have hs2:k2.shp kk.1=true:=by
  cases hsh:kk.1 with
  | none=>
   rw[hsh]at hshp;cases key <;> simp [PV.shp,PV.sc]at hshp <;> cases k2 <;> simp [PV.shp,PV.sc,PV.eqv,PV.eq1]at he ⊢
  | some n=>
   rw[hsh]at hshp;cases key with
   | agg cs=>
    cases k2 with
    | agg ds=>
     simp only[PV.shp,Bool.and_eq_true,beq_iff_eq]at hshp ⊢;have hl:=congrArg List.length hk2
     simp [PV.cells]at hl;refine⟨by omega,?_⟩
     simp only[PV.key]at h2;rw[List.all_eq_true]at h2 ⊢;intro x hx;have:=h2 x hx;cases x <;> first|rfl|simp at this
    | _=>simp [PV.eqv,PV.eq1]at he
   | _=>simp [PV.shp]at hshp
 rcases c2 with c2|c2
 rotate_left
 ·obtain⟨n,e,i,hu,hs,hk3,hks,hi,hi1⟩:=JY c2
  obtain⟨m,hm⟩:=z3K hu c1;rw[hm]at hshp hs2;cases key with
  | agg cs=>
   cases k2 with
   | agg ds=>
    cases R with|agg _ xs hxl hxr=>
    cases R2 with|agg _ ys hyl hyr=>
    have hce:P.cellsOf e=1:=by simp [Program.cellsOf,hi,hi1]
    have hkd:cs.map PV.kind=kk.2:=hkinds
    have hkb:cs.map PV.kind=ds.map PV.kind:=hk2
    have hdl:cs.length=ds.length:=by have:=congrArg List.length hkb;simpa using this
    have hal:cs.length=n:=by have:=congrArg List.length (hkd.trans hks);simpa using this
    show(Op.equalIn 10000 kt (.agg xs.toArray) (.agg ys.toArray)).run P w=_
    rw[show(10000:Nat)=(9998+1)+1 from rfl,run_equalIn_array w (9998+1) _ _ hu hi,hce,List.range_eq_range',←hal]
    exact OU hk3 hs cs ds 0 r (by rw[hkd,hks,hal]) hkb ⟨by omega,fun j a v h1 h2=>hxr j a v h1 (by simpa using h2)⟩ ⟨by omega,fun j a v h1 h2=>hyr j a v h1 (by simpa using h2)⟩ hq
   | _=>simp [PV.shp]at hs2
  | _=>simp [PV.shp]at hshp
 obtain⟨xs,e1,C1,L1⟩:=dX hshp R;obtain⟨ys,e2,C2,L2⟩:=dX hs2 R2;have:=pX (P:=P) (w:=w) (M:=M) 20 kt 9980 kk.2 [] kk.1 xs ys 0 key.cells k2.cells r c2 c1 (by rw[hkinds];simp) hk2 L1 C1 C2 hq
 rw[e1,e2]at this;exact this
theorem z35 {d:TypeDesc}{a b:PV}{x y:Value}{r r':Bool}(Rx:RPV M a x)(Ry:RPV M b y)(he:PV.eqv a b=some r)(hs:Instr.sameNow d x y=some r'):r'=r:=by
 unfold PV.eqv at he;split at he
 ·cases Rx;cases Ry
  unfold Instr.sameNow at hs;split at hs
  ·rename_i h1 h2;cases h1
  ·rename_i h1 h2;cases h1
  ·rename_i h1 h2;cases h1
  ·cases hs
 ·unfold PV.eq1 at he
  split at he
  ·split at he
   ·rename_i k m k' n hkk
    subst hkk;cases Rx;cases Ry
    simp only[Option.some.injEq]at he;unfold Instr.sameNow at hs;split at hs <;> simp_all
    rw[←hs,←he,JD]
   ·cases he
  ·cases Rx;cases Ry
   simp only[Option.some.injEq]at he;unfold Instr.sameNow at hs;split at hs <;> simp_all
   rw[←hs,←he,JD]
  ·rename_i s s'
   cases Rx;cases Ry
   simp only[Option.some.injEq]at he;unfold Instr.sameNow at hs;split at hs
   ·rename_i h1 _;cases h1
   ·rename_i a b h1 h2
    cases h1;cases h2
    injection hs with hs
    rw[←hs,←he];simp [Go.beq_toListBytes,Go.ByteArray.toList_mk,JD]
   ·rename_i h1 _;cases h1
   ·cases hs
  ·cases he
def XD (M:Mem)(es:List ME)(ces:List MapEntry):Prop:=es.length=ces.length∧∀(i:Nat) (e:ME) (ce:MapEntry),es[i]?=some e→ces[i]?=some ce→RPV M e.key ce.key∧e.key.key=true
def mD (ces:List MapEntry)(off:Nat)(r:Option Nat):Option (Nat×Value):=r.bind fun i=>(ces[i]?).map fun c=>(off+i,c.val)
theorem z1o {ce:MapEntry}{ces:List MapEntry}{off:Nat}{r:Option Nat}:mD (ce::ces) off (r.map (· + 1))=mD ces (off+1) r:=by
 cases r with
 | none=>rfl
 | some i=>simp [mD,show off+(i+1)=off+1+i by omega]
theorem KeyAt.asking {kt:TypeId}{kk:Sh × List Nat}{key:PV}{kv:Value}(K:KeyAt P M kt kk key kv):∀{es:List ME} {ces:List MapEntry} {off:Nat} {r:Option Nat},XD M es ces→NB key es=some r →
 (Instr.findAsking kt kv ces off).run P w = .ok (mD ces off r) w
 | [],[],off,r,_,h=>by
  simp [NB]at h;subst h;rfl
 | [],_::_,off,r,hr,_=>by simp [XD]at hr
 | _::_,[],off,r,hr,_=>by simp [XD]at hr
 | e::es,ce::ces,off,r,hr,h=>by
  obtain⟨k1,k2⟩:=hr.2 0 e ce rfl rfl;have hr':XD M es ces:=⟨by have:=hr.1;simpa using this,fun i e' ce' h1 h2=>hr.2 (i+1) e' ce' (by simpa using h1) (by simpa using h2)⟩
  simp only[NB]at h;simp only[Instr.findAsking,Sem.run_bind];split at h
  ·rename_i hq
   injection h with h
   subst h;rw[K.equal k1 k2 hq];simp [mD]
  ·rename_i hq
   simp only[Option.map_eq_some_iff]at h;obtain⟨r',h1,rfl⟩:=h;rw[K.equal k1 k2 hq];simp only[Result.andThen_ok,Bool.false_eq_true,if_false];rw[K.asking (off:=off+1) hr' h1,z1o]
  ·cases h
theorem KeyAt.now {kt:TypeId}{kk:Sh × List Nat}{key:PV}{kv:Value}(K:KeyAt P M kt kk key kv){d:TypeDesc}:∀{es:List ME} {ces:List MapEntry} {off:Nat} {r:Option Nat} {q:Option (Nat×Value)},XD M es ces→NB key es=some r →
 Instr.findNow d kv ces off=some q→q=mD ces off r
 | [],[],off,r,q,_,h,hq=>by
  simp [NB]at h;subst h;simp [Instr.findNow]at hq;subst hq;rfl
 | [],_::_,off,r,q,hr,_,_=>by simp [XD]at hr
 | _::_,[],off,r,q,hr,_,_=>by simp [XD]at hr
 | e::es,ce::ces,off,r,q,hr,h,hq=>by
  obtain⟨k1,k2⟩:=hr.2 0 e ce rfl rfl;have hr':XD M es ces:=⟨by have:=hr.1;simpa using this,fun i e' ce' h1 h2=>hr.2 (i+1) e' ce' (by simpa using h1) (by simpa using h2)⟩
  simp only[NB]at h;simp only[Instr.findNow]at hq;split at hq
  ·rename_i hs
   injection hq with hq
   subst hq;split at h
   ·injection h with h
    subst h;simp [mD]
   ·rename_i he
    have:=z35 K.rel k1 he hs;cases this
   ·cases h
  ·rename_i hs
   split at h
   ·rename_i he
    have:=z35 K.rel k1 he hs;cases this
   ·simp only[Option.map_eq_some_iff]at h
    obtain⟨r',h1,rfl⟩:=h;rw[K.now (off:=off+1) hr' h1 hq,z1o]
   ·cases h
  ·cases hq
theorem KeyAt.ud {kt:TypeId}{kk:Sh × List Nat}{key:PV}{kv:Value}(K:KeyAt P M kt kk key kv):∃d,P.underlying kt=some d:=by
 have ct:=K.ct
 unfold PE at ct;simp only[Bool.and_eq_true,beq_iff_eq]at ct;cases hu:P.underlying kt with
 | some d=>exact⟨d,rfl⟩
 | none=>have:=ct.1.1;simp [PA,hu]at this
theorem KeyAt.find {kt:TypeId}{kk:Sh × List Nat}{key:PV}{kv:Value}(K:KeyAt P M kt kk key kv){es:List ME}{ces:List MapEntry}{r:Option Nat}(hr:XD M es ces)(h:NB key es=some r) :
 (Instr.findKey kt kv ces).run P w = .ok (mD ces 0 r) w:=by
 obtain⟨d,hd⟩:=K.ud;unfold Instr.findKey;rw[Sem.run_bind,AA hd];simp only[Result.andThen_ok];split
 ·rename_i q hq
  rw[K.now hr h hq];rfl
 ·exact K.asking hr h
def CkAt (P:Program)(w:World)(M:Mem)(em:Bool)(d:Nat)(t:TypeId):Prop:=∀(m:Nat) (ks rest:List Nat) (sh:Sh) (xs:List Value) (off:Nat) (asv:List PV),QC P d t ks=some rest→PA P t=some sh→ks=asv.map PV.kind++rest→asv.length=gA sh →
 Cs M asv xs off→(Instr.checkKey em (m+d) t (oC sh fun j=>(xs[off+j]?).getD undef)).run P w = .ok () w
theorem SY {em:Bool}{d:Nat}(IH:∀ t,CkAt P w M em d t){m:Nat}{xs:List Value}:∀{fs:List Field} {i:Nat} {ks rest:List Nat} {asv:List PV},rE P (QC P d) i fs ks=some rest→ks=asv.map PV.kind++rest →
 Cs M asv xs i→(forIn (m:=Sem) fs PUnit.unit (fun f _=>
  if f.name ≠ "_" then(do
   let v ←part f.type xs.toArray f.offset
   Instr.checkKey em (m+d) f.type v
   pure (.yield PUnit.unit)) else pure (.yield PUnit.unit))).run P w = .ok PUnit.unit w
 | [],i,ks,rest,asv,h,hk,hA=>rfl
 | fl::fs,i,ks,rest,asv,h,hk,hA=>by
  simp only[rE]at h;split at h
  ·rename_i hfl
   split at h
   ·rename_i sh hsh
    split at h
    ·rename_i ks' hk'
     split at h
     ·rename_i hlen
      obtain⟨pre,h1⟩:=zL _ _ _ _ hk';obtain⟨pre2,h2⟩:=DN (zL d) h;have hpre:pre.length=gA sh:=by rw[h1]at hlen;simp at hlen;omega
      have hkk:asv.map PV.kind=pre++pre2:=by
       rw[h1,h2,←List.append_assoc]at hk;exact(List.append_cancel_right hk).symm
      have hla:asv.length=pre.length+pre2.length:=by have:=congrArg List.length hkk;simpa using this
      obtain⟨a1,a2,rfl,ha1⟩:∃a1 a2,asv=a1++a2∧a1.length=pre.length:=⟨asv.take pre.length,asv.drop pre.length,by simp,by simp;omega⟩
      rw[List.map_append]at hkk;obtain⟨m1,m2⟩:=List.append_inj hkk (by simpa using ha1)
      have cA1:Cs M a1 xs i:=⟨by have:=hA.1;simp at this;omega,fun j a v hj hv=>hA.2 j a v (fF hj) hv⟩
      have cA2:Cs M a2 xs (i+gA sh):=⟨by have:=hA.1;simp at this;omega,fun j a v hj hv=>hA.2 (a1.length+j) a v (by rw[List.getElem?_append_right (by omega)];simpa using hj) (by rw[←hv];congr 1;omega)⟩
      have p1:=dG (P:=P) (w:=w) (t:=fl.type) hsh (vs:=xs) (off:=i) (by have:=cA1.1;omega)
      have hh:=IH fl.type m ks ks' sh xs i a1 hk' hsh (by rw[h1,m1]) (by omega) cA1
      have ih:=SY IH (m:=m) h (by rw[h2,m2]) cA2
      simp only[List.forIn_cons,Sem.run_bind,hfl.1,ne_eq,not_false_eq_true,if_true,hfl.2,Result.andThen_ok,p1,hh,Sem.run_pure];exact ih
     ·cases h
    ·cases h
   ·cases h
  ·cases h
theorem RY {em:Bool}:∀(d:Nat) (t:TypeId),CkAt P w M em d t
 | 0,t=>fun m ks rest sh xs off asv h=>by simp [QC]at h
 | d+1,t=>fun m ks rest sh xs off asv h hsh hk hla hA=>by
  simp only[QC]at h;split at h
  ·rename_i fs hu
   split at h
   ·cases h
   ·have hsn:∃n,sh=some n:=by
     unfold PA at hsh;rw[hu]at hsh;cases hi:P.info? t with
     | none=>rw[hi]at hsh;simp at hsh
     | some i=>rw[hi]at hsh;simp at hsh;exact⟨_,hsh.symm⟩
    obtain⟨n,rfl⟩:=hsn;show(Instr.checkKey em (m+d+1) t (.agg _)).run P w=_
    simp only[Instr.checkKey,Sem.run_bind,AA hu,Result.andThen_ok];rw[←Array.forIn_toList];simp only[gA]at hla;have:=SY (em:=em) (m:=m) (xs:=(List.range n).map fun j=>(xs[off+j]?).getD undef) (RY d) h hk ⟨by simp;omega,fun j a v hj hv=>by
     have hjn:j<n:=by rw[←hla];exact tA hj
     have hlt:off+j<xs.length:=by have:=hA.1;omega
     simp [hjn,hlt]at hv;exact hA.2 j a v hj (by rw[←hv];simp [hlt])⟩
    rw[this];rfl
  ·split at h
   ·rename_i k r' hnot
    split at h
    ·rename_i hkk
     have hsn:sh=none:=by
      obtain⟨h1,h2⟩:=hkk;unfold PA at hsh;unfold gC at h1;split at h1
      ·rename_i hu;rw[hu]at hsh;split at hsh <;> simp_all
      ·rename_i hu;rw[hu]at hsh;split at hsh <;> simp_all
      ·rename_i hu;rw[hu]at hsh;split at hsh <;> simp_all
      ·omega
     subst hsn;obtain⟨h1,h2⟩:=hkk;show(Instr.checkKey em (m+d+1) t _).run P w=_
     unfold gC at h1;split at h1
     ·rename_i hu;simp [Instr.checkKey,AA hu]
     ·rename_i hu;simp [Instr.checkKey,AA hu]
     ·rename_i hu;simp [Instr.checkKey,AA hu]
     ·omega
    ·cases h
   ·cases h
theorem KeyAt.check {kt:TypeId}{kk:Sh × List Nat}{key:PV}{kv:Value}(K:KeyAt P M kt kk key kv)(em:Bool):(Instr.checkKey em 10000 kt kv).run P w = .ok () w:=by
 obtain⟨ct,hkey,hshp,hkinds,R⟩:=K;unfold PE at ct;simp only[Bool.and_eq_true,Bool.or_eq_true,beq_iff_eq]at ct;obtain⟨⟨c1,c2⟩,c3⟩:=ct;rcases c2 with c2|c2
 rotate_left
 ·obtain⟨n,e,i,hu,hs,hk3,hks,hi,hi1⟩:=JY c2
  obtain⟨m,hm⟩:=z3K hu c1;rw[hm]at hshp;cases key with
  | agg cs=>
   cases R with|agg _ xs hxl hxr=>
   have hkd:cs.map PV.kind=kk.2:=hkinds
   have hal:cs.length=n:=by have:=congrArg List.length (hkd.trans hks);simpa using this
   obtain⟨dd,hd⟩:∃dd,(10000:Nat)=dd+1+1:=⟨9998,rfl⟩;rw[hd];unfold Instr.checkKey;simp only[Sem.run_bind,AA hu,Result.andThen_ok];simp only[Std.Legacy.Range.forIn_eq_forIn_range',Std.Legacy.Range.size,Nat.sub_zero,Nat.add_one_sub_one,Nat.div_one];have hl:∀j∈List.range' 0 n,j<xs.length:=fun j hj=>by
    rw[List.mem_range']at hj;obtain⟨q,hq,rfl⟩:=hj;omega
   revert hl
   generalize List.range' 0 n=l;intro hl;induction l with
   | nil=>rfl
   | cons j l ih=>
    have hj:=hl j List.mem_cons_self
    have p1:=dG (P:=P) (w:=w) (t:=e) hs (vs:=xs) (off:=j) (by simp [gA];omega)
    have sc:=fun v=>z8A (P:=P) (w:=w) (em:=em) (d:=dd) hk3 v
    simp only[List.forIn_cons,Sem.run_bind,JC hs,gA,Nat.mul_one,Result.andThen_ok,p1,sc,Sem.run_pure];exact ih fun k hk=>hl k (List.mem_cons_of_mem _ hk)
  | _=>simp [PV.shp]at hshp
 obtain⟨xs,e1,C1,L1⟩:=dX hshp R;have:=RY (P:=P) (w:=w) (M:=M) (em:=em) 20 kt 9980 kk.2 [] kk.1 xs 0 key.cells c2 c1 (by rw[hkinds];simp) L1 C1
 rw[e1]at this;exact this
theorem zjb {a:PV}{x:Value}(hk:a.key=true)(R:RPV M a x):∀n,2≤n→Instr.sameBits n x x=true:=by
 intro n hn;obtain⟨m,rfl⟩:∃m,n=m+2:=⟨n-2,by omega⟩
 cases a with
 | int k n=>cases R;simp [Instr.sameBits]
 | bool b=>cases R;simp [Instr.sameBits]
 | str s=>cases R;simp [Instr.sameBits,MapKept.bytes_beq]
 | sl sh xs=>simp [PV.key]at hk
 | nilp=>simp [PV.key]at hk
 | unk=>simp [PV.key]at hk
 | agg cs=>
  cases R with|agg _ vs hl hr=>
  simp only[Instr.sameBits,beq_self_eq_true,Bool.true_and,List.all_eq_true];intro p hp;obtain⟨i,hi,e⟩:=List.getElem_of_mem hp;simp only[List.length_zip,Nat.min_self]at hi;have hi':i<vs.length:=by simpa using hi
  rw[List.getElem_zip]at e;rw[←e];have q1:=hr i cs[i] vs[i] (List.getElem?_eq_getElem (by omega)) (List.getElem?_eq_getElem hi')
  simp only[PV.key]at hk;have:=List.all_eq_true.1 hk _ (List.getElem_mem (show i<cs.length by omega))
  generalize cs[i]=c at *;dsimp only;generalize vs[i]=v at *;cases c <;> simp at this
  ·cases q1;simp [Instr.sameBits]
  ·cases q1;simp [Instr.sameBits]
  ·cases q1;simp [Instr.sameBits,MapKept.bytes_beq]
theorem KeyAt.stays {kt:TypeId}{kk:Sh × List Nat}{key:PV}{kv:Value}(K:KeyAt P M kt kk key kv):(Instr.keyThatStays kv kv).run P w = .ok kv w:=by
 simp [Instr.keyThatStays,zjb K.ok K.rel 10000 (by omega)]
theorem TK {key:PV}:∀{es:List ME} {i:Nat},NB key es=some (some i)→∃e,es[i]?=some e∧e.key=key
 | [],i,h=>by simp [NB]at h
 | e::es,i,h=>by
  simp only[NB]at h;split at h
  ·rename_i hq
   injection h with h
   injection h with h
   subst h;exact⟨e,rfl,((MZ hq).2.1 rfl).symm⟩
  ·simp only[Option.map_eq_some_iff]at h
   obtain⟨r,h1,h2⟩:=h;cases r with
   | none=>simp at h2
   | some j=>
    simp at h2;subst h2;obtain⟨e',h3,h4⟩:=TK h1;exact⟨e',by simpa using h3,h4⟩
  ·cases h
theorem fI {v:AV}{id c:Nat}{es:List ME}(hm:JB h v=some (id,es,c)):v = .mp id∧h[id]?=some (.amap es c):=by
 unfold JB at hm;split at hm
 ·split at hm
  ·rename_i ho
   simp only[Option.some.injEq,Prod.mk.injEq]at hm;obtain⟨rfl,rfl,rfl⟩:=hm;exact⟨rfl,ho⟩
  ·cases hm
 ·cases hm
structure MapAt (h:aA) (μ:Mu) (w:World) (id:Nat) (es:List ME) (c:Nat) (b:Nat) (n:Nat) (ces:Array MapEntry):Prop where
 ho:h[id]?=some (.amap es c)
 hm:μ[id]?=some (some (b,n))
 hb:w.heap[b]?=some (.map ces c)
 sz:ces.size=es.length
 bd:∀e∈es,e.born<c
 rel:∀(i:Nat) (e:ME) (ce:MapEntry),es[i]?=some e→ces[i]?=some ce→RPV (imm h μ w) e.key ce.key∧e.key.key=true∧RAV (imm h μ w) h μ e.val ce.val∧ce.born=e.born
theorem bI {v:AV}{id c:Nat}{es:List ME}{x:Value}(H:HeapRel h μ w)(R:RAV (imm h μ w) h μ v x)(hm:JB h v=some (id,es,c)):∃b n ces,x = .map (some b)∧MapAt h μ w id es c b n ces:=by
 obtain⟨rfl,ho⟩:=fI hm;cases R with|mp _ b n es' c' ho' hmu=>
 obtain⟨b',n',ces,hb',k1,k2,k4,k3⟩:=H.obj _ _ _ ho hmu;injection hb' with hb';injection hb' with hb1 hb2
 subst hb1;exact⟨_,_,ces,rfl,ho,hmu,k1,k2,k4,k3⟩
theorem MapAt.esrel {id c b n:Nat}{es:List ME}{ces:Array MapEntry}(A:MapAt h μ w id es c b n ces):XD (imm h μ w) es ces.toList:=
 ⟨by simp [A.sz],fun i e ce h1 h2=>by obtain⟨q1,q2,_⟩:=A.rel i e ce h1 (by simpa using h2);exact⟨q1,q2⟩⟩
theorem MapAt.put {id c b n:Nat}{es:List ME}{ces:Array MapEntry}(A:MapAt h μ w id es c b n ces)(H:HeapRel h μ w){es':List ME}{c':Nat}{ces':Array MapEntry}(hsz:ces'.size=es'.length)(hbd:∀ e∈es',e.born<c')
 (hrel:∀(i:Nat) (e:ME) (ce:MapEntry),es'[i]?=some e→ces'[i]?=some ce→RPV (imm h μ w) e.key ce.key∧e.key.key=true∧RAV (imm h μ w) h μ e.val ce.val∧ce.born=e.born) :
 HeapRel (h.set id (.amap es' c')) μ (XA w b (.map ces' c'))∧Evo (imm h μ w) h μ (imm (h.set id (.amap es' c')) μ (XA w b (.map ces' c'))) (h.set id (.amap es' c')) μ:=by
 have hμ:μ.set id (some (b,n))=μ:=by
  apply List.ext_getElem?
  intro j;rw[List.getElem?_set];split
  ·rename_i hj;subst hj;rw[if_pos (tA A.hm),A.hm]
  ·rfl
 have:=H.set (w':=XA w b (.map ces' c')) (id:=id) (o:=.amap es c) (o':=.amap es' c') (m:=some (b,n)) (m':=some (b,n)) A.ho A.hm ⟨⟨_,_,rfl⟩,rfl⟩ rfl (by rw[oJ];exact Nat.le_refl _)
  (fun b' _ hne=>nJ (fun e=>hne n (by rw[e]))) (fun b' n' e=>.inl ⟨n',e⟩) (fun b' n' sh xs fz _ e=>by cases e)
  (fun M' E=>⟨b,n,ces',rfl,lE A.hb,hsz,hbd,fun i e ce h1 h2=>by
   obtain⟨q1,q2,q3,q4⟩:=hrel i e ce h1 h2;exact⟨q1.mono E.le,q2,q3.evo E,q4⟩⟩)
  (fun b' n' t e ht=>by
   injection e with e
   injection e with e1 _
   subst e1;unfold ety at ht;rw[A.hb]at ht;cases ht)
 rw[hμ]at this;exact this
theorem kE {b c:Nat}{ces:Array MapEntry}(hb:w.heap[b]?=some (.map ces c)):(getObj b).run P w = .ok (.map ces c) w:=MapKept.run_getObj_map hb
theorem gH {b c:Nat}{ces:Array MapEntry}(o:Go.Obj)(hb:w.heap[b]?=some (.map ces c)):(setObj b o).run P w = .ok () (XA w b o):=MapKept.run_setObj_map o hb
def xG (P:Program)(kk:Sh × List Nat)(t:TypeId):Bool:=match P.underlying t with
 | some (.map k _)=>PE P k kk
 | _=>false
def uH (P:Program)(kk:Sh × List Nat)(z:AV)(t:TypeId):Bool:=match P.underlying t with
 | some (.map k e)=>PE P k kk&&(match P.info? e with|some i=>(match i.zero with|some v=>xF z v|none=>false)|none=>false)
 | _=>false
theorem KY {kk:Sh × List Nat}{t:TypeId}(hc:xG P kk t=true):∃k e,P.underlying t=some (.map k e)∧PE P k kk=true:=by
 unfold xG at hc;split at hc
 ·rename_i k e hu;exact⟨k,e,hu,hc⟩
 ·cases hc
theorem LY {kk:Sh × List Nat}{z:AV}{t:TypeId}(hc:uH P kk z t=true):∃k e v,P.underlying t=some (.map k e)∧PE P k kk=true∧xF z v=true∧∀w,(zeroValue e).run P w = .ok v w:=by
 unfold uH at hc;split at hc
 ·rename_i k e hu
  simp only[Bool.and_eq_true]at hc;obtain⟨c1,c2⟩:=hc;split at c2
  ·rename_i i hi
   split at c2
   ·rename_i v hv
    refine⟨k,e,v,hu,c1,c2,fun w=>?_⟩
    unfold zeroValue;rw[Sem.run_bind,eG hi];simp [hv]
   ·cases c2
  ·cases c2
 ·cases hc
theorem MN {kk:Sh × List Nat}{kt:TypeId}(hc:PE P kt kk=true){v:AV}{key:PV}{x:Value}(hk:EC kk v=some key)(R:RAV (imm h μ w) h μ v x):KeyAt P (imm h μ w) kt kk key x:=by
 obtain⟨rfl,k1,k2,k3⟩:=zdz hk;exact⟨hc,k1,k2,k3,R.p_inv⟩
theorem CN {ces:List MapEntry}{i:Nat}{ce:MapEntry}(hc:ces[i]?=some ce):mD ces 0 (some i)=some (i,ce.val):=by simp [mD,hc]
theorem z3Y {es:List ME}{i:Nat}{v:AV}:AV.tops ((es.modify i fun e=>{ e with val:=v }).map ME.val)≤max (AV.tops (es.map ME.val)) v.top:=by
 refine iG (fun j y hy=>?_)
 rw[List.getElem?_map,List.getElem?_modify]at hy;simp only[Option.map_eq_map,Option.map_eq_some_iff]at hy;obtain⟨e,he,rfl⟩:=hy;obtain⟨e0,he0,rfl⟩:=he;have h0:(es.map ME.val)[j]?=some e0.val:=by simp [he0]
 have:=nD h0;split
 ·show v.top≤_;omega
 ·show e0.val.top≤_;omega
theorem z3Z {es:List ME}{e:ME}:AV.tops ((es++[e]).map ME.val)≤max (AV.tops (es.map ME.val)) e.val.top:=by
 rw[List.map_append,xL];simp [AV.tops]
theorem zjU {es:List ME}{i:Nat}:AV.tops ((es.eraseIdx i).map ME.val)≤AV.tops (es.map ME.val):=by
 refine iG (fun j y hy=>?_)
 have hm:y∈(es.eraseIdx i).map ME.val:=by
  obtain⟨hj,e⟩:=List.getElem?_eq_some_iff.1 hy;rw[←e];exact List.getElem_mem _
 obtain⟨e,he,rfl⟩:=List.mem_map.1 hm;have he':=(List.eraseIdx_sublist es i).subset he
 obtain⟨k,hk,ek⟩:=List.getElem_of_mem he';have:(es.map ME.val)[k]?=some e.val:=by simp [hk,ek]
 exact nD this
theorem z8O {z:AV}{v:Value}(hc:xF z v=true):z.top=0:=by
 have:=(AG (M:=⟨fun _ _=>none,fun _=>none,none,fun _=>none⟩) (h:=[]) (μ:=[]) hc).top_le
 simpa using this
theorem ze3 {kk:Sh × List Nat}{ok:Bool}{z:AV}{t:TypeId}(hc:uH P kk z t=true){ev:Opd→AV}{p q:Opd}{x y:Value}{v:AV}{h1:aA}{e:Esc}(H:HeapRel h μ w)(Rp:RAV (imm h μ w) h μ (ev p) x)(Rq:RAV (imm h μ w) h μ (ev q) y)
 (he:aop (.look kk ok z p q) ev h=some (v,h1,e)):kA P (do pure (.value (←Instr.lookup t x y ok))) h μ w v h1 e:=by
 obtain⟨kt,et,zv,hu,hkt,hz,hzr⟩:=LY hc;have Rz:RAV (imm h μ w) h μ z zv:=AG hz
 simp only[aop]at he;split at he
 ·rename_i key hk
  have K:=MN hkt hk Rq
  have fin:∀{es:List ME} {ces:Array MapEntry} {r:Option Nat},XD (imm h μ w) es ces.toList→(∀(i:Nat) (e:ME) (ce:MapEntry),es[i]?=some e→ces[i]?=some ce→RAV (imm h μ w) h μ e.val ce.val) →
   NB key es=some r→(Instr.lookup t x y ok).run P w=(do
    Instr.checkKey ces.isEmpty 10000 kt y
    let q ←Instr.findKey kt y ces.toList
    match q with
    | some (_,v)=>do
     let z ←pure (v,true)
     pure (if ok=true then .tuple #[z.1,.bool z.2] else z.1)
    | none=>do
     let u ←zeroValue et
     let z ←pure (u,false)
     pure (if ok=true then .tuple #[z.1,.bool z.2] else z.1):Sem Value).run P w →
   some ((bif ok then AV.tup [((r.bind (es[·]?)).map ME.val).getD z,pbool ((r.bind (es[·]?)).map ME.val).isSome] else((r.bind (es[·]?)).map ME.val).getD z),h,([]:Esc))=some (v,h1,e) →
   kA P (do pure (.value (←Instr.lookup t x y ok))) h μ w v h1 e:=by
   intro es ces r hr hv hf hg hres;simp only[Option.some.injEq,Prod.mk.injEq]at hres;obtain⟨rfl,rfl,rfl⟩:=hres;have hfind:=K.find (w:=w) hr hf
   have hck:=K.check (w:=w) ces.isEmpty
   rw[Sem.run_bind,hck]at hg;simp only[Result.andThen_ok]at hg;rw[Sem.run_bind,hfind]at hg;simp only[Result.andThen_ok]at hg;have done:∀(u:Value) (b:Bool),RAV (imm h μ w) h μ (((r.bind (es[·]?)).map ME.val).getD z) u→b=((r.bind (es[·]?)).map ME.val).isSome →
    (Instr.lookup t x y ok).run P w = .ok (if ok=true then .tuple #[u,.bool b] else u) w→kA P (do pure (.value (←Instr.lookup t x y ok))) h μ w (bif ok then AV.tup [((r.bind (es[·]?)).map ME.val).getD z,pbool ((r.bind (es[·]?)).map ME.val).isSome] else((r.bind (es[·]?)).map ME.val).getD z) h []:=by
    intro u b Ru hb hrun;refine kA.pure H (sA hrun) ?_;cases ok with
    | false=>simpa using Ru
    | true=>
     simp only[cond_true,if_true];refine .tup _ [u,.bool b] rfl (fun j a c h1 h2=>?_)
     match j with
     | 0=>cases h1;cases h2;exact Ru
     | 1=>cases h1;cases h2;rw[hb];exact RAV.pbool _
     | j+2=>simp at h1
   cases r with
   | none=>exact done zv false Rz rfl (by rw[hg];simp [mD,hzr])
   | some i=>
    obtain⟨e0,he0,_⟩:=TK hf;have hi:i<ces.size:=by have:=tA he0;have:=hr.1;simp at this;omega
    have hce:ces[i]?=some ces[i]:=Array.getElem?_eq_getElem hi
    refine done ces[i].val true ?_ (by simp [he0]) (by rw[hg,CN (ce:=ces[i]) (by simpa using hce)];simp)
    simp only[Option.bind_some,he0,Option.map_some,Option.getD_some];exact hv i e0 _ he0 hce
  split at he
  ·rename_i es hes
   split at he
   ·rename_i r hf
    split at hes
    ·rename_i hp
     injection hes with hes
     subst hes;rw[hp]at Rp;cases Rp;exact fin (ces:=#[]) ⟨rfl,fun i e ce h1=>by simp at h1⟩ (fun i e ce h1=>by simp at h1) hf (by
      unfold Instr.lookup;rw[Sem.run_bind,AA hu];rfl) he
    ·simp only[Option.map_eq_some_iff]at hes
     obtain⟨⟨id,es',c⟩,hm,rfl⟩:=hes;obtain⟨b,n,ces,rfl,A⟩:=bI H Rp hm;refine fin (ces:=ces) A.esrel (fun i e ce h1 h2=>(A.rel i e ce h1 h2).2.2.1) hf ?_ he
     unfold Instr.lookup;rw[Sem.run_bind,AA hu];simp only[Result.andThen_ok];rw[Sem.run_bind,kE A.hb];rfl
   ·cases he
  ·cases he
 ·cases he
theorem z1A {ces:Array MapEntry}{i:Nat}{ce:MapEntry}(hc:ces[i]?=some ce)(d:Value):((ces[i]?).map (·.key)).getD d=ce.key:=by simp [hc]
theorem z2R {M:Mem}{es:List ME}{ces:Array MapEntry}{i:Nat}{kv:Value}{key:PV}{v:AV}{x:Value}(hk:∀ e,es[i]?=some e→e.key=key)(Rk:RPV M key kv)(Rv:RAV M h μ v x)
 (hrel:∀(i:Nat) (e:ME) (ce:MapEntry),es[i]?=some e→ces[i]?=some ce→RPV M e.key ce.key∧e.key.key=true∧RAV M h μ e.val ce.val∧ce.born=e.born) :
 ∀(j:Nat) (e:ME) (ce:MapEntry),(es.modify i fun e=>{ e with val:=v })[j]?=some e→(ces.modify i fun e=>{ e with key:=kv,val:=x })[j]?=some ce→RPV M e.key ce.key∧e.key.key=true∧RAV M h μ e.val ce.val∧ce.born=e.born:=by
 intro j e ce h1 h2;rw[List.getElem?_modify]at h1;simp only[Option.map_eq_map,Option.map_eq_some_iff]at h1;simp only[Array.getElem?_modify]at h2;obtain⟨e0,he0,rfl⟩:=h1;by_cases hij:i=j
 ·subst hij
  simp only[if_true,Option.map_eq_some_iff]at h2 ⊢;obtain⟨c0,hc0,rfl⟩:=h2;obtain⟨q1,q2,q3,q4⟩:=hrel i e0 c0 he0 hc0;exact⟨by rw[hk e0 he0];exact Rk,q2,Rv,q4⟩
 ·rw[if_neg hij]at h2
  rw[if_neg hij];exact hrel j e0 ce he0 h2
theorem z2S {M:Mem}{es:List ME}{ces:Array MapEntry}{e1:ME}{c1:MapEntry}(hsz:ces.size=es.length)(h1:RPV M e1.key c1.key∧e1.key.key=true∧RAV M h μ e1.val c1.val∧c1.born=e1.born)
 (hrel:∀(i:Nat) (e:ME) (ce:MapEntry),es[i]?=some e→ces[i]?=some ce→RPV M e.key ce.key∧e.key.key=true∧RAV M h μ e.val ce.val∧ce.born=e.born) :
 ∀(j:Nat) (e:ME) (ce:MapEntry),(es++[e1])[j]?=some e→(ces.push c1)[j]?=some ce→RPV M e.key ce.key∧e.key.key=true∧RAV M h μ e.val ce.val∧ce.born=e.born:=by
 intro j e ce ha hb;rcases xE ha with ha|⟨rfl,rfl⟩
 ·have hj:=tA ha
  rw[Array.getElem?_push,if_neg (by omega)]at hb
  exact hrel j e ce ha hb
 ·rw[Array.getElem?_push,if_pos (by omega)]at hb
  injection hb with hb
  subst hb;exact h1
theorem z2m {kk:Sh × List Nat}{t:TypeId}(hc:xG P kk t=true){ev:Opd→AV}{m k u:Opd}{x y z:Value}{v:AV}{h1:aA}{e:Esc}(H:HeapRel h μ w)(Rm:RAV (imm h μ w) h μ (ev m) x)(Rk:RAV (imm h μ w) h μ (ev k) y)(Ru:RAV (imm h μ w) h μ (ev u) z)
 (he:aop (.mupd kk m k u) ev h=some (v,h1,e)):kA P (do Instr.mapUpdate t x y z;pure .skip) h μ w v h1 e:=by
 obtain⟨kt,et,hu,hkt⟩:=KY hc;simp only[aop]at he;split at he
 ·rename_i key id es c hk hm hok
  have K:=MN hkt hk Rk
  obtain⟨b,n,ces,rfl,A⟩:=bI H Rm hm;have hck:=K.check (w:=w) false
  split at he
  ·rename_i i hf
   simp only[Option.some.injEq,Prod.mk.injEq]at he;obtain⟨rfl,rfl,rfl⟩:=he;obtain⟨e0,he0,hek⟩:=TK hf;have hi:i<ces.size:=by have:=tA he0;have:=A.sz;omega
   have hce:ces[i]?=some ces[i]:=Array.getElem?_eq_getElem hi
   obtain⟨q1,q2,q3,q4⟩:=A.rel i e0 _ he0 hce;have hkv:ces[i].key=y:=z3d (by rw[hek];exact K.ok) q1 (by rw[hek];exact K.rel)
   have hfind:=K.find (w:=w) A.esrel hf
   rw[CN (ce:=ces[i]) (by simpa using hce)]at hfind
   have hrun:(Instr.mapUpdate t (.map (some b)) y z).run P w = .ok () (XA w b (.map (ces.modify i fun e=>{ e with key:=y,val:=z }) c)):=by
    unfold Instr.mapUpdate;rw[Sem.run_bind,AA hu];simp only[Result.andThen_ok];rw[Sem.run_bind,kE A.hb];simp only[Result.andThen_ok];rw[Sem.run_bind,hck];simp only[Result.andThen_ok];rw[Sem.run_bind,hfind];simp only[Result.andThen_ok];rw[Sem.run_bind,z1A hce,hkv,K.stays];simp only[Result.andThen_ok];exact gH _ A.hb
   obtain⟨n1,n2⟩:=A.put H (es':=es.modify i fun e=>{ e with val:=ev u }) (c':=c) (ces':=ces.modify i fun e=>{ e with key:=y,val:=z }) (by simp [A.sz])
    (fun e he=>by
     obtain⟨j,hj,ej⟩:=List.getElem_of_mem he;have:(es.modify i fun e=>{ e with val:=ev u })[j]?=some e:=by rw[List.getElem?_eq_getElem hj,ej]
     rw[List.getElem?_modify]at this;simp only[Option.map_eq_map,Option.map_eq_some_iff]at this;obtain⟨e',he',rfl⟩:=this;have:=A.bd e' (by obtain⟨q,e⟩:=List.getElem?_eq_some_iff.1 he';rw[←e];exact List.getElem_mem _)
     split <;> exact this)
    (z2R (fun e he=>by rw[he0]at he;injection he with he;rw[←he];exact hek) K.rel Ru A.rel)
   exact⟨_,_,_,ZP hrun,.inr ⟨rfl,rfl⟩,n1,n2,mA.set A.ho (by
    have:=z3Y (es:=es) (i:=i) (v:=ev u);have:=ZJ id (ev u);simp only[Obj.top];omega)⟩
  ·rename_i hf
   simp only[Option.some.injEq,Prod.mk.injEq]at he;obtain⟨rfl,rfl,rfl⟩:=he;have hfind:=K.find (w:=w) A.esrel hf
   have hrun:(Instr.mapUpdate t (.map (some b)) y z).run P w = .ok () (XA w b (.map (ces.push { key:=y,val:=z,born:=c }) (c+1))):=by
    unfold Instr.mapUpdate;rw[Sem.run_bind,AA hu];simp only[Result.andThen_ok];rw[Sem.run_bind,kE A.hb];simp only[Result.andThen_ok];rw[Sem.run_bind,hck];simp only[Result.andThen_ok];rw[Sem.run_bind,hfind];simp only[mD,Option.bind_none,Result.andThen_ok];exact gH _ A.hb
   obtain⟨n1,n2⟩:=A.put H (es':=es++[⟨key,ev u,c⟩]) (c':=c+1) (ces':=ces.push { key:=y,val:=z,born:=c }) (by simp [A.sz])
    (fun e he=>by
     rw[List.mem_append,List.mem_singleton]at he;rcases he with he|rfl
     ·have:=A.bd e he;omega
     ·exact Nat.lt_succ_self _)
    (z2S A.sz ⟨K.rel,K.ok,Ru,rfl⟩ A.rel)
   exact⟨_,_,_,ZP hrun,.inr ⟨rfl,rfl⟩,n1,n2,mA.set A.ho (by
    have:=z3Z (es:=es) (e:=⟨key,ev u,c⟩);have:=ZJ id (ev u);simp only[Obj.top];dsimp only at *;omega)⟩
  ·cases he
 ·cases he
theorem ze6 {kk:Sh × List Nat}{z:AV}{t:TypeId}(hc:uH P kk z t=true){ev:Opd→AV}{m k:Opd}{x y:Value}{v:AV}{h1:aA}{e:Esc}(H:HeapRel h μ w)(Rm:RAV (imm h μ w) h μ (ev m) x)(Rk:RAV (imm h μ w) h μ (ev k) y)
 (he:aop (.ment kk z m k) ev h=some (v,h1,e)):kA P (do pure (.value (←Instr.mapEntry t x y))) h μ w v h1 e:=by
 obtain⟨kt,et,zv,hu,hkt,hz,hzr⟩:=LY hc;have Rz:RAV (imm h μ w) h μ z zv:=AG hz
 simp only[aop]at he;split at he
 ·rename_i key id es c hk hm
  have K:=MN hkt hk Rk
  obtain⟨b,n,ces,rfl,A⟩:=bI H Rm hm;have hck:=K.check (w:=w) false
  split at he
  ·rename_i i hf
   simp only[Option.map_eq_some_iff,Prod.mk.injEq]at he;obtain⟨e0,he0,rfl,rfl,rfl⟩:=he;have hek:e0.key=key:=by
    obtain⟨e1,h2,h3⟩:=TK hf;rw[he0]at h2;injection h2 with h2;rw[h2];exact h3
   have hi:i<ces.size:=by have:=tA he0;have:=A.sz;omega
   have hce:ces[i]?=some ces[i]:=Array.getElem?_eq_getElem hi
   obtain⟨q1,q2,q3,q4⟩:=A.rel i e0 _ he0 hce;have hkv:ces[i].key=y:=z3d (by rw[hek];exact K.ok) q1 (by rw[hek];exact K.rel)
   have hfind:=K.find (w:=w) A.esrel hf
   rw[CN (ce:=ces[i]) (by simpa using hce)]at hfind
   have hsame:ces.modify i (fun e=>{ e with key:=y })=ces:=by
    apply Array.ext_getElem?
    intro j;rw[Array.getElem?_modify];split
    ·rename_i hij;subst hij
     rw[hce];simp [←hkv]
    ·rfl
   have hrun:(Instr.mapEntry t (.map (some b)) y).run P w = .ok (.tuple #[ces[i].val,goInt e0.born]) w:=by
    unfold Instr.mapEntry;rw[Sem.run_bind,AA hu];simp only[Result.andThen_ok];rw[Sem.run_bind,kE A.hb];simp only[Result.andThen_ok];rw[Sem.run_bind,hck];simp only[Result.andThen_ok];rw[Sem.run_bind,hfind];simp only[Result.andThen_ok];rw[Sem.run_bind,z1A hce,hkv,K.stays];simp only[Result.andThen_ok];rw[Sem.run_bind,hsame,gH _ A.hb,ZW A.hb];simp [hce,q4]
   refine kA.pure H (sA hrun) (.tup _ [ces[i].val,goInt e0.born] rfl (fun j a c h1 h2=>?_))
   match j with
   | 0=>simp at h1 h2;subst h1;subst h2;exact q3
   | 1=>simp at h1 h2;subst h1;subst h2;exact RAV.pint _
   | j+2=>simp at h1
  ·rename_i hf
   simp only[Option.some.injEq,Prod.mk.injEq]at he;obtain⟨rfl,rfl,rfl⟩:=he;have hfind:=K.find (w:=w) A.esrel hf
   have hrun:(Instr.mapEntry t (.map (some b)) y).run P w = .ok (.tuple #[zv,goInt c]) (XA w b (.map (ces.push { key:=y,val:=zv,born:=c }) (c+1))):=by
    unfold Instr.mapEntry;rw[Sem.run_bind,AA hu];simp only[Result.andThen_ok];rw[Sem.run_bind,kE A.hb];simp only[Result.andThen_ok];rw[Sem.run_bind,hck];simp only[Result.andThen_ok];rw[Sem.run_bind,hfind];simp only[mD,Option.bind_none,Result.andThen_ok];rw[Sem.run_bind,hzr];simp only[Result.andThen_ok];rw[Sem.run_bind,gH _ A.hb];rfl
   obtain⟨n1,n2⟩:=A.put H (es':=es++[⟨key,z,c⟩]) (c':=c+1) (ces':=ces.push { key:=y,val:=zv,born:=c }) (by simp [A.sz])
    (fun e he=>by
     rw[List.mem_append,List.mem_singleton]at he;rcases he with he|rfl
     ·have:=A.bd e he;omega
     ·exact Nat.lt_succ_self _)
    (z2S A.sz ⟨K.rel,K.ok,Rz,rfl⟩ A.rel)
   refine⟨_,_,_,sA hrun,.inl ⟨_,rfl,.tup _ [zv,goInt c] rfl (fun j a c' h1 h2=>?_)⟩,n1,n2,mA.set A.ho (by
    have h3:=z3Z (es:=es) (e:=⟨key,z,c⟩)
    have h4:=z8O hz
    simp only[Obj.top,RB];dsimp only at *;omega)⟩
   match j with
   | 0=>simp at h1 h2;subst h1;subst h2;exact AG hz
   | 1=>simp at h1 h2;subst h1;subst h2;exact RAV.pint _
   | j+2=>simp at h1
  ·cases he
 ·cases he
theorem zcm {t:TypeId}{ev:Opd→AV}{m s u:Opd}{x y z:Value}{v:AV}{h1:aA}{e:Esc}(H:HeapRel h μ w)(Rm:RAV (imm h μ w) h μ (ev m) x)(Rs:RAV (imm h μ w) h μ (ev s) y)(Ru:RAV (imm h μ w) h μ (ev u) z)
 (he:aop (.estore m s u) ev h=some (v,h1,e)):kA P (do Instr.entryStore t x y z;pure .skip) h μ w v h1 e:=by
 simp only[aop]at he;split at he
 ·rename_i id es c bn hm hs hok
  obtain⟨b,n,ces,rfl,A⟩:=bI H Rm hm;obtain⟨kk,rfl⟩:=QD hs Rs;split at he
  ·rename_i i hf
   simp only[Option.some.injEq,Prod.mk.injEq]at he;obtain⟨rfl,rfl,rfl⟩:=he;rw[List.findIdx?_eq_some_iff_getElem]at hf;obtain⟨hi,hb1,hb2⟩:=hf;have he0:es[i]?=some es[i]:=List.getElem?_eq_getElem hi
   have hi':i<ces.size:=by have:=A.sz;omega
   have hce:ces[i]?=some ces[i]:=Array.getElem?_eq_getElem hi'
   obtain⟨q1,q2,q3,q4⟩:=A.rel i _ _ he0 hce;have hfi:ces.findIdx? (fun e=>(e.born:Int)==(bn:Int))=some i:=by
    rw[Array.findIdx?_eq_some_iff_getElem];refine⟨hi',?_,fun j hj=>?_⟩
    ·simp only[beq_iff_eq]at hb1 ⊢;rw[q4,hb1]
    ·have hj1:j<es.length:=by omega
     have hj2:j<ces.size:=by omega
     obtain⟨_,_,_,q5⟩:=A.rel j _ _ (List.getElem?_eq_getElem hj1) (Array.getElem?_eq_getElem hj2);have:=hb2 j hj;simp only[beq_iff_eq]at this ⊢;rw[q5];omega
   have hrun:(Instr.entryStore t (.map (some b)) (.int kk bn) z).run P w = .ok () (XA w b (.map (ces.modify i fun e=>{ e with val:=z }) c)):=by
    unfold Instr.entryStore;dsimp only;rw[Sem.run_bind,kE A.hb];simp only[Result.andThen_ok];rw[Sem.run_bind];have:(asInt (.int kk (bn:Int))).run P w = .ok (bn:Int) w:=by simp [asInt,asIntOf]
    rw[this];simp only[Result.andThen_ok,hfi];exact gH _ A.hb
   have hmod:ces.modify i (fun e=>{ e with val:=z })=ces.modify i (fun e=>{ e with key:=ces[i].key,val:=z }):=by
    apply Array.ext_getElem?
    intro j;rw[Array.getElem?_modify,Array.getElem?_modify];split
    ·rename_i hij;subst hij;rw[hce];rfl
    ·rfl
   rw[hmod]at hrun;obtain⟨n1,n2⟩:=A.put H (es':=es.modify i fun e=>{ e with val:=ev u }) (c':=c) (ces':=ces.modify i fun e=>{ e with key:=ces[i].key,val:=z }) (by simp [A.sz])
    (fun e he=>by
     obtain⟨j,hj,ej⟩:=List.getElem_of_mem he;have:(es.modify i fun e=>{ e with val:=ev u })[j]?=some e:=by rw[List.getElem?_eq_getElem hj,ej]
     rw[List.getElem?_modify]at this;simp only[Option.map_eq_map,Option.map_eq_some_iff]at this;obtain⟨e',he',rfl⟩:=this;have:=A.bd e' (by obtain⟨q,e⟩:=List.getElem?_eq_some_iff.1 he';rw[←e];exact List.getElem_mem _)
     split <;> exact this)
    (z2R (key:=es[i].key) (fun e he=>by rw[he0]at he;injection he with he;rw[←he]) q1 Ru A.rel)
   exact⟨_,_,_,ZP hrun,.inr ⟨rfl,rfl⟩,n1,n2,mA.set A.ho (by
    have:=z3Y (es:=es) (i:=i) (v:=ev u);have:=ZJ id (ev u);simp only[Obj.top];omega)⟩
  ·cases he
 ·cases he
theorem ze5 {kk:Sh × List Nat}{t ty:TypeId}{ts:List TypeId}(hc:xG P kk t=true){ev:Opd→AV}{m k:Opd}{x y:Value}{v:AV}{h1:aA}{e:Esc}(H:HeapRel h μ w)(Rm:RAV (imm h μ w) h μ (ev m) x)(Rk:RAV (imm h μ w) h μ (ev k) y)
 (he:aop (.mdel kk m k) ev h=some (v,h1,e)):kA P (do pure (.value (←Builtin.delete_ (t::ts).toArray ty #[x,y]))) h μ w v h1 e:=by
 obtain⟨kt,et,hu,hkt⟩:=KY hc;simp only[aop]at he;split at he
 ·rename_i key id es c hk hm
  have K:=MN hkt hk Rk
  obtain⟨b,n,ces,rfl,A⟩:=bI H Rm hm;have hck:=K.check (w:=w) ces.isEmpty
  split at he
  ·rename_i i hf
   simp only[Option.some.injEq,Prod.mk.injEq]at he;obtain⟨rfl,rfl,rfl⟩:=he;obtain⟨e0,he0,hek⟩:=TK hf;have hi:i<ces.size:=by have:=tA he0;have:=A.sz;omega
   have hce:ces[i]?=some ces[i]:=Array.getElem?_eq_getElem hi
   have hfind:=K.find (w:=w) A.esrel hf
   rw[CN (ce:=ces[i]) (by simpa using hce)]at hfind
   have hrun:(Builtin.delete_ (t::ts).toArray ty #[.map (some b),y]).run P w = .ok (.tuple #[]) (XA w b (.map (ces.eraseIdxIfInBounds i) c)):=by
    unfold Builtin.delete_;simp only[List.getElem?_toArray,List.getElem?_cons_zero,List.getElem?_cons_succ];rw[Sem.run_bind,AA hu];simp only[Result.andThen_ok];simp only[Sem.run_bind];simp [kE A.hb,hck,hfind,gH _ A.hb]
   have herase:∀j:Nat,(ces.eraseIdxIfInBounds i)[j]?=(ces.toList.eraseIdx i)[j]?:=by
    intro j;unfold Array.eraseIdxIfInBounds;rw[dif_pos hi,←Array.getElem?_toList,Array.toList_eraseIdx]
   obtain⟨n1,n2⟩:=A.put H (es':=es.eraseIdx i) (c':=c) (ces':=ces.eraseIdxIfInBounds i)
    (by unfold Array.eraseIdxIfInBounds;rw[dif_pos hi,Array.size_eraseIdx,List.length_eraseIdx_of_lt (tA he0),A.sz])
    (fun e he=>A.bd e ((List.eraseIdx_sublist _ _).subset he))
    (fun j e ce h1 h2=>by
     rw[herase,List.getElem?_eraseIdx]at h2;rw[List.getElem?_eraseIdx]at h1;split at h1
     ·rename_i hj;rw[if_pos hj]at h2;exact A.rel j e ce h1 (by simpa using h2)
     ·rename_i hj;rw[if_neg hj]at h2;exact A.rel (j+1) e ce h1 (by simpa using h2))
   exact⟨_,_,_,sA hrun,.inl ⟨_,rfl,.und _⟩,n1,n2,mA.set A.ho (by
    have:=zjU (es:=es) (i:=i);simp only[Obj.top,RB];omega)⟩
  ·rename_i hf
   simp only[Option.some.injEq,Prod.mk.injEq]at he;obtain⟨rfl,rfl,rfl⟩:=he;have hfind:=K.find (w:=w) A.esrel hf
   have hrun:(Builtin.delete_ (t::ts).toArray ty #[.map (some b),y]).run P w = .ok (.tuple #[]) w:=by
    unfold Builtin.delete_;simp only[List.getElem?_toArray,List.getElem?_cons_zero,List.getElem?_cons_succ];rw[Sem.run_bind,AA hu];simp only[Result.andThen_ok];simp only[Sem.run_bind];simp [kE A.hb,hck,hfind,mD,gH _ A.hb,ZW A.hb]
   exact kA.pure H (sA hrun) (.und _)
  ·cases he
 ·cases he
end Go.Am
end
section
/- The abstract machine,part N: ranges over maps,whatever the order. -/
set_option linter.unusedSimpArgs false
set_option linter.unusedVariables false
set_option maxHeartbeats 1000000
namespace Go.Am
variable {h h':aA} {μ μ':Mu} {w w':World} {P:Program} {M M':Mem}
def QR (P:Program)(t:TypeId):Bool:=match P.underlying t with
 | some (.map _ _)=>true
 | _=>false
theorem QW {b s l:Nat}{m:Option Nat}{seen:Array Nat}(hb:w.heap[b]?=some (.mapIter m s seen l)):(getObj b).run P w = .ok (.mapIter m s seen l) w:=by
 simp [getObj,Sem.run,hb]
theorem zi7 {b s l:Nat}{m:Option Nat}{seen:Array Nat}(o':Go.Obj)(hb:w.heap[b]?=some (.mapIter m s seen l)):(setObj b o').run P w = .ok () (XA w b o'):=by
 simp [setObj,Sem.run,hb,XA]
theorem zeE {t:TypeId}(hc:QR P t=true){ev:Opd→AV}{p:Opd}{x:Value}{v:AV}{h1:aA}{e:Esc}(H:HeapRel h μ w)(Rp:RAV (imm h μ w) h μ (ev p) x)
 (he:aop (.mrange p) ev h=some (v,h1,e)):kA P (do pure (.value (←Instr.range t x))) h μ w v h1 e:=by
 have hu:∃a b,P.underlying t=some (.map a b):=by
  unfold QR at hc;split at hc
  ·rename_i a b hu;exact⟨a,b,hu⟩
  ·cases hc
 obtain⟨ka,kb,hu⟩:=hu;simp only[aop]at he;split at he
 ·rename_i id es c hm
  simp only[Option.some.injEq,Prod.mk.injEq]at he;obtain⟨rfl,rfl,rfl⟩:=he;obtain⟨b,n,ces,rfl,A⟩:=bI H Rp hm;have hrun:(Instr.range t (.map (some b))).run P w = .ok (.pointer (some ⟨w.heap.size,0,none⟩)) { w with heap:=w.heap.push (.mapIter (some b) c #[] c) }:=by
   unfold Instr.range;rw[Sem.run_bind,AA hu];simp only[Result.andThen_ok];rw[Sem.run_bind,kE A.hb];simp only[Result.andThen_ok];rfl
  obtain⟨n1,n2⟩:=H.push (WExt.push w (.mapIter (some b) c #[] c)) (.iter (some id) c [] c) (some (w.heap.size,0)) (fun b n e=>by injection e with e;injection e with e1 e2;subst e1;exact⟨Nat.le_refl _,by simp⟩)
   (fun M' E=>⟨w.heap.size,0,rfl,⟨b,n,es,c,fF A.hm,fF A.ho,by simp⟩⟩)
  exact⟨_,_,_,sA hrun,.inl ⟨_,rfl,.it h.length w.heap.size 0 (some id) c [] c (by simp) (by rw[←H.len];simp)⟩,n1,n2,mA.push (by
   have:=tA A.ho;simp only[Obj.top];omega)⟩
 ·split at he
  ·rename_i hp
   simp only[Option.some.injEq,Prod.mk.injEq]at he;obtain⟨rfl,rfl,rfl⟩:=he;rw[hp]at Rp;cases Rp;have hrun:(Instr.range t (.map none)).run P w = .ok (.pointer (some ⟨w.heap.size,0,none⟩)) { w with heap:=w.heap.push (.mapIter none 0 #[] 0) }:=by
    unfold Instr.range;rw[Sem.run_bind,AA hu];simp only[Result.andThen_ok];rfl
   obtain⟨n1,n2⟩:=H.push (WExt.push w (.mapIter none 0 #[] 0)) (.iter none 0 [] 0) (some (w.heap.size,0)) (fun b n e=>by injection e with e;injection e with e1 e2;subst e1;exact⟨Nat.le_refl _,by simp⟩)
    (fun M' E=>⟨w.heap.size,0,rfl,fun _=>by simp⟩)
   exact⟨_,_,_,sA hrun,.inl ⟨_,rfl,.it h.length w.heap.size 0 none 0 [] 0 (by simp) (by rw[←H.len];simp)⟩,n1,n2,mA.push (by simp [Obj.top])⟩
  ·cases he
theorem PU {id:Nat}{mm:Option Nat}{since:Nat}{seen:List Nat}{last:Nat}{x:Value}(H:HeapRel h μ w)(R:RAV (imm h μ w) h μ (.it id) x)(hi:h[id]?=some (.iter mm since seen last)) :
 ∃b n,x = .pointer (some ⟨b,0,none⟩)∧μ[id]?=some (some (b,n))∧(match (generalizing:=false) mm with
  | none=>since=0→w.heap[b]?=some (.mapIter none 0 #[] 0)
  | some i=>∃bm nm es c,μ[i]?=some (some (bm,nm))∧h[i]?=some (.amap es c)∧w.heap[b]?=some (.mapIter (some bm) since seen.toArray last)):=by
 cases R with|it _ b n m s sn l ho hm=>
 obtain⟨b',n',hb',k1⟩:=H.obj _ _ _ hi hm;injection hb' with hb';injection hb' with hb1 hb2
 subst hb1;exact⟨_,_,rfl,hm,k1⟩
theorem ze7 {ev:Opd→AV}{p:Opd}{x:Value}{v:AV}{h1:aA}{e:Esc}(H:HeapRel h μ w)(Rp:RAV (imm h μ w) h μ (ev p) x)
 (he:aop (.mentry p) ev h=some (v,h1,e)):kA P (do pure (.value (←Instr.entry x))) h μ w v h1 e:=by
 simp only[aop]at he;split at he
 ·rename_i id hp
  split at he
  ·rename_i mi since seen last hi
   split at he
   ·rename_i mid es c bo hm hl
    rw[hp]at Rp;obtain⟨b,n,rfl,hmu,bm,nm,es',c',k1,k2,k3⟩:=PU H Rp hi;split at he
    ·rename_i hcl
     simp only[Option.map_eq_some_iff,Prod.mk.injEq]at he;obtain⟨e0,hf,rfl,rfl,rfl⟩:=he;have hm2:h[mi]?=some (.amap es c):=by
      have:=(fI hm).2;have:=(fI hm).1;injection this with this
      subst this;assumption
     have hmi:mid=mi:=by have:=(fI hm).1;injection this with this;exact this.symm
     rw[k2]at hm2;injection hm2 with hm2
     injection hm2 with q1 q2
     subst q1;subst q2
     obtain⟨b3,n3,ces,hb3,w1,w2,w4,w3⟩:=H.obj _ _ _ k2 k1;injection hb3 with hb3;injection hb3 with hb31 hb32
     subst hb31;rw[List.find?_eq_some_iff_getElem]at hf;obtain⟨hb0,i,hi1,hei,hlt⟩:=hf;have hi2:i<ces.size:=by omega
     obtain⟨q1,q2,q3,q4⟩:=w3 i _ _ (List.getElem?_eq_getElem hi1) (Array.getElem?_eq_getElem hi2);have hfind:ces.find? (·.born==bo)=some ces[i]:=by
      rw[Array.find?_eq_some_iff_getElem];refine⟨by rw[q4,hei];exact hb0,i,hi2,rfl,fun j hj=>?_⟩
      obtain⟨_,_,_,q5⟩:=w3 j _ _ (List.getElem?_eq_getElem (show j<es'.length by omega)) (Array.getElem?_eq_getElem (show j<ces.size by omega))
      have:=hlt j hj;rw[q5];simpa using this
     have hback:seen.toArray.back?=some bo:=by rw[List.back?_toArray];exact hl
     have hrun:(Instr.entry (.pointer (some ⟨b,0,none⟩))).run P w = .ok (.tuple #[ces[i].key,ces[i].val]) w:=by
      unfold Instr.entry;simp only[Sem.run_bind,Sem.run_pure,Result.andThen_ok,QW k3,hback,kE w1,hcl,hfind];simp
     refine kA.pure H (sA hrun) (.tup _ [ces[i].key,ces[i].val] rfl (fun j a c h1 h2=>?_))
     rw[hei]at q1 q3;match j with
     | 0=>simp at h1 h2;subst h1;subst h2;exact .p _ _ q1
     | 1=>simp at h1 h2;subst h1;subst h2;exact q3
     | j+2=>simp at h1
    ·cases he
   ·cases he
  ·cases he
 ·cases he
theorem zep {es:List ME}{ces:Array MapEntry}{seen:List Nat}(hsz:ces.size=es.length)(hb:∀ (i:Nat) (e:ME) (ce:MapEntry),es[i]?=some e→ces[i]?=some ce→ce.born=e.born) :
 ∀ce∈(ces.filter fun e=>!seen.toArray.contains e.born).toList,∃(i:Nat) (e:ME),es[i]?=some e∧ces[i]?=some ce∧e∈es.filter fun e=>!seen.contains e.born:=by
 intro ce hce;rw[Array.toList_filter,List.mem_filter]at hce;obtain⟨h1,h2⟩:=hce;obtain⟨i,hi,rfl⟩:=List.getElem_of_mem h1;have hi1:i<ces.size:=by simpa using hi
 have hi2:i<es.length:=by omega
 have hc:ces[i]?=some ces[i]:=Array.getElem?_eq_getElem hi1
 have:=hb i _ _ (List.getElem?_eq_getElem hi2) hc;refine⟨i,es[i],List.getElem?_eq_getElem hi2,by simpa using hc,?_⟩
 rw[List.mem_filter];refine⟨List.getElem_mem _,?_⟩;rw[←this];simpa using h2
theorem z1W {es:List ME}{ces:Array MapEntry}{seen:List Nat}(hsz:ces.size=es.length)(hb:∀ (i:Nat) (e:ME) (ce:MapEntry),es[i]?=some e→ces[i]?=some ce→ce.born=e.born)
 (h0:(ces.filter fun e=>!seen.toArray.contains e.born) = #[]):es.filter (fun e=>!seen.contains e.born)=[]:=by
 rw[List.filter_eq_nil_iff];intro e he;obtain⟨i,hi,rfl⟩:=List.getElem_of_mem he;have hi2:i<ces.size:=by omega
 have:=hb i _ _ (List.getElem?_eq_getElem hi) (Array.getElem?_eq_getElem hi2);rw[Array.filter_eq_empty_iff]at h0;have:=h0 ces[i] (Array.getElem_mem hi2);simp_all
theorem zeD {ty:TypeId}{ev:Opd→AV}{p:Opd}{x:Value}{l:List (AV × aA)}(H:HeapRel h μ w)(Rp:RAV (imm h μ w) h μ (ev p) x)
 (he:VN h (ev p)=some l):∃y∈l,kA P (do pure (.value (←Instr.next x false ty))) h μ w y.1 y.2 []:=by
 unfold VN at he;split at he
 ·rename_i id hp
  rw[hp]at Rp;split at he
  ·rename_i s sn ls hi
   obtain⟨b,n,rfl,hmu,k1⟩:=PU H Rp hi;split at he;case isFalse=>cases he
   rename_i hs0;injection he with he
   subst he;have k1:=k1 hs0
   refine⟨_,List.mem_singleton.2 rfl,?_⟩;have hrun:(Instr.next (.pointer (some ⟨b,0,none⟩)) false ty).run P w = .ok (.tuple #[.bool false]) w:=by
    unfold Instr.next;simp [QW k1]
   refine kA.pure H (sA hrun) (.tup _ [.bool false] rfl (fun j a c h1 h2=>?_))
   match j with
   | 0=>simp at h1 h2;subst h1;subst h2;exact RAV.pbool _
   | j+1=>simp at h1
  ·rename_i mi since seen last hi
   obtain⟨b,n,rfl,hmu,bm,nm,es',c',k1,k2,k3⟩:=PU H Rp hi;split at he
   ·rename_i mid es c hm
    have hm2:=(fI hm).2
    have hmi:mi=mid:=by have:=(fI hm).1;injection this
    subst hmi;rw[k2]at hm2;injection hm2 with hm2
    injection hm2 with q1 q2
    subst q1;subst q2
    obtain⟨b3,n3,ces,hb3,w1,w2,w4,w3⟩:=H.obj _ _ _ k2 k1;injection hb3 with hb3;injection hb3 with hb31 hb32
    subst hb31;split at he
    ·rename_i hcs
     obtain⟨rfl,rfl⟩:=hcs;have hbo:∀(i:Nat) (e:ME) (ce:MapEntry),es'[i]?=some e→ces[i]?=some ce→ce.born=e.born:=fun i e ce a1 a2=>(w3 i e ce a1 a2).2.2.2
     have hblt:∀ce∈ces,ce.born<last:=by
      intro ce hce;obtain⟨i,hi1,rfl⟩:=Array.getElem_of_mem hce;have hi2:i<es'.length:=by omega
      rw[hbo i _ _ (List.getElem?_eq_getElem hi2) (Array.getElem?_eq_getElem hi1)];exact w4 _ (List.getElem_mem hi2)
     have huns:(!seen.toArray.isEmpty && !ces.isEmpty&&ces.all (fun e=>decide (e.born≥last)))=false:=by
      cases hz:ces.isEmpty with
      | true=>simp
      | false=>
       have h0:0<ces.size:=by
        rcases Nat.eq_zero_or_pos ces.size with q|q
        ·rw[Array.isEmpty_iff_size_eq_zero.2 q]at hz;cases hz
        ·exact q
       have:ces.all (fun e=>decide (e.born≥last))=false:=by
        rw[Bool.eq_false_iff];intro hall;rw[Array.all_eq_true_iff_forall_mem]at hall;have q1:=hall ces[0] (Array.getElem_mem h0)
        have q2:=hblt ces[0] (Array.getElem_mem h0)
        simp at q1;omega
       simp [this]
     have hold:(ces.filter fun e=>!seen.toArray.contains e.born).filter (fun e=>decide (e.born<last))=ces.filter fun e=>!seen.toArray.contains e.born:=by
      rw[Array.filter_eq_self];intro ce hce;rw[Array.mem_filter]at hce;simpa using hblt ce hce.1
     have hnew:(ces.filter fun e=>!seen.toArray.contains e.born).filter (fun e=>decide (e.born≥last)) = #[]:=by
      rw[Array.filter_eq_empty_iff];intro ce hce;rw[Array.mem_filter]at hce;have:=hblt ce hce.1;simp;omega
     generalize hL:(ces.filter fun e=>!seen.toArray.contains e.born)=L at *
     have hbody:∀(q:Nat) (w1':World),(choose (.mapNext ((if L.isEmpty then #[none] else #[])++(L ++ #[]).map some).size)).run P w = .ok q w1'→WExt w w1' →
      (Instr.next (.pointer (some ⟨b,0,none⟩)) false ty).run P w=(match ((if L.isEmpty then #[none] else #[])++(L ++ #[]).map some)[q]? with
       | some (some e)=>(do setObj b (.mapIter (some bm) last (seen.toArray.push e.born) last);pure (.tuple #[.bool true,e.key,e.val]):Sem Value)
       | some none=>pure (.tuple #[.bool false])
       | none=>stuck "Next: no such candidate").run P w1':=by
      intro q w1' hch _;unfold Instr.next;simp only[Sem.run_bind,Sem.run_pure,Result.andThen_ok,QW k3,kE w1,huns,Bool.false_eq_true,if_false,hL,hold,hnew,hch];rfl
     have hlen:es'.filter (fun e=>!seen.contains e.born)=[]∨L ≠ #[]:=by
      by_cases h0:L = #[]
      ·left;exact z1W w2 hbo (by rw[hL];exact h0)
      ·right;exact h0
     by_cases h0:L = #[]
     ·subst h0
      have hnil:=z1W w2 hbo hL
      rw[hnil]at he;injection he with he
      subst he;refine⟨_,List.mem_singleton.2 rfl,?_⟩;have hch:(choose (.mapNext ((if(#[]:Array MapEntry).isEmpty then #[none] else #[])++((#[]:Array MapEntry) ++ #[]).map some).size)).run P w = .ok 0 w:=by
       simp [Question.forced]
      have:=hbody 0 w hch (WExt.refl w);have hrun:(Instr.next (.pointer (some ⟨b,0,none⟩)) false ty).run P w = .ok (.tuple #[.bool false]) w:=by
       rw[this];simp
      have hμ:μ.set id (some (b,n))=μ:=by
       apply List.ext_getElem?
       intro j;rw[List.getElem?_set];split
       ·rename_i hj;subst hj;rw[if_pos (tA hmu),hmu]
       ·rfl
      have:=H.set (w':=w) (id:=id) (o:=.iter (some mi) last seen last) (o':=.iter none 1 [] 0) (m:=some (b,n)) (m':=some (b,n)) hi hmu ⟨⟨_,_,_,_,rfl⟩,rfl⟩ rfl (Nat.le_refl _)
       (fun b' _ hne=>rfl) (fun b' n' e=>.inl ⟨n',e⟩) (fun b' n' sh xs fz _ e=>by cases e)
       (fun M' E=>⟨b,n,rfl,fun e=>by cases e⟩) (fun _ _ _ _ h=>h)
      rw[hμ]at this;obtain⟨n1,n2⟩:=this;refine⟨_,_,_,sA hrun,.inl ⟨_,rfl,.tup _ [.bool false] rfl (fun j a c h1 h2=>?_)⟩,n1,n2,mA.set hi (by simp only[Obj.top,RB];omega)⟩
      match j with
      | 0=>simp at h1 h2;subst h1;subst h2;exact RAV.pbool _
      | j+1=>simp at h1
     ·have hne:L.isEmpty=false:=by
       cases hz:L.isEmpty with
       | false=>rfl
       | true=>exact absurd (Array.isEmpty_iff.1 hz) h0
      have hpos:0<L.size:=by
       rcases Nat.eq_zero_or_pos L.size with q|q
       ·exact absurd (Array.eq_empty_of_size_eq_zero q) h0
       ·exact q
      have hcand:((if L.isEmpty then #[none] else #[])++(L ++ #[]).map some)=L.map some:=by rw[hne];simp
      obtain⟨q,w1',hch,hq,hext⟩:∃q w1',(choose (.mapNext ((if L.isEmpty then #[none] else #[])++(L ++ #[]).map some).size)).run P w = .ok q w1'∧q<L.size∧WExt w w1':=by
       rw[hcand];simp only[Array.size_map,run_choose,Question.forced,Question.cut];by_cases h1:L.size≤1
       ·exact⟨0,w,by simp [h1],by omega,WExt.refl w⟩
       ·exact⟨w.tape w.drawn (Question.mapNext L.size)%L.size,{ w with drawn:=w.drawn+1 },by simp [h1],Nat.mod_lt _ hpos,WExt.drew w _⟩
      have hb:=hbody q w1' hch hext
      rw[hcand]at hb;have hLq:(L.map some)[q]?=some (some L[q]):=by simp [hq]
      rw[hLq]at hb;dsimp only at hb;obtain⟨i,e,he1,he2,he3⟩:=zep (seen:=seen) w2 hbo L[q] (by rw[hL];simp)
      have hes:es'.filter (fun e=>!seen.contains e.born)≠[]:=fun hn=>by rw[hn]at he3;cases he3
      have hl:l=(es'.filter (fun e=>!seen.contains e.born)).map fun e=>(.tup [pbool true,.p e.key,e.val],h.set id (.iter (some mi) last (seen++[e.born]) last)):=by
       split at he
       ·rename_i hn;exact absurd hn hes
       ·injection he with he;exact he.symm
      obtain⟨q1,q2,q3,q4⟩:=w3 i e _ he1 he2;have k3':w1'.heap[b]?=some (.mapIter (some bm) last seen.toArray last):=by rw[hext.right b (rH k3)];exact k3
      have hrun:(Instr.next (.pointer (some ⟨b,0,none⟩)) false ty).run P w = .ok (.tuple #[.bool true,L[q].key,L[q].val]) (XA w1' b (.mapIter (some bm) last (seen.toArray.push L[q].born) last)):=by
       rw[hb,Sem.run_bind,zi7 _ k3'];rfl
      obtain⟨H1,E1⟩:=H.ext hext;have hμ:μ.set id (some (b,n))=μ:=by
       apply List.ext_getElem?
       intro j;rw[List.getElem?_set];split
       ·rename_i hj;subst hj;rw[if_pos (tA hmu),hmu]
       ·rfl
      have hidm:id≠mi:=fun e=>by subst e;rw[k2]at hi;cases hi
      have:=H1.set (w':=XA w1' b (.mapIter (some bm) last (seen.toArray.push L[q].born) last)) (id:=id) (o:=.iter (some mi) last seen last) (o':=.iter (some mi) last (seen++[e.born]) last) (m:=some (b,n)) (m':=some (b,n)) hi hmu ⟨⟨_,_,_,_,rfl⟩,rfl⟩ rfl (by rw[oJ];exact Nat.le_refl _)
       (fun b' _ hne=>nJ (fun e=>hne n (by rw[e]))) (fun b' n' e=>.inl ⟨n',e⟩) (fun b' n' sh xs fz _ e=>by cases e)
       (fun M' E=>⟨b,n,rfl,bm,nm,es',last,by rw[List.getElem?_set_ne hidm];exact k1,by rw[List.getElem?_set_ne hidm];exact k2,by
        rw[lE k3',←q4];simp⟩)
       (fun b' n' t e ht=>by
        injection e with e
        injection e with e1 _
        subst e1;unfold ety at ht;rw[k3']at ht;cases ht)
      rw[hμ]at this;obtain⟨n1,n2⟩:=this;refine⟨(.tup [pbool true,.p e.key,e.val],h.set id (.iter (some mi) last (seen++[e.born]) last)),?_,_,_,_,sA hrun,.inl ⟨_,rfl,.tup _ [.bool true,L[q].key,L[q].val] rfl (fun j a c h1 h2=>?_)⟩,n1,E1.trans n2,mA.set hi (by simp only[Obj.top,RB];omega)⟩
      ·rw[hl];exact List.mem_map.2 ⟨e,he3,rfl⟩
      ·match j with
       | 0=>simp at h1 h2;subst h1;subst h2;exact RAV.pbool _
       | 1=>simp at h1 h2;subst h1;subst h2;exact .p _ _ (q1.mono (E1.trans n2).le)
       | 2=>simp at h1 h2;subst h1;subst h2;exact q3.evo (E1.trans n2)
       | j+3=>simp at h1
    ·cases he
   ·cases he
  ·cases he
 ·cases he
theorem z6I {sh:Sh}{t u ty:TypeId}(hc:OE P sh t u=true){ev:Opd→AV}{p q:Opd}{s x:Value}{l:List (AV × aA)}(H:HeapRel h μ w)(Rs:RAV (imm h μ w) h μ (ev p) s)(Rx:RAV (imm h μ w) h μ (ev q) x)
 (he:zG h (some sh) ([p,q].map ev)=some l):∃y∈l,kA P (do pure (.value (←Builtin.append_ #[t,u] ty #[s,x]))) h μ w y.1 y.2 []:=by
 simp only[List.map_cons,List.map_nil,zG]at he;unfold appq at he;split at he;case h_2=>cases he
 rename_i sh' ys hr;split at he;case isFalse=>cases he
 rename_i hsh;subst hsh;have S:=wL (P:=P) H Rx hr
 obtain⟨c,hck,hc2⟩:=S.2 ys.length (Nat.le_refl _);rw[List.take_length]at hc2;have hck0:(Builtin.firstCells (gA sh') ys.length x).run P w = .ok c w:=hck w.drawn
 split at he;case h_2=>cases he
 rename_i id g off len hs0;split at he;case h_2=>cases he
 rename_i rsh xs fz ho;split at he;case isTrue hcond=>
  obtain⟨rfl,hg,hlen,hmax,hfz⟩:=hcond;injection he with he
  subst he;rw[hs0]at Rs;have RR:=CE H Rs ho hg
  obtain⟨_,k2,a,cap,rfl,hlc,hcap⟩:=RR;obtain⟨m,hm,hO⟩:=iE H ho;obtain⟨kf,_,kO⟩:=hO;subst hg;by_cases hroom:len+ys.length≤cap
  ·by_cases hc0:0<cap
   ·obtain⟨b,n,c',hm',rfl,hB,hn1,hn2,hcell⟩:=hcap hc0
    refine⟨_,List.mem_cons_self,?_⟩;obtain⟨w',r1,r2,r3,r4⟩:=iJ (P:=P) (at_:=xs.length) H ho hm' hB hc2 hfz (Nat.le_refl _) (Nat.le_trans (Nat.mul_le_mul_right _ (by omega)) hn1)
    rw[z3P]at r2 r3 r4;have hrun:=cG (ty:=ty) (base:=some ⟨b,off*gA rsh,none⟩) (sLen:=len) (sCap:=cap) hc S.1 hck0 hroom (w':=w') (by
     have e:off*gA rsh+len*gA rsh=xs.length*gA rsh:=by rw[←Nat.add_mul,hlen]
     simpa [bC,e] using r1)
    refine⟨_,_,_,sA hrun,.inl ⟨_,rfl,?_⟩,r2,r3,r4⟩;refine .own id (xs.length+ys.length) off (len+ys.length) _ cap rsh (xs++ys) fz (some (b,n)) hroom (nC ho) hm' (by simp) (by omega) (fun _=>?_)
    right;exact⟨rfl,hn1⟩
   ·have hl0:len=0:=by omega
    have hy0:ys=[]:=by apply List.length_eq_zero_iff.1;omega
    subst hy0;subst hl0
    have hcap0:cap=0:=by omega
    subst hcap0;refine⟨_,List.mem_cons_self,?_⟩;have hrun:=cG (ty:=ty) (base:=a) (sLen:=0) (sCap:=0) hc S.1 hck0 (by simp) (w':=w) (by
     have:c.toList=[]:=by apply List.length_eq_zero_iff.1;rw[hc2.1];simp
     cases a with
     | none=>rfl
     | some a=>rw[this];rfl)
    have hs:h.set id (.row rsh (xs++[]) fz)=h:=by rw[List.append_nil];exact GE ho
    rw[hs];refine⟨_,_,_,sA hrun,.inl ⟨_,rfl,?_⟩,H,Evo.refl _ _ _,mA.refl _ _⟩;exact Rs
  ·have hr0:rds h (.own id xs.length off len)=some (rsh,win xs off len):=by simp [rds,rd,ho];omega
   have hwl:(win xs off len).length=len:=by simp [win];omega
   obtain⟨newCap,n,w',c',g1,g2,g3,g4,g5,g6,g7,_⟩:=RK (ty:=ty) (base:=a) (sCap:=cap) (xs:=win xs off len) (v0:=.own id xs.length off len) hc H Rx hr (by omega) (by omega) (by rw[hwl];exact Rs) hr0
   rw[hwl]at g1 g3;obtain⟨n1,n2⟩:=QF H g4 (Nat.le_refl _) g5 g6 (by rw[←g2];exact Nat.mul_le_mul_right _ (by rw[List.length_append,hwl];exact g1)) g7.2.1 g7.2.2
   refine⟨_,List.mem_cons_of_mem _ List.mem_cons_self,?_⟩;refine⟨_,_,_,sA g3,.inl ⟨_,rfl,?_⟩,n1,n2,mA.push (by simp [Obj.top])⟩
   refine .own h.length (len+ys.length) 0 (len+ys.length) _ newCap rsh (win xs off len++ys) 0 (some (w.heap.size,n)) g1 (by simp) (by rw[←H.len];simp) (by simp [hwl]) (by simp) (fun _=>?_)
   right;exact⟨by simp,by rw[←g2];simp⟩
 split at he;case isFalse=>cases he
 rename_i hcond;obtain⟨rfl,hg,hlen,hfz,hmax⟩:=hcond;injection he with he
 subst he;rw[hs0]at Rs;have RR:=CE H Rs ho hg
 obtain⟨_,k2,a,cap,rfl,hlc,hcap⟩:=RR;obtain⟨m,hm,hO⟩:=iE H ho;obtain⟨kf,_,kO⟩:=hO;subst hg;have hsl:∀zs:List PV,xs.length≤(splice xs (off+len) zs).length:=by intro zs;simp [splice];omega
 have hsl2:∀zs:List PV,off+len+zs.length≤(splice xs (off+len) zs).length:=by intro zs;simp [splice];omega
 by_cases hroom:len+ys.length≤cap
 ·by_cases hc0:0<cap
  ·obtain⟨b,n,c',hm',rfl,hB,hn1,hn2,hcell⟩:=hcap hc0
   refine⟨_,List.mem_cons_self,?_⟩;obtain⟨w',r1,r2,r3,r4⟩:=iJ (P:=P) (at_:=off+len) H ho hm' hB hc2 hfz (by omega) (Nat.le_trans (Nat.mul_le_mul_right _ (by omega)) hn1)
   have hrun:=cG (ty:=ty) (base:=some ⟨b,off*gA rsh,none⟩) (sLen:=len) (sCap:=cap) hc S.1 hck0 hroom (w':=w') (by
    have e:off*gA rsh+len*gA rsh=(off+len)*gA rsh:=by rw[←Nat.add_mul]
    simpa [bC,e] using r1)
   refine⟨_,_,_,sA hrun,.inl ⟨_,rfl,?_⟩,r2,r3,r4⟩;refine .own id (splice xs (off+len) ys).length off (len+ys.length) _ cap rsh (splice xs (off+len) ys) fz (some (b,n)) hroom (nC ho) hm' (Nat.le_refl _) (by have:=hsl2 ys;omega) (fun _=>?_)
   right;exact⟨rfl,hn1⟩
  ·have hl0:len=0:=by omega
   have hy0:ys=[]:=by apply List.length_eq_zero_iff.1;omega
   subst hy0;subst hl0
   have hcap0:cap=0:=by omega
   subst hcap0;refine⟨_,List.mem_cons_self,?_⟩;have hrun:=cG (ty:=ty) (base:=a) (sLen:=0) (sCap:=0) hc S.1 hck0 (by simp) (w':=w) (by
    have:c.toList=[]:=by apply List.length_eq_zero_iff.1;rw[hc2.1];simp
    cases a with
    | none=>rfl
    | some a=>rw[this];rfl)
   have hsp:splice xs (off+0) []=xs:=by simp [splice]
   have hs:h.set id (.row rsh (splice xs (off+0) []) fz)=h:=by rw[hsp];exact GE ho
   rw[hs];refine⟨_,_,_,sA hrun,.inl ⟨_,rfl,?_⟩,H,Evo.refl _ _ _,mA.refl _ _⟩;rw[hsp];exact Rs
 ·have hr0:rds h (.own id xs.length off len)=some (rsh,win xs off len):=by simp [rds,rd,ho];omega
  have hwl:(win xs off len).length=len:=by simp [win];omega
  obtain⟨newCap,n,w',c',g1,g2,g3,g4,g5,g6,g7,_⟩:=RK (ty:=ty) (base:=a) (sCap:=cap) (xs:=win xs off len) (v0:=.own id xs.length off len) hc H Rx hr (by omega) (by omega) (by rw[hwl];exact Rs) hr0
  rw[hwl]at g1 g3;obtain⟨n1,n2⟩:=QF H g4 (Nat.le_refl _) g5 g6 (by rw[←g2];exact Nat.mul_le_mul_right _ (by rw[List.length_append,hwl];exact g1)) g7.2.1 g7.2.2
  refine⟨_,List.mem_cons_of_mem _ List.mem_cons_self,?_⟩;refine⟨_,_,_,sA g3,.inl ⟨_,rfl,?_⟩,n1,n2,mA.push (by simp [Obj.top])⟩
  refine .own h.length (len+ys.length) 0 (len+ys.length) _ newCap rsh (win xs off len++ys) 0 (some (w.heap.size,n)) g1 (by simp) (by rw[←H.len];simp) (by simp [hwl]) (by simp) (fun _=>?_)
  right;exact⟨by simp,by rw[←g2];simp⟩
end Go.Am
end
section
/- The abstract machine: rows whose elements name rows (made,put tov). -/
set_option linter.unusedSimpArgs false
set_option linter.unusedVariables false
namespace Go.Am
variable {h h':aA} {μ μ':Mu} {w w':World} {P:Program} {M M':Mem}
theorem zeM (H:HeapRel h μ w)(sh:Sh) :
 HeapRel (h++[.arow sh []]) (μ++[none]) w∧Evo (imm h μ w) h μ (imm (h++[.arow sh []]) (μ++[none]) w) (h++[.arow sh []]) (μ++[none]):=
 H.push (WExt.refl w) _ _ (fun b' n e=>by cases e) (fun M' E=>⟨by simp,rfl⟩)
end Go.Am
end
section
/- The abstract machine: a strings.Builder's operations (nF) are sound. -/
set_option linter.unusedSimpArgs false
set_option linter.unusedVariables false
namespace Go.Am
variable {h h':aA} {μ μ':Mu} {w w':World} {P:Program} {M M':Mem}
def sH (o:Op):Option (Operand×List Operand):=match o with
 | .call c=>match c.callee with
  | .value f=>some (f,c.args.toList)
  | _=>none
 | _=>none
theorem WP {o:Oper}{f:Operand}{ys:List Operand}(hc:sH o.op=some (f,ys)){ρ:Operand→Value}{g:Nat}{caps:Array Value}(hf:ρ f = .func (.func g) #[] caps) :
 (execOp ρ o).run P w=(callFunc g ((ys.map ρ).toArray++caps)).run P w:=by
 unfold sH at hc;split at hc
 ·rename_i c hop
  split at hc
  ·rename_i f' hcal
   injection hc with hc
   injection hc with h1 h2
   subst h1;subst h2
   unfold execOp;rw[hop];simp only[resolve,hcal,Deferred.ofValue,hf,Sem.run_bind,Sem.run_pure,Result.andThen_ok,invoke];have e1:(List.map ρ c.args.toList).toArray=c.args.map ρ:=by rw[←Array.toList_map]
   rw[e1];simp
  ·cases hc
 ·cases hc
theorem UP (t:Nat):∀(z:List AV) (c:List Value) {h:aA} {μ:Mu},HeapRel h μ w→c.length=z.length→(∀(j:Nat) (x:AV),z[j]?=some x→x.sc=true∧∃v,c[j]?=some v∧RAV (imm h μ w) h μ x v) →
 ∃μ',HeapRel (kB t z h).2 μ' w∧Evo (imm h μ w) h μ (imm (kB t z h).2 μ' w) (kB t z h).2 μ'∧mA h (kB t z h).2 []∧(kB t z h).1.length=z.length ∧
  ∀(j:Nat) (x:AV),(kB t z h).1[j]?=some x→x.sc=true∧∃v,c[j]?=some v∧RAV (imm (kB t z h).2 μ' w) (kB t z h).2 μ' x v
 | [],c,h,μ,H,_,_=>⟨μ,H,Evo.refl _ _ _,mA.refl _ _,rfl,fun j x hx=>by simp [kB]at hx⟩
 | a::r,[],h,μ,H,e,_=>by simp at e
 | a::r,b::s,h,μ,H,e,hr=>by
  have e3:s.length=r.length:=by simpa using e
  obtain⟨a1,b',hb',a2⟩:=hr 0 a rfl;have hbb:b'=b:=by simpa using hb'.symm
  subst hbb;by_cases ha:∃sh,a = .sl0 sh
  ·obtain⟨sh,rfl⟩:=ha
   cases hn:WN t sh with
   | true=>
    have hrw:kB t (.sl0 sh::r) h=(.bt 3 (t-1) h.length 0::(kB t r (h++[.arow (CC (t-1)) []])).1,(kB t r (h++[.arow (CC (t-1)) []])).2):=by
     show(bif WN t sh then _ else _)=_
     rw[hn];rfl
    rw[hrw];obtain⟨k1,k2⟩:=zeM H (CC (t-1));obtain⟨μ',g1,g2,g3,g4,g5⟩:=UP t r s k1 e3 (fun j x hx=>by
     obtain⟨q1,v,q2,q3⟩:=hr (j+1) x (by simpa using hx)
     exact⟨q1,v,by simpa using q2,q3.evo k2⟩)
    refine⟨μ',g1,k2.trans g2,?_,by simp [g4],fun j x hx=>?_⟩
    ·simpa using (mA.push (h:=h) (o:=.arow (CC (t-1)) []) (by simp [Obj.top,AV.tops])).trans g3
    ·cases j with
     | zero=>
      simp at hx;subst hx;refine⟨rfl,b',rfl,?_⟩;cases a2 with
      | sl0 _ aa=>
       have q:RAV (imm (h++[.arow (CC (t-1)) []]) (μ++[none]) w) (h++[.arow (CC (t-1)) []]) (μ++[none]) (.bt 3 (t-1) h.length 0) (.slice aa 0 0):=
        .bt3 (t-1) h.length 0 aa 0 (.arow (CC (t-1)) []) none (Nat.le_refl _) (by simp) (by rw[←H.len];simp) (fun sh cs e=>by
         injection e with q1 q2
         subst q1;subst q2
         exact⟨by simp,fun _=>by simp [pE]⟩)
       exact q.evo g2
     | succ j=>exact g5 j x (by simpa using hx)
   | false=>
    have hrw:kB t (.sl0 sh::r) h=(.own h.length 0 0 0::(kB t r (h++[.row sh [] 0])).1,(kB t r (h++[.row sh [] 0])).2):=by
     show(bif WN t sh then _ else _)=_
     rw[hn];rfl
    rw[hrw];obtain⟨k1,k2⟩:=UK H sh;obtain⟨μ',g1,g2,g3,g4,g5⟩:=UP t r s k1 e3 (fun j x hx=>by
     obtain⟨q1,v,q2,q3⟩:=hr (j+1) x (by simpa using hx)
     exact⟨q1,v,by simpa using q2,q3.evo k2⟩)
    refine⟨μ',g1,k2.trans g2,?_,by simp [g4],fun j x hx=>?_⟩
    ·simpa using (mA.push (h:=h) (o:=.row sh [] 0) (by simp [Obj.top])).trans g3
    ·cases j with
     | zero=>
      simp at hx;subst hx;refine⟨rfl,b',rfl,?_⟩;cases a2 with
      | sl0 _ aa=>
       have q:RAV (imm (h++[.row sh [] 0]) (μ++[none]) w) (h++[.row sh [] 0]) (μ++[none]) (.own h.length 0 0 0) (.slice aa 0 0):=
        .own h.length 0 0 0 aa 0 sh [] 0 none (Nat.le_refl _) (by simp) (by rw[←H.len];simp) (Nat.zero_le _) (Nat.le_refl _) (fun _=>by simp [pE])
       exact q.evo g2
     | succ j=>exact g5 j x (by simpa using hx)
  ·obtain⟨μ',g1,g2,g3,g4,g5⟩:=UP t r s H e3 (fun j x hx=>by
    obtain⟨q1,v,q2,q3⟩:=hr (j+1) x (by simpa using hx)
    exact⟨q1,v,by simpa using q2,q3⟩)
   have hrw:kB t (a::r) h=(a::(kB t r h).1,(kB t r h).2):=by
    cases a <;> first|rfl|exact absurd ⟨_,rfl⟩ ha
   rw[hrw];refine⟨μ',g1,g2,g3,by simp [g4],fun j x hx=>?_⟩
   cases j with
   | zero=>
    simp at hx;subst hx;exact⟨a1,b',rfl,a2.evo g2⟩
   | succ j=>exact g5 j x (by simpa using hx)
theorem z7n {t:TypeId}(tn:Nat){v:AV}{x:Value}{cs:List AV}(H:HeapRel h μ w)(R:RAV (imm h μ w) h μ v x)(hc:v.cells=some cs) :
 kA P (do pure (.value (←Instr.box t x))) h μ w (.ref (kB tn cs h).2.length 0) ((kB tn cs h).2++[.box (kB tn cs h).1]) []:=by
 have hs:=tH R hc
 obtain⟨μ',g1,g2,g3,g4,g5⟩:=UP tn cs x.cells.toList H (by simpa using hs.1) (fun j y hy=>by
  obtain⟨q1,u,q2,q3⟩:=hs.2 j y hy;exact⟨q1,u,by simpa using q2,q3⟩)
 obtain⟨_,_,μ2,k1,k2,k3,k4,k5⟩:=VU (P:=P) g1 (s:=do pure (.value (←Instr.box t x))) (c:=x.cells) t (by rw[g4];exact hs.1) (fun j y hy=>by simpa using g5 j y hy) (by
  refine sA ?_;simp [Instr.box,newVar,jF])
 exact⟨_,_,μ2,k1,k2,k3,g2.trans k4,by simpa using g3.trans k5⟩
end Go.Am
end
section
/- The abstract machine,part 19: which operation stands for which (cM),and that it is sound. -/
set_option linter.unusedSimpArgs false
set_option linter.unusedVariables false
set_option maxHeartbeats 1000000
namespace Go.Am
variable {h h':aA} {μ μ':Mu} {w w':World} {P:Program} {M M':Mem}
def zdn (P:Program)(t:TypeId):Bool:=match P.underlying t with|some (.interface _)=>false|some _=>true|none=>false
def ID (b:Builtin)(o:Op):Option (List Operand×List TypeId):=match o with
 | .call c=>match c.callee with
  | .builtin b'=>if b=b' then some (c.args.toList,c.argTypes.toList) else none
  | _=>none
 | _=>none
def SR (P:Program)(k t:Nat)(xs:List Opd)(o:Op):Bool:=match k with
 | 12=>match o,xs with
  | .box _ y,[x]=>xA x y
  | _,_=>false
 | _=>false
def cM (P:Program)(a:AO)(o:Op):Bool:=match a with
 | .uns k t xs=>SR P k t xs o
 | .mv x=>match o with
  | .move y=>xA x y
  | .assign y=>xA x y
  | _=>false
 | .pick c x y=>match o with
  | .pick c' x' y'=>xA c c'&&xA x x'&&xA y y'
  | _=>false
 | .alloc z=>match o with
  | .alloc t=>KJ P z t
  | _=>false
 | .box x=>match o with
  | .box _ y=>xA x y
  | _=>false
 | .build z ps=>match o with
  | .build t qs=>JR P z ps t qs.toList
  | _=>false
 | .bsl _ sh n z ps=>match o with
  | .buildSlice t n' qs=>IR P sh n z ps t n' qs.toList
  | _=>false
 | .load sh x=>match o with
  | .load t y=>PA P t==some sh&&xA x y
  | _=>false
 | .store sh x v=>match o with
  | .store t y u=>PA P t==some sh&&xA x y&&xA v u
  | _=>false
 | .nilchk x=>match o with
  | .nilCheck y=>xA x y
  | _=>false
 | .bin op x y=>match o with
  | .binOp op' _ x' y' _=>decide (op=op')&&xA x x'&&xA y y'
  | _=>false
 | .eqa ks neg x y=>match o with
  | .binOp op' t x' y' _=>decide (op'=if neg then .neq else .eql)&&bM P t ks&&xA x x'&&xA y y'
  | _=>false
 | .isnil k neg x=>match o with
  | .binOp op' t x' y' _=>decide (op'=if neg then .neq else .eql)&&aE P k t y'&&xA x x'
  | _=>false
 | .mkif _=>match o with
  | .makeInterface t _=>zdn P t
  | _=>false
 | .un op x=>match o with
  | .unOp op' _ y=>decide (op=op')&&xA x y
  | _=>false
 | .conv c x=>match o with
  | .convert s d y=>uG P c s d&&xA x y
  | _=>false
 | .mkfn f caps=>match o with
  | .makeFunc fn first cs=>(match fn with | .func f'=>f==f'|_=>false)&&first.size==0&&dB caps cs.toList
  | _=>false
 | .mkmap=>match o with
  | .makeMap _ r=>r.isNone
  | _=>false
 | .mksl sh z l c=>match o with
  | .makeSlice t l' c'=>PR P sh z t&&xA l l'&&xA c c'
  | _=>false
 | .slice sh x lo hi mx=>match o with
  | .slice t x' lo' hi' mx'=>yG P t sh&&xA x x'&&LB lo lo'&&LB hi hi'&&LB mx mx'&&(mx.isNone||hi.isSome)
  | _=>false
 | .slstr x lo hi=>match o with
  | .slice t x' lo' hi' mx'=>vH P t&&xA x x'&&LB lo lo'&&LB hi hi'&&mx'.isNone
  | _=>false
 | .faddr off sh x=>match o with
  | .fieldAddr s y f=>vG P s f off sh&&xA x y
  | _=>false
 | .field off sh x=>match o with
  | .field s y f=>vG P s f off sh&&xA x y
  | _=>false
 | .iaddr sh x i=>match o with
  | .indexAddr t y j=>yG P t sh&&xA x y&&xA i j
  | _=>false
 | .iaddra n sh x i=>match o with
  | .indexAddr t y j=>tG P t n sh&&xA x y&&xA i j
  | _=>false
 | .idxa n sh x i=>match o with
  | .index t y j=>tG P t n sh&&xA x y&&xA i j
  | _=>false
 | .idxs x i=>match o with
  | .index t y j=>vH P t&&xA x y&&xA i j
  | _=>false
 | .ext x i=>match o with
  | .extract y j=>xA x y&&i==j
  | _=>false
 | .len x=>match ID .len o with
  | some ([y],t::_)=>QE P t==1&&xA x y
  | _=>false
 | .lens x=>match ID .len o with
  | some ([y],t::_)=>QE P t==2&&xA x y
  | _=>false
 | .lenm x=>match ID .len o with
  | some ([y],t::_)=>QE P t==3&&xA x y
  | _=>false
 | .app sh x y=>match ID .append o with
  | some ([x',y'],[t,u])=>OE P sh t u&&xA x x'&&xA y y'
  | _=>false
 | .copy sh x y=>match ID .copy o with
  | some ([x',y'],t::_)=>LR P sh t&&xA x x'&&xA y y'
  | _=>false
 | .clr sh z x=>match ID .clear o with
  | some ([x'],t::_)=>KR P sh z t&&xA x x'
  | _=>false
 | .look kk ok z x k=>match o with
  | .lookup t x' k' ok'=>uH P kk z t&&ok==ok'&&xA x x'&&xA k k'
  | _=>false
 | .mupd kk m k v=>match o with
  | .mapUpdate t m' k' v'=>xG P kk t&&xA m m'&&xA k k'&&xA v v'
  | .insert t m' k' v'=>xG P kk t&&xA m m'&&xA k k'&&xA v v'
  | _=>false
 | .ment kk z m k=>match o with
  | .mapEntry t m' k'=>uH P kk z t&&xA m m'&&xA k k'
  | _=>false
 | .estore m s v=>match o with
  | .entryStore _ m' s' v'=>xA m m'&&xA s s'&&xA v v'
  | _=>false
 | .mdel kk m k=>match ID .delete o with
  | some ([m',k'],t::_)=>xG P kk t&&xA m m'&&xA k k'
  | _=>false
 | .mrange x=>match o with
  | .range t y=>QR P t&&xA x y
  | _=>false
 | .mentry x=>match o with
  | .entry y=>xA x y
  | _=>false
 | .mx xs=>match ID .max o with
  | some (ys,_)=>dB xs ys
  | _=>false
 | .mn xs=>match ID .min o with
  | some (ys,_)=>dB xs ys
  | _=>false
 | .new0 _=>match o with
  | .move (.const (.slice none 0 0))=>true
  | .assign (.const (.slice none 0 0))=>true
  | _=>false
 | _=>false
theorem qE {b:Builtin}{o:Oper}{ys:List Operand}{ts:List TypeId}(hb:ID b o.op=some (ys,ts)){ρ:Operand→Value} :
 ∃cs,(execOp ρ o).run P w=(builtin b ts.toArray o.type cs (ys.map ρ).toArray).run P w:=by
 unfold ID at hb;split at hb
 ·rename_i c hc
  split at hb
  ·rename_i b' hcb
   split at hb
   ·rename_i hbb
    subst hbb;injection hb with hb
    injection hb with h1 h2
    subst h1;subst h2
    refine⟨(c.args.map fun | .const _=>true|_=>false),?_⟩
    unfold execOp;rw[hc];simp only[resolve,hcb,Sem.run_bind,Sem.run_pure,Result.andThen_ok,invoke];have e1:(List.map ρ c.args.toList).toArray=c.args.map ρ:=by rw[←Array.toList_map]
    rw[e1];rfl
   ·cases hb
  ·cases hb
 ·cases hb
theorem kA.congr {s s':Sem Next}{v:AV}{h1:aA}{e:Esc}(hr:s.run P w=s'.run P w)(H:kA P s' h μ w v h1 e):kA P s h μ w v h1 e:=by
 obtain⟨nx,w',μ',r,q⟩:=H;exact⟨nx,w',μ',hr.trans r,q⟩
theorem zkg {k t:Nat}{xs:List Opd}{o:Oper}(hc:SR P k t xs o.op=true){ev:Opd→AV}(hev:∀ v,ev (.c v)=v){ρ:Operand→Value}(hρ:∀ v,ρ (.const v)=v){v:AV}{h1:aA}{e:Esc}(H:HeapRel h μ w)(R:LC (imm h μ w) h μ ev ρ)
 (he:nF k t (xs.map ev) h=some (v,h1,e)):kA P (execOp ρ o) h μ w v h1 e:=by
 have E:∀{s:Sem Next},execOp ρ o=s→kA P s h μ w v h1 e→kA P (execOp ρ o) h μ w v h1 e:=fun hs H=>hs ▸ H
 unfold SR at hc;split at hc
 ·split at hc
  case h_2=>cases hc
  rename_i t' y x ho;simp only[nF,List.map_cons,List.map_nil]at he;split at he;case h_2=>cases he
  rename_i cs hv;simp only[Option.some.injEq,Prod.mk.injEq]at he;obtain⟨rfl,rfl,rfl⟩:=he;exact E (by unfold execOp;rw[ho]) (z7n _ H (R _ _ hc) hv)
 ·cases hc
theorem z2z {a:AO}{o:Oper}(hc:cM P a o.op=true){ev:Opd→AV}(hev:∀ v,ev (.c v)=v){ρ:Operand→Value}(hρ:∀ v,ρ (.const v)=v){v:AV}{h1:aA}{e:Esc}(H:HeapRel h μ w)(R:LC (imm h μ w) h μ ev ρ)
 (he:aop a ev h=some (v,h1,e)):kA P (execOp ρ o) h μ w v h1 e:=by
 have E:∀{s:Sem Next},execOp ρ o=s→kA P s h μ w v h1 e→kA P (execOp ρ o) h μ w v h1 e:=fun hs H=>hs ▸ H
 cases a <;> simp only[cM]at hc
 case mv x=>
  split at hc
  ·rename_i y ho;exact E (by unfold execOp;rw[ho]) (z2n H (R _ _ hc) he)
  ·rename_i y ho;exact E (by unfold execOp;rw[ho]) (z2n H (R _ _ hc) he)
  ·cases hc
 case uns k t xs=>exact zkg hc hev hρ H R he
 case pick c x y=>
  split at hc
  ·rename_i c' x' y' ho
   simp only[Bool.and_eq_true]at hc;exact E (by unfold execOp;rw[ho]) (zib H (R _ _ hc.1.1) (R _ _ hc.1.2) (R _ _ hc.2) he)
  ·cases hc
 case alloc z=>
  split at hc
  ·rename_i t ho
   simp only[aop,Option.some.injEq,Prod.mk.injEq]at he;obtain⟨rfl,rfl,rfl⟩:=he;exact E (by unfold execOp;rw[ho]) (z69 hc H)
  ·cases hc
 case box x=>
  split at hc
  ·rename_i t y ho
   simp only[aop]at he;split at he
   ·rename_i cs hcs
    simp only[Option.some.injEq,Prod.mk.injEq]at he;obtain⟨rfl,rfl,rfl⟩:=he;exact E (by unfold execOp;rw[ho]) (z7m H (R _ _ hc) hcs)
   ·cases he
  ·cases hc
 case build z ps=>
  split at hc
  ·rename_i t qs ho
   simp only[aop,Option.map_eq_some_iff,Prod.mk.injEq]at he;obtain⟨cs,hcs,rfl,rfl,rfl⟩:=he;exact E (by unfold execOp;rw[ho]) (z7p hc H R hcs)
  ·cases hc
 case bsl own sh n z ps=>
  split at hc
  ·rename_i t n' qs ho
   exact E (by unfold execOp;rw[ho]) (z7o hc H R he)
  ·cases hc
 case load sh x=>
  split at hc
  ·rename_i t y ho
   simp only[Bool.and_eq_true,beq_iff_eq]at hc;exact E (by unfold execOp;rw[ho]) (ze1 hc.1 H (R _ _ hc.2) ev x rfl he)
  ·cases hc
 case store sh x u=>
  split at hc
  ·rename_i t y z ho
   simp only[Bool.and_eq_true,beq_iff_eq]at hc;exact E (by unfold execOp;rw[ho]) (zj9 hc.1.1 H ev x u (R _ _ hc.1.2) (R _ _ hc.2) he)
  ·cases hc
 case nilchk x=>
  split at hc
  ·rename_i y ho;exact zeR H (R _ _ hc) he rfl ho
  ·cases hc
 case bin op x y=>
  split at hc
  ·rename_i op' t x' y' u ho
   simp only[Bool.and_eq_true,decide_eq_true_eq]at hc;obtain⟨⟨rfl,c2⟩,c3⟩:=hc;exact E (by unfold execOp;rw[ho]) (z7c H (R _ _ c2) (R _ _ c3) he)
  ·cases hc
 case eqa ks neg x y=>
  split at hc
  ·rename_i op' t x' y' u ho
   simp only[Bool.and_eq_true,decide_eq_true_eq]at hc;obtain⟨⟨⟨c1,c2⟩,c3⟩,c4⟩:=hc;exact E (by unfold execOp;rw[ho]) (zci c1 c2 H (R _ _ c3) (R _ _ c4) he)
  ·cases hc
 case isnil k neg x=>
  split at hc
  ·rename_i op' t x' y' u ho
   simp only[Bool.and_eq_true,decide_eq_true_eq]at hc;obtain⟨⟨c1,c2⟩,c3⟩:=hc;have hy:∃z,y' = .const z:=by
    unfold aE at c2;split at c2 <;> first|exact⟨_,rfl⟩|cases c2
   obtain⟨z,rfl⟩:=hy;have:=zdw (P:=P) (a:=x') c1 c2 H (R _ _ c3) he;refine E (by unfold execOp;rw[ho]) ?_
   simp only[hρ];exact this
  ·cases hc
 case mkif x=>
  split at hc
  ·rename_i t y ho;exact E (by unfold execOp;rw[ho]) (zeA hc H he)
  ·cases hc
 case un op x=>
  split at hc
  ·rename_i op' t y ho
   simp only[Bool.and_eq_true,decide_eq_true_eq]at hc;obtain⟨rfl,c2⟩:=hc;exact E (by unfold execOp;rw[ho]) (un_ok H (R _ _ c2) he)
  ·cases hc
 case conv c x=>
  split at hc
  ·rename_i s d y ho
   simp only[Bool.and_eq_true]at hc;exact E (by unfold execOp;rw[ho]) (z8P hc.1 H (R _ _ hc.2) he)
  ·cases hc
 case mkfn f caps=>
  split at hc
  ·rename_i fn first cs ho
   simp only[Bool.and_eq_true,beq_iff_eq]at hc;obtain⟨⟨c1,c2⟩,c3⟩:=hc;split at c1
   ·simp only[beq_iff_eq]at c1
    subst c1;exact E (by unfold execOp;rw[ho]) (ze9 c3 (Array.eq_empty_of_size_eq_zero c2) H R he)
   ·cases c1
  ·cases hc
 case mkmap=>
  split at hc
  ·rename_i t r ho
   rw[Option.isNone_iff_eq_none]at hc;subst hc;exact E (s:=do pure (.value (←Instr.makeMap t none))) (by unfold execOp;rw[ho];rfl) (zeB rfl H he)
  ·cases hc
 case mksl sh z l c=>
  split at hc
  ·rename_i t l' c' ho
   simp only[Bool.and_eq_true]at hc;exact E (by unfold execOp;rw[ho]) (zeC hc.1.1 H (R _ _ hc.1.2) (R _ _ hc.2) he)
  ·cases hc
 case slice sh x lo hi mx=>
  split at hc
  ·rename_i t x' lo' hi' mx' ho
   simp only[Bool.and_eq_true,Bool.or_eq_true]at hc;obtain⟨⟨⟨⟨⟨c1,c2⟩,c3⟩,c4⟩,c5⟩,c6⟩:=hc;refine E (by unfold execOp;rw[ho]) (zjq c1 H R c2 c3 c4 c5 (fun hm=>?_) he)
   rcases c6 with c6|c6
   ·cases mx <;> simp_all
   ·exact c6
  ·cases hc
 case slstr x lo hi=>
  split at hc
  ·rename_i t x' lo' hi' mx' ho
   simp only[Bool.and_eq_true]at hc;obtain⟨⟨⟨⟨c1,c2⟩,c3⟩,c4⟩,c5⟩:=hc;rw[Option.isNone_iff_eq_none]at c5;subst c5;exact E (s:=do pure (.value (←Instr.sliceAt t (ρ x') (lo'.map ρ) (hi'.map ρ) none))) (by unfold execOp;rw[ho];rfl) (zjr c1 H R c2 c3 c4 he)
  ·cases hc
 case faddr off sh x=>
  split at hc
  ·rename_i s y f ho
   simp only[Bool.and_eq_true]at hc;exact E (by unfold execOp;rw[ho]) (zc6 hc.1 H ev x (R _ _ hc.2) he)
  ·cases hc
 case field off sh x=>
  split at hc
  ·rename_i s y f ho
   simp only[Bool.and_eq_true]at hc;exact E (by unfold execOp;rw[ho]) (zcB hc.1 H ev x (R _ _ hc.2) he)
  ·cases hc
 case iaddr sh x i=>
  split at hc
  ·rename_i t y j ho
   simp only[Bool.and_eq_true]at hc;exact E (by unfold execOp;rw[ho]) (zdd hc.1.1 H ev x i (R _ _ hc.1.2) (R _ _ hc.2) he)
  ·cases hc
 case iaddra n sh x i=>
  split at hc
  ·rename_i t y j ho
   simp only[Bool.and_eq_true]at hc;exact E (by unfold execOp;rw[ho]) (zdg hc.1.1 H ev x i (R _ _ hc.1.2) (R _ _ hc.2) he)
  ·cases hc
 case idxa n sh x i=>
  split at hc
  ·rename_i t y j ho
   simp only[Bool.and_eq_true]at hc;exact E (by unfold execOp;rw[ho]) (zdk hc.1.1 H ev x i (R _ _ hc.1.2) (R _ _ hc.2) he)
  ·cases hc
 case idxs x i=>
  split at hc
  ·rename_i t y j ho
   simp only[Bool.and_eq_true]at hc;exact E (by unfold execOp;rw[ho]) (zdl hc.1.1 H ev x i (R _ _ hc.1.2) (R _ _ hc.2) he)
  ·cases hc
 case ext x i=>
  split at hc
  ·rename_i y j ho
   simp only[Bool.and_eq_true,beq_iff_eq]at hc;obtain⟨c1,rfl⟩:=hc;exact E (by unfold execOp;rw[ho]) (zcp H (R _ _ c1) he)
  ·cases hc
 case len x=>
  split at hc
  ·rename_i y t ts hb
   simp only[Bool.and_eq_true,beq_iff_eq]at hc;obtain⟨cs,hr⟩:=qE (P:=P) (w:=w) hb (ρ:=ρ);exact kA.congr hr (zeq hc.1 H (R _ _ hc.2) he)
  ·cases hc
 case lens x=>
  split at hc
  ·rename_i y t ts hb
   simp only[Bool.and_eq_true,beq_iff_eq]at hc;obtain⟨cs,hr⟩:=qE (P:=P) (w:=w) hb (ρ:=ρ);exact kA.congr hr (zeu hc.1 H (R _ _ hc.2) he)
  ·cases hc
 case lenm x=>
  split at hc
  ·rename_i y t ts hb
   simp only[Bool.and_eq_true,beq_iff_eq]at hc;obtain⟨cs,hr⟩:=qE (P:=P) (w:=w) hb (ρ:=ρ);exact kA.congr hr (zet hc.1 H (R _ _ hc.2) he)
  ·cases hc
 case app sh x y=>
  split at hc
  ·rename_i x' y' t u hb
   simp only[Bool.and_eq_true]at hc;obtain⟨cs,hr⟩:=qE (P:=P) (w:=w) hb (ρ:=ρ);exact kA.congr hr (z6G hc.1.1 H (R _ _ hc.1.2) (R _ _ hc.2) he)
  ·cases hc
 case copy sh x y=>
  split at hc
  ·rename_i x' y' t ts hb
   simp only[Bool.and_eq_true]at hc;obtain⟨cs,hr⟩:=qE (P:=P) (w:=w) hb (ρ:=ρ);exact kA.congr hr (z8Q hc.1.1 H (R _ _ hc.1.2) (R _ _ hc.2) he)
  ·cases hc
 case clr sh z x=>
  split at hc
  ·rename_i x' t ts hb
   simp only[Bool.and_eq_true]at hc;obtain⟨cs,hr⟩:=qE (P:=P) (w:=w) hb (ρ:=ρ);exact kA.congr hr (z8D hc.1 H (R _ _ hc.2) he)
  ·cases hc
 case look kk ok z x k=>
  split at hc
  ·rename_i t x' k' ok' ho
   simp only[Bool.and_eq_true,beq_iff_eq]at hc;obtain⟨⟨⟨c1,rfl⟩,c3⟩,c4⟩:=hc;exact E (by unfold execOp;rw[ho]) (ze3 c1 H (R _ _ c3) (R _ _ c4) he)
  ·cases hc
 case mupd kk m k u=>
  split at hc
  ·rename_i t m' k' v' ho
   simp only[Bool.and_eq_true]at hc;obtain⟨⟨⟨c1,c2⟩,c3⟩,c4⟩:=hc;exact E (by unfold execOp;rw[ho]) (z2m c1 H (R _ _ c2) (R _ _ c3) (R _ _ c4) he)
  ·rename_i t m' k' v' ho
   simp only[Bool.and_eq_true]at hc;obtain⟨⟨⟨c1,c2⟩,c3⟩,c4⟩:=hc;exact E (by unfold execOp;rw[ho]) (z2m c1 H (R _ _ c2) (R _ _ c3) (R _ _ c4) he)
  ·cases hc
 case ment kk z m k=>
  split at hc
  ·rename_i t m' k' ho
   simp only[Bool.and_eq_true]at hc;exact E (by unfold execOp;rw[ho]) (ze6 hc.1.1 H (R _ _ hc.1.2) (R _ _ hc.2) he)
  ·cases hc
 case estore m s u=>
  split at hc
  ·rename_i t m' s' v' ho
   simp only[Bool.and_eq_true]at hc;exact E (by unfold execOp;rw[ho]) (zcm H (R _ _ hc.1.1) (R _ _ hc.1.2) (R _ _ hc.2) he)
  ·cases hc
 case mdel kk m k=>
  split at hc
  ·rename_i m' k' t ts hb
   simp only[Bool.and_eq_true]at hc;obtain⟨cs,hr⟩:=qE (P:=P) (w:=w) hb (ρ:=ρ);exact kA.congr hr (ze5 hc.1.1 H (R _ _ hc.1.2) (R _ _ hc.2) he)
  ·cases hc
 case mrange x=>
  split at hc
  ·rename_i t y ho
   simp only[Bool.and_eq_true]at hc;exact E (by unfold execOp;rw[ho]) (zeE hc.1 H (R _ _ hc.2) he)
  ·cases hc
 case mentry x=>
  split at hc
  ·rename_i y ho
   exact E (by unfold execOp;rw[ho]) (ze7 H (R _ _ hc) he)
  ·cases hc
 case mx xs=>
  split at hc
  ·rename_i ys ts hb
   obtain⟨cs,hr⟩:=qE (P:=P) (w:=w) hb (ρ:=ρ);refine kA.congr hr ?_;have:=mx_ok (P:=P) (cs:=ys.toArray) (ts:=ts.toArray) (ty:=o.type) hc H R he;have h2:Array.map ρ ys.toArray=(List.map ρ ys).toArray:=by simp
   rw[h2]at this;exact this
  ·cases hc
 case mn xs=>
  split at hc
  ·rename_i ys ts hb
   obtain⟨cs,hr⟩:=qE (P:=P) (w:=w) hb (ρ:=ρ);refine kA.congr hr ?_;have:=mn_ok (P:=P) (cs:=ys.toArray) (ts:=ts.toArray) (ty:=o.type) hc H R he;have h2:Array.map ρ ys.toArray=(List.map ρ ys).toArray:=by simp
   rw[h2]at this;exact this
  ·cases hc
 case new0 sh=>
  split at hc
  ·rename_i ho
   refine E (s:=pure (.value (.slice none 0 0))) (by unfold execOp;rw[ho];simp only[hρ]) (z2s H he)
  ·rename_i ho
   refine E (s:=pure (.value (.slice none 0 0))) (by unfold execOp;rw[ho];simp only[hρ]) (z2s H he)
  ·cases hc
 all_goals cases hc
end Go.Am
end
section
/- The abstract machine,part 20: regions in their own order. -/
set_option linter.unusedSimpArgs false
set_option linter.unusedVariables false
set_option maxHeartbeats 1000000
namespace Go.Am
variable {h h':aA} {μ μ':Mu} {w w':World} {P:Program} {M M':Mem}
def fD (gl:Nat→Option PV)(M:Mem):Prop:=∀n v,gl n=some v→RAV M [] [] (.vp v) (.pointer (some ⟨n,0,none⟩))∧∃cs t x,M.b n=some (.cells cs t x)∧cs.size=v.cells.length
theorem RAV.vp_any {v:PV}{x:Value}{h':aA}{μ':Mu}(H:RAV M h μ (.vp v) x):RAV M h' μ' (.vp v) x:=by
 cases H with|vp _ b o f hm hr=>exact .vp v b o f hm hr
theorem fD.mono {gl:Nat→Option PV}(hM:M.le M')(H:fD gl M):fD gl M':=fun n v hv=>by
 obtain⟨h1,cs,t,x,h2,h3⟩:=H n v hv;refine⟨?_,cs,t,x,hM.b _ _ h2,h3⟩;cases h1 with|vp _ _ _ f hm hr=>exact .vp v n 0 f (fun j y hy=>hM.c _ _ _ (hm j y hy)) (fun j y hy=>(hr j y hy).mono hM)
structure Rel (gl:Nat→Option PV) (nt:Nat) (M0:Mem) (h0:aA) (μ0:Mu) (e:List (Nat × AV)) (h:aA) (x:Esc) (a:Act) (w:World) (μ:Mu):Prop where
 heap:HeapRel h μ w
 env:∀t,RAV (imm h μ w) h μ (bA e t) (a.tmps.getD t undef)
 glob:fD gl (imm h μ w)
 evo:Evo M0 h0 μ0 (imm h μ w) h μ
 esc:mA h0 h x
 size:nt≤a.tmps.size
 defers:a.defers=[]
variable {gl:Nat→Option PV} {nt:Nat} {M0:Mem} {h0:aA} {μ0:Mu} {e:List (Nat × AV)} {x:Esc} {a:Act}
theorem Rel.opds (H:Rel gl nt M0 h0 μ0 e h x a w μ):LC (imm h μ w) h μ (Opd.ev gl e) a.eval:=by
 intro p q hpq;unfold xA at hpq;split at hpq
 ·simp only[beq_iff_eq]at hpq
  subst hpq;exact H.env _
 ·exact AG hpq
 ·simp only[beq_iff_eq]at hpq
  subst hpq;exact .fn _ [] [] rfl (fun j y v h1 h2=>by simp at h1)
 ·simp only[beq_iff_eq]at hpq
  subst hpq;simp only[Opd.ev];split
  ·rename_i v hv;exact(H.glob _ v hv).1.vp_any
  ·exact .und _
 ·cases hpq
theorem pH {d:Option Nat}{v:AV}{t:Nat}:bA (put d v e) t=if d=some t then v else bA e t:=by
 cases d with
 | none=>simp [put]
 | some d=>simp [put,bA]
theorem zip {d:Option Nat}{u:Value}{t:Nat}(hd:∀ i,d=some i→i<a.tmps.size):(a.put d u).tmps.getD t undef=if d=some t then u else a.tmps.getD t undef:=by
 cases d with
 | none=>simp [Act.put]
 | some d=>
  have:=hd d rfl;by_cases h:d=t
  ·subst h;simp [Act.put,this]
  ·simp [Act.put,h,Array.getElem?_setIfInBounds]
theorem ziq {d:Option Nat}{u:Value}:(a.put d u).tmps.size=a.tmps.size:=by
 cases d <;> simp [Act.put]
theorem zio {d:Option Nat}{u:Value}:(a.put d u).defers=a.defers:=by
 cases d <;> rfl
theorem Rel.step (H:Rel gl nt M0 h0 μ0 e h x a w μ){d:Option Nat}(hd:∀ i,d=some i→i<nt){v:AV}{u:Value}{h':aA}{x':Esc}{w':World}{μ':Mu}(H':HeapRel h' μ' w')(E:Evo (imm h μ w) h μ (imm h' μ' w') h' μ')(I:mA h h' x')
 (hv:RAV (imm h' μ' w') h' μ' v u):Rel gl nt M0 h0 μ0 (put d v e) h' (x'++x) (a.put d u) w' μ':=by
 have hd':∀i,d=some i→i<a.tmps.size:=fun i hi=>Nat.lt_of_lt_of_le (hd i hi) H.size
 refine⟨H',fun t=>?_,H.glob.mono E.le,H.evo.trans E,mA.trans H.esc I,by rw[ziq];exact H.size,by rw[zio];exact H.defers⟩
 rw[pH,zip hd'];split
 ·exact hv
 ·exact(H.env t).evo E
theorem Rel.skip (H:Rel gl nt M0 h0 μ0 e h x a w μ){d:Option Nat}(hd:∀ i,d=some i→i<nt):Rel gl nt M0 h0 μ0 (put d .skp e) h x (a.put d undef) w μ:=by
 have:=H.step hd H.heap (Evo.refl _ _ _) (mA.refl h []) (.skp);simpa using this
def EB (P:Program)(gl:Nat→Option PV):Hd:=fun f asv h K=>
 ∀(μ:Mu) (w:World) (vs:List Value),HeapRel h μ w→fD gl (imm h μ w)→asv.length=vs.length→(∀(j:Nat) (y:AV) (v:Value),asv[j]?=some y→vs[j]?=some v→RAV (imm h μ w) h μ y v) →
  ((∀w,(callFunc f vs.toArray).run P w = .ok (.enter f vs.toArray) w) ∧
  Calls P f vs.toArray w fun
   | .returned r,w'=>∃v h' x μ',K v h' x∧RAV (imm h' μ' w') h' μ' v r∧HeapRel h' μ' w'∧Evo (imm h μ w) h μ (imm h' μ' w') h' μ'∧mA h h' x
   | _,_=>False) ∨
  ∃r w' v h' x μ',(callFunc f vs.toArray).run P w = .ok (.value r) w'∧K v h' x∧RAV (imm h' μ' w') h' μ' v r∧HeapRel h' μ' w'∧Evo (imm h μ w) h μ (imm h' μ' w') h' μ'∧mA h h' x
theorem EB.mono (P:Program)(gl:Nat→Option PV):(EB P gl).Mono:=by
 intro f asv h K K' hK H μ w vs h1 h2 h3 h4;rcases H μ w vs h1 h2 h3 h4 with⟨q1,q2⟩|⟨r,w',v,h',x,μ',q1,k,rest⟩
 case inr=>exact .inr ⟨r,w',v,h',x,μ',q1,hK _ _ _ k,rest⟩
 refine .inl ⟨q1,q2.mono fun e w' he=>?_⟩
 cases e with
 | returned r=>obtain⟨v,h',x,μ',k,rest⟩:=he;exact⟨v,h',x,μ',hK _ _ _ k,rest⟩
 | panicked _=>exact he
 | outgrown=>exact he
def NR (ops:Array Oper)(nt:Nat):Option (Nat×Bool)→Option (Nat×Bool)→Bool
 | none,none=>true
 | some (t,b),some (j,b')=>b==b'&&decide (t<nt)&&(match ops[j]? with|some o=>o.dst==some t|none=>false)
 | _,_=>false
def vF (P:Program)(nt:Nat)(ops:Array Oper)(o:AOp)(p:Oper):Bool:=
 o.dst==p.dst&&(match o.dst with|some d=>decide (d<nt)|none=>true)&&NR ops nt o.guard p.guard&&match o.op with
  | .call f args=>match sH p.op with
   | some (g,ys)=>xA (.f f) g&&dB args ys
   | none=>false
  | .callv f args=>match sH p.op with
   | some (g,ys)=>xA f g&&dB args ys
   | none=>false
  | .mnext none xs=>match p.op with
   | .next y isS=>!isS&&dB xs [y]
   | _=>false
  | .mnext (some sh) xs=>match ID .append p.op with
   | some ([x',y'],[t,u])=>OE P sh t u&&dB xs [x',y']
   | _=>false
  | op=>cM P op p.op
def RE (P:Program)(nt:Nat)(ops:Array Oper):List AOp→Nat→Bool
 | [],i=>i==ops.size
 | o::r,i=>match ops[i]? with
  | some p=>vF P nt ops o p&&RE P nt ops r (i+1)
  | none=>false
theorem jQ (H:Rel gl nt M0 h0 μ0 e h x a w μ){ops:Array Oper}{g:Option (Nat × Bool)}{p:Oper}(hc:NR ops nt g p.guard=true){b:Bool}(hw:wanted g e=some b):Region.wanted p (yielded ops a.tmps)=b:=by
 unfold Region.wanted;unfold NR at hc;split at hc
 ·rename_i hg
  rw[hg];simp only[wanted,Option.some.injEq]at hw;exact hw
 ·rename_i t b1 j b2 hg
  rw[hg];simp only[Bool.and_eq_true,beq_iff_eq,decide_eq_true_eq]at hc;obtain⟨⟨rfl,ht⟩,hj⟩:=hc;split at hj
  ·rename_i o ho
   simp only[beq_iff_eq]at hj;have hsz:t<a.tmps.size:=Nat.lt_of_lt_of_le ht H.size
   have hR:=H.env t
   have hget:a.tmps[t]?=some (a.tmps.getD t undef):=by simp [Array.getElem?_eq_getElem hsz,Array.getD,hsz]
   simp only[yielded,ho,Option.bind_some,hj,hget];unfold wanted at hw;dsimp only at hw;split at hw
   ·rename_i c hv
    rw[hv]at hR;rw[hR.p_bool];have hw':=Option.some.inj hw
    rw[←hw'];cases c <;> cases b1 <;> rfl
   ·rename_i hv
    rw[hv]at hR;generalize a.tmps.getD t undef=z at hR;injection hw with hw
    subst hw;cases hR;cases b1 <;> rfl
   ·cases hw
  ·cases hj
 ·cases hc
theorem EE {C:Hd}(hC:∀ f a h K,C f a h K→EB P gl f a h K){ops:Array Oper}{Q:Exit→Act→World→Prop} :
 ∀(aops:List AOp) (i:Nat) {e:List (Nat×AV)} {h:aA} {x:Esc} {K:List (Nat×AV)→aA→Esc→Prop} {a:Act} {w:World} {μ:Mu},RE P nt ops aops i=true→GA C gl aops e h x K→Rel gl nt M0 h0 μ0 e h x a w μ →
  (∀e h x a w μ,K e h x→Rel gl nt M0 h0 μ0 e h x a w μ→Q .normal a w)→wpOps P ops Q (List.range' i (ops.size-i)) a w
 | [],i,e,h,x,K,a,w,μ,hc,H,R,hK=>by
  simp only[RE,beq_iff_eq]at hc;subst hc;simp only[Nat.sub_self,List.range'_zero,wpOps];exact hK _ _ _ _ _ _ H R
 | o::r,i,e,h,x,K,a,w,μ,hc,H,R,hK=>by
  simp only[RE]at hc;split at hc
  ·rename_i p hp
   have hi:i<ops.size:=by
    rcases Nat.lt_or_ge i ops.size with q|q
    ·exact q
    ·rw[Array.getElem?_eq_none q]at hp;cases hp
   simp only[Bool.and_eq_true]at hc;obtain⟨c1,c2⟩:=hc;have hr:List.range' i (ops.size-i)=i::List.range' (i+1) (ops.size-(i+1)):=by
    rw[show ops.size-i=(ops.size-(i+1))+1 by omega,List.range'_succ]
   rw[hr];simp only[wpOps,hp];obtain⟨dst,guard,op⟩:=o;unfold vF at c1;simp only[Bool.and_eq_true,beq_iff_eq]at c1;obtain⟨⟨⟨d1,d2⟩,d3⟩,d4⟩:=c1;have hd:∀j,dst=some j→j<nt:=fun j hj=>by subst hj;simpa using d2
   subst d1;unfold GA at H;dsimp only at H;split at H
   ·rename_i hw
    rw[if_pos (jQ R d3 hw)];left;have call:∀(f:Nat) (asv:List AV) (g:Operand) (ys:List Operand) (caps:List AV) (cvs:List Value),sH p.op=some (g,ys)→a.eval g = .func (.func f) #[] cvs.toArray→caps.length=cvs.length →
     (∀(j:Nat) (y:AV) (v:Value),caps[j]?=some y→cvs[j]?=some v→RAV (imm h μ w) h μ y v)→asv.length=ys.length →
     (∀(j:Nat) (y:AV) (v:Value),asv[j]?=some y→(ys.map a.eval)[j]?=some v→RAV (imm h μ w) h μ y v) →
     C f (asv++caps) h (fun v h' x'=>GA C gl r (put p.dst v e) h' (x'++x) K)→p.wp P a w (wpOps P ops Q (List.range' (i+1) (ops.size-(i+1)))) Q:=by
     intro f asv g ys caps cvs hcall hg hcl hcr hal har HC;have hco:=hC _ _ _ _ HC μ w (ys.map a.eval++cvs) R.heap R.glob (by simp [hal,hcl]) (fun j y v hy hv=>by
      rcases Nat.lt_or_ge j asv.length with q|q
      ·rw[List.getElem?_append_left q]at hy
       rw[List.getElem?_append_left (by simpa [←hal] using q)]at hv
       exact har j y v hy hv
      ·rw[List.getElem?_append_right q]at hy
       rw[List.getElem?_append_right (by simpa [←hal] using q)]at hv
       exact hcr _ y v hy (by simpa [←hal] using hv))
     unfold Oper.wp;have harr:(ys.map a.eval++cvs).toArray=(ys.map a.eval).toArray++cvs.toArray:=by simp
     rcases hco with⟨q1,q2⟩|⟨u,w',v,h',x',μ',q1,k1,k2,k3,k4,k5⟩
     case inr=>
      rw[WP hcall hg,←harr,q1,Oper.upon_value];exact EE hC r (i+1) c2 k1 (R.step hd k3 k4 k5 k2) hK
     rw[WP hcall hg,←harr,q1 w];rw[Oper.upon_enter];refine q2.mono fun en w' he=>?_
     cases en with
     | returned u=>
      obtain⟨v,h',x',μ',k1,k2,k3,k4,k5⟩:=he;exact EE hC r (i+1) c2 k1 (R.step hd k3 k4 k5 k2) hK
     | panicked _=>exact he.elim
     | outgrown=>exact he.elim
    cases op;case call f args=>
     dsimp only at H d4;split at d4
     ·rename_i g ys hcall
      simp only[Bool.and_eq_true]at d4;have hg:=R.opds _ _ d4.1
      have hgv:a.eval g = .func (.func f) #[] #[]:=by
       simp only[Opd.ev]at hg;generalize a.eval g=z at hg;cases hg with
       | fn _ _ vs hl hr=>
        have:vs=[]:=List.length_eq_zero_iff.1 (by simpa using hl.symm)
        subst this;rfl
      exact call f _ g ys [] [] hcall hgv rfl (fun j y v h1 h2=>by simp at h1) (by simp [WF d4.2]) (XF R.opds d4.2) (by simpa using H)
     ·cases d4
    case callv f args=>
     dsimp only at H d4;split at d4
     ·rename_i g ys hcall
      simp only[Bool.and_eq_true]at d4;split at H
      ·rename_i fn caps hf
       have hg:=R.opds _ _ d4.1
       rw[hf]at hg;generalize hz:a.eval g=z at hg;cases hg with
       | fn _ _ vs hl hr=>exact call fn _ g ys caps vs hcall hz hl hr (by simp [WF d4.2]) (XF R.opds d4.2) H
      ·exact H.elim
     ·cases d4
    case mnext osh xs=>
     cases osh with
     | some sh=>
      dsimp only at H d4;split at d4
      ·rename_i x' y' t u hb
       simp only[Bool.and_eq_true]at d4;obtain⟨d5,d6⟩:=d4;obtain⟨q1,q2,rfl,d7,d8⟩:=zfb d6;split at H
       ·rename_i l hl
        obtain⟨z,hz,hok⟩:=z6I (ty:=p.type) d5 R.heap (R.opds _ _ d7) (R.opds _ _ d8) hl;obtain⟨cs,hr⟩:=qE (P:=P) (w:=w) hb (ρ:=a.eval);obtain⟨nx,w',μ',r1,r2,r3,r4,r5⟩:=kA.congr hr hok;unfold Oper.wp;rw[r1];rcases r2 with⟨u,rfl,hu⟩|⟨rfl,hv⟩
        ·rw[Oper.upon_value]
         exact EE hC r (i+1) c2 (H.2 z hz) (R.step hd r3 r4 r5 hu) hK
        ·rw[Oper.upon_skip]
         exact EE hC r (i+1) c2 (H.2 z hz) (R.step hd r3 r4 r5 (by rw[hv];exact .und undef)) hK
       ·exact H.elim
      ·cases d4
     | none=>
     dsimp only at H d4;split at d4
     ·rename_i y isS hop
      simp only[Bool.and_eq_true,Bool.not_eq_true']at d4;obtain⟨rfl,d5⟩:=d4;obtain⟨q1,rfl,d6⟩:=zfa d5;split at H
      ·rename_i l hl
       obtain⟨z,hz,nx,w',μ',r1,r2,r3,r4,r5⟩:=zeD (ty:=p.type) R.heap (R.opds _ _ d6) hl;unfold Oper.wp;have e1:execOp a.eval p=(do pure (.value (←Instr.next (a.eval y) false p.type)):Sem Next):=by unfold execOp;rw[hop]
       rw[e1,r1];rcases r2 with⟨u,rfl,hu⟩|⟨rfl,hv⟩
       ·rw[Oper.upon_value]
        exact EE hC r (i+1) c2 (H.2 z hz) (R.step hd r3 r4 r5 hu) hK
       ·rw[Oper.upon_skip]
        exact EE hC r (i+1) c2 (H.2 z hz) (R.step hd r3 r4 r5 (by rw[hv];exact .und undef)) hK
      ·exact H.elim
     ·cases d4
    all_goals
     dsimp only at H d4;split at H
     ·rename_i v h' x' ha
      obtain⟨nx,w',μ',r1,r2,r3,r4,r5⟩:=z2z (o:=p) d4 (fun _=>rfl) (fun _=>rfl) R.heap R.opds ha
      unfold Oper.wp;rw[r1];rcases r2 with⟨u,rfl,hu⟩|⟨rfl,rfl⟩
      ·rw[Oper.upon_value]
       exact EE hC r (i+1) c2 H (R.step hd r3 r4 r5 hu) hK
      ·rw[Oper.upon_skip]
       exact EE hC r (i+1) c2 H (R.step hd r3 r4 r5 (.und _)) hK
     ·exact H.elim
   ·rename_i hw
    rw[if_neg (by rw[jQ R d3 hw];simp)]
    exact EE hC r (i+1) c2 H (R.skip hd) hK
   ·exact H.elim
  ·cases hc
end Go.Am
end
section
/- The abstract machine,part D: regions whose order is left open. -/
set_option linter.unusedSimpArgs false
set_option linter.unusedVariables false
set_option maxHeartbeats 1000000
namespace Go.Am
variable {h h':aA} {μ μ':Mu} {w w':World} {P:Program} {M M':Mem}
variable {gl:Nat→Option PV} {nt:Nat} {M0:Mem} {h0:aA} {μ0:Mu} {e:List (Nat × AV)} {x:Esc} {a:Act}
theorem AZ {C:Hd}(hC:∀ f a h K,C f a h K→EB P gl f a h K){ops:Array Oper}{Q:Exit→Act→World→Prop}{o:AOp}{p:Oper}{i:Nat}(hp:ops[i]?=some p)(hc:vF P nt ops o p=true)
 {g g':aA} {v:AV} {y:Esc} (R:Rel gl nt M0 h0 μ0 e g x a w μ) (H:ADo C gl o e g v g' y) {K:Act→World→Prop}
 (hK:∀a' w' μ' u,a'=a.put p.dst u→HeapRel g' μ' w'→Evo (imm g μ w) g μ (imm g' μ' w') g' μ'→mA g g' y→RAV (imm g' μ' w') g' μ' v u→K a' w'):wpOp P ops Q i K a w:=by
 unfold wpOp;rw[hp];dsimp only;obtain⟨dst,guard,op⟩:=o;unfold vF at hc;simp only[Bool.and_eq_true,beq_iff_eq]at hc;obtain⟨⟨⟨d1,d2⟩,d3⟩,d4⟩:=hc;subst d1;unfold ADo at H;dsimp only at H;split at H
 ·rename_i hw
  rw[if_pos (jQ R d3 hw)];left;have call:∀(f:Nat) (asv:List AV) (gg:Operand) (ys:List Operand) (caps:List AV) (cvs:List Value),sH p.op=some (gg,ys)→a.eval gg = .func (.func f) #[] cvs.toArray→caps.length=cvs.length →
   (∀(j:Nat) (y:AV) (v:Value),caps[j]?=some y→cvs[j]?=some v→RAV (imm g μ w) g μ y v)→asv.length=ys.length →
   (∀(j:Nat) (y:AV) (v:Value),asv[j]?=some y→(ys.map a.eval)[j]?=some v→RAV (imm g μ w) g μ y v) →
   C f (asv++caps) g (fun v1 h1 x1=>v1=v∧h1=g'∧x1=y)→p.wp P a w K Q:=by
   intro f asv gg ys caps cvs hcall hg hcl hcr hal har HC;have hco:=hC _ _ _ _ HC μ w (ys.map a.eval++cvs) R.heap R.glob (by simp [hal,hcl]) (fun j y v hy hv=>by
    rcases Nat.lt_or_ge j asv.length with q|q
    ·rw[List.getElem?_append_left q]at hy
     rw[List.getElem?_append_left (by simpa [←hal] using q)]at hv
     exact har j y v hy hv
    ·rw[List.getElem?_append_right q]at hy
     rw[List.getElem?_append_right (by simpa [←hal] using q)]at hv
     exact hcr _ y v hy (by simpa [←hal] using hv))
   unfold Oper.wp;have harr:(ys.map a.eval++cvs).toArray=(ys.map a.eval).toArray++cvs.toArray:=by simp
   rcases hco with⟨q1,q2⟩|⟨u,w',v1,h1,x1,μ',q1,⟨rfl,rfl,rfl⟩,k2,k3,k4,k5⟩
   case inr=>
    rw[WP hcall hg,←harr,q1,Oper.upon_value];exact hK _ _ μ' u rfl k3 k4 k5 k2
   rw[WP hcall hg,←harr,q1 w];rw[Oper.upon_enter];refine q2.mono fun en w' he=>?_
   cases en with
   | returned u=>
    obtain⟨v1,h1,x1,μ',⟨rfl,rfl,rfl⟩,k2,k3,k4,k5⟩:=he;exact hK _ _ μ' u rfl k3 k4 k5 k2
   | panicked _=>exact he.elim
   | outgrown=>exact he.elim
  cases op;case call f args=>
   dsimp only at H d4;split at d4
   ·rename_i gg ys hcall
    simp only[Bool.and_eq_true]at d4;have hg:=R.opds _ _ d4.1
    have hgv:a.eval gg = .func (.func f) #[] #[]:=by
     simp only[Opd.ev]at hg;generalize a.eval gg=z at hg;cases hg with
     | fn _ _ vs hl hr=>
      have:vs=[]:=List.length_eq_zero_iff.1 (by simpa using hl.symm)
      subst this;rfl
    exact call f _ gg ys [] [] hcall hgv rfl (fun j y v h1 h2=>by simp at h1) (by simp [WF d4.2]) (XF R.opds d4.2) (by simpa using H)
   ·cases d4
  case callv f args=>
   dsimp only at H d4;split at d4
   ·rename_i gg ys hcall
    simp only[Bool.and_eq_true]at d4;split at H
    ·rename_i fn caps hf
     have hg:=R.opds _ _ d4.1
     rw[hf]at hg;generalize hz:a.eval gg=z at hg;cases hg with
     | fn _ _ vs hl hr=>exact call fn _ gg ys caps vs hcall hz hl hr (by simp [WF d4.2]) (XF R.opds d4.2) H
    ·exact H.elim
   ·cases d4
  case mnext sh xs=>exact H.elim
  all_goals
   dsimp only at H d4;obtain⟨nx,w',μ',r1,r2,r3,r4,r5⟩:=z2z (o:=p) d4 (fun _=>rfl) (fun _=>rfl) R.heap R.opds H
   unfold Oper.wp;rw[r1];rcases r2 with⟨u,rfl,hu⟩|⟨rfl,hv⟩
   ·rw[Oper.upon_value]
    exact hK _ _ μ' u rfl r3 r4 r5 hu
   ·rw[Oper.upon_skip]
    exact hK _ _ μ' undef rfl r3 r4 r5 (hv ▸ .und _)
 ·rename_i hw
  obtain⟨rfl,rfl,rfl⟩:=H;rw[if_neg (by rw[jQ R d3 hw];simp)]
  exact hK _ _ μ undef rfl R.heap (Evo.refl _ _ _) (mA.refl _ _) .skp
 ·exact H.elim
def AO.hfree:AO→Bool
 | .mv _ | .pick _ _ _ | .build _ _ | .nilchk _ | .bin _ _ _ | .eqa _ _ _ _ | .isnil _ _ _ | .mkif _ | .un _ _ | .mkfn _ _ | .slstr _ _ _ | .faddr _ _ _ | .field _ _ _ | .iaddra _ _ _ _ | .idxa _ _ _ _ | .idxs _ _ | .ext _ _ | .len _ | .lens _ | .mx _ | .mn _=>true
 | _=>false
theorem XG {α:Type}{F:α→AV}{X:Option α}{h h1 g:aA}{v:AV}{y:Esc}(H:Option.map (fun v=>(F v,h,([]:Esc))) X=some (v,h1,y)):Option.map (fun v=>(F v,g,([]:Esc))) X=some (v,g,[]):=by
 cases X with
 | none=>cases H
 | some z=>simp at H ⊢;exact H.1
theorem nilc {α:Type}{b:Bool}{F:α→AV}{X:Option α}{h h1 g:aA}{u v:AV}{y:Esc}(H:(bif b then some (u,h,([]:Esc)) else Option.map (fun v=>(F v,h,([]:Esc))) X)=some (v,h1,y)):(bif b then some (u,g,([]:Esc)) else Option.map (fun v=>(F v,g,([]:Esc))) X)=some (v,g,[]):=by
 cases b with
 | true=>simp at H ⊢;exact H.1
 | false=>exact XG H
theorem zcY {op:AO}(hf:op.hfree=true){ev:Opd→AV}{v:AV}{h1:aA}{y:Esc}(H:aop op ev h=some (v,h1,y))(g:aA):aop op ev g=some (v,g,[]):=by
 cases op <;> first
  | (cases hf;done)
  | (simp only[aop]at H ⊢;simp_all;done)
  | (simp only[aop]at H ⊢;exact XG H)
  | (simp only[aop]at H ⊢;exact nilc H)
  | (simp only[aop]at H ⊢;split at H <;> first|(simp_all;done)|exact XG H|(split at H <;> first|(simp_all;done)|exact XG H|(rw[if_pos ‹_›];exact XG H)|(split at H <;> first|(simp_all;done)|exact XG H|(rw[if_pos ‹_›];exact XG H))))
structure Tr (C:Hd) (gl:Nat→Option PV) (ds:List DOp) (m:Nat) (dn:aC) (hs:List aA) (E:Nat→List (Nat × AV)) (H:Nat→aA) (V:Nat→AV) (X Y:Nat→Esc) (i:Nat) (o:DOp):Prop where
 run:ADo C gl o.op (zA (some o.rd) (E (m+i))) (H (m+i)) (V (m+i)) (H (m+i+1)) (Y (m+i))
 env:E (m+i+1)=put o.op.dst (V (m+i)) (E (m+i))
 esc:X (m+i+1)=Y (m+i)++X (m+i)
 still:o.eff=false→H (m+i+1)=H (m+i)∧Y (m+i)=[]
 early:∀k∈o.early,∃g,(k<m∧hs[k]?=some g∨m≤k∧k<m+i∧g=H k)∧ADo C gl o.op (zA (some o.rd) (E (m+i))) g (V (m+i)) g []
 again:∀j∈o.again,(∃q,j<m∧dn[j]?=some q∧ADo C gl q.1 q.2.1 (H (m+i+1)) q.2.2 (H (m+i+1)) []) ∨
  (m≤j∧∃q,ds[j-m]?=some q∧ADo C gl q.op (zA (some q.rd) (E j)) (H (m+i+1)) (V j) (H (m+i+1)) [])
end Go.Am
end
section
/- The abstract machine,part E: regions whose order is left open: from one order tov all. -/
set_option linter.unusedSimpArgs false
set_option linter.unusedVariables false
set_option maxHeartbeats 1000000
namespace Go.Am
variable {h h':aA} {μ μ':Mu} {w w':World} {P:Program} {M M':Mem}
variable {gl:Nat→Option PV} {nt:Nat} {M0:Mem} {h0:aA} {μ0:Mu} {e:List (Nat × AV)} {x:Esc} {a:Act}
theorem z4b {C:Hd}:∀(ds:List DOp) (m:Nat) (dn:aC) (hs:List aA) (e:List (Nat×AV)) (h:aA) (x:Esc) (K:List (Nat×AV)→aA→Esc→Prop),pC C gl ds dn hs e h x K→dn.length=m→hs.length=m →
 ∃E H V X Y,E m=e∧H m=h∧X m=x∧(∀i o,ds[i]?=some o→Tr C gl ds m dn hs E H V X Y i o)∧K (E (m+ds.length)) (H (m+ds.length)) (X (m+ds.length))
 | [],m,dn,hs,e,h,x,K,HD,h1,h2=>⟨fun _=>e,fun _=>h,fun _=>.und,fun _=>x,fun _=>[],rfl,rfl,rfl,fun i o ho=>by simp at ho,HD⟩
 | o::r,m,dn,hs,e,h,x,K,HD,h1,h2=>by
  obtain⟨v,h',y,d1,d2,d3,d4,d5⟩:=HD;obtain⟨E,H,V,X,Y,e1,e2,e3,e4,e5⟩:=z4b r (m+1) _ _ _ _ _ K d5 (by simp [h1]) (by simp [h2])
  refine⟨fun i=>if i=m then e else E i,fun i=>if i=m then h else H i,fun i=>if i=m then v else V i,fun i=>if i=m then x else X i,fun i=>if i=m then y else Y i,by simp,by simp,by simp,?_,?_⟩
  ·intro i o' ho'
   cases i with
   | zero=>
    simp only[List.getElem?_cons_zero,Option.some.injEq]at ho';subst ho';refine⟨?_,?_,?_,fun hf=>?_,fun k hk=>?_,fun j hj=>?_⟩
    ·simp only[Nat.add_zero,if_true,Nat.succ_ne_self,if_false,e2];exact d1
    ·simp only[Nat.add_zero,if_true,Nat.succ_ne_self,if_false,e1]
    ·simp only[Nat.add_zero,if_true,Nat.succ_ne_self,if_false,e3]
    ·simp only[Nat.add_zero,if_true,Nat.succ_ne_self,if_false,e2];exact d2 hf
    ·obtain⟨g,q1,q2⟩:=d3 k hk
     refine⟨g,.inl ⟨by rw[←h2];exact tA q1,q1⟩,?_⟩
     simp only[Nat.add_zero,if_true];exact q2
    ·obtain⟨q,q1,q2⟩:=d4 j hj
     refine .inl ⟨q,by rw[←h1];exact tA q1,q1,?_⟩
     simp only[Nat.add_zero,Nat.succ_ne_self,if_false,e2];exact q2
   | succ i=>
    simp only[List.getElem?_cons_succ]at ho';have T:=e4 i o' ho'
    have hm2:m+(i+1)=m+1+i:=by omega
    have hm3:¬(m+1+i=m):=by omega
    have hm4:¬(m+1+i+1=m):=by omega
    refine⟨?_,?_,?_,fun hf=>?_,fun k hk=>?_,fun j hj=>?_⟩
    ·simp only[hm2,hm3,hm4,if_false];exact T.run
    ·simp only[hm2,hm3,hm4,if_false];exact T.env
    ·simp only[hm2,hm3,hm4,if_false];exact T.esc
    ·simp only[hm2,hm3,hm4,if_false];exact T.still hf
    ·obtain⟨g,q1,q2⟩:=T.early k hk
     refine⟨g,?_,by simp only[hm2,hm3,if_false];exact q2⟩
     rcases q1 with⟨q1,q3⟩|⟨q1,q3,q4⟩
     ·rcases Nat.lt_or_ge k m with q5|q5
      ·left
       rw[List.getElem?_append_left (by omega)]at q3
       exact⟨q5,q3⟩
      ·have:k=m:=by omega
       subst this;right;rw[List.getElem?_append_right (by omega),h2,Nat.sub_self]at q3
       simp at q3;exact⟨Nat.le_refl _,by omega,by simp [q3]⟩
     ·right
      exact⟨by omega,by omega,by rw[if_neg (by omega)];exact q4⟩
    ·rcases T.again j hj with⟨q,q1,q2,q3⟩|⟨q1,q,q2,q3⟩
     ·rcases Nat.lt_or_ge j m with q5|q5
      ·left
       rw[List.getElem?_append_left (by omega)]at q2
       exact⟨q,q5,q2,by simp only[hm2,hm4,if_false];exact q3⟩
      ·have:j=m:=by omega
       subst this;right;rw[List.getElem?_append_right (by omega),h1,Nat.sub_self]at q2
       simp at q2;subst q2;exact⟨Nat.le_refl _,o,by simp,by simp only[hm2,hm4,if_false,if_true];exact q3⟩
     ·right
      refine⟨by omega,q,?_,?_⟩
      ·rw[show j-m=(j-(m+1))+1 by omega]
       simpa using q2
      ·simp only[hm2,hm4,if_false]
       rw[if_neg (by omega),if_neg (by omega)]
       exact q3
  ·dsimp only
   rw[if_neg (by simp),if_neg (by simp),if_neg (by simp)]
   rw[show m+(o::r).length=m+1+r.length by simp;omega]
   exact e5
def lk (dst:Nat→Option Nat)(V:Nat→AV)(e:List (Nat × AV))(sel:Nat→Bool):Nat→Nat→AV
 | 0,t=>bA e t
 | m+1,t=>if sel m=true∧dst m=some t then V m else lk dst V e sel m t
theorem RN {dst:Nat→Option Nat}{V:Nat→AV}{e:List (Nat × AV)}{s s':Nat→Bool}{t:Nat}:∀(n:Nat),(∀j,j<n→dst j=some t→s j=s' j)→lk dst V e s n t=lk dst V e s' n t
 | 0,_=>rfl
 | n+1,h=>by
  simp only[lk];rw[RN n (fun j hj=>h j (by omega))]
  by_cases hd:dst n=some t
  ·rw[h n (by omega) hd]
  ·simp [hd]
theorem SN {dst:Nat→Option Nat}{V:Nat→AV}{e:List (Nat × AV)}{s:Nat→Bool}{t:Nat}{i:Nat}:∀(n:Nat),i≤n→(∀j,i≤j→j<n→dst j=some t→s j=false)→lk dst V e s n t=lk dst V e s i t
 | 0,hi,_=>by
  have:i=0:=by omega
  subst this;rfl
 | n+1,hi,h=>by
  rcases Nat.lt_or_ge n i with q|q
  ·have:i=n+1:=by omega
   subst this;rfl
  ·simp only[lk]
   rw[if_neg,SN n q (fun j h1 h2=>h j h1 (by omega))]
   rintro⟨h1,h2⟩
   rw[h n q (by omega) h2]at h1
   cases h1
end Go.Am
end
section
/- The abstract machine,part F: regions whose order is left open: sound. -/
set_option linter.unusedSimpArgs false
set_option linter.unusedVariables false
set_option maxHeartbeats 1000000
namespace Go.Am
variable {h h':aA} {μ μ':Mu} {w w':World} {P:Program} {M M':Mem}
variable {gl:Nat→Option PV} {nt:Nat} {M0:Mem} {h0:aA} {μ0:Mu} {e:List (Nat × AV)} {x:Esc} {a:Act} {ops:Array Oper}
def SC (o:Oper):List Nat:=(o.after.toList.filter (Region.binds .any)).map (·.on)
inductive Bef (ops:Array Oper):Nat→Nat→Prop
 | one {k i:Nat} {o:Oper} (ho:ops[i]?=some o) (hk:k∈SC o):Bef ops k i
 | more {k m i:Nat} {o:Oper} (h:Bef ops k m) (ho:ops[i]?=some o) (hm:m∈SC o):Bef ops k i
def eM:List (List Nat)→List (List Nat)→List (List Nat)
 | [],t=>t
 | es::r,t=>eM r (t++[(es++es.flatMap fun m=>t.getD m []).eraseDups])
theorem TY:∀ (os:List Oper) (m:Nat) (t:List (List Nat)),ops.toList.drop m=os→t.length=m→(∀ i l,t[i]?=some l→∀ k∈l,Bef ops k i) →
 ∀i l,(eM (os.map SC) t)[i]?=some l→∀k∈l,Bef ops k i
 | [],m,t,_,_,ht=>ht
 | o::r,m,t,ho,hm,ht=>by
  have hom:ops[m]?=some o:=by
   have:(ops.toList.drop m)[0]?=some o:=by rw[ho];rfl
   rw[List.getElem?_drop]at this;simpa using this
  have hr:ops.toList.drop (m+1)=r:=by
   rw[←List.drop_drop,ho];rfl
  simp only[List.map_cons,eM];refine TY r (m+1) _ hr (by simp [hm]) (fun i l hi k hk=>?_)
  rcases xE hi with hi|⟨hi,hl⟩
  ·exact ht i l hi k hk
  ·rw[hi,hm]
   rw[hl]at hk;rw[List.mem_eraseDups]at hk;rcases List.mem_append.1 hk with hk|hk
   ·exact .one hom hk
   ·obtain⟨q,q1,q2⟩:=List.mem_flatMap.1 hk
    cases hq:t[q]? with
    | none=>simp [List.getD,hq]at q2
    | some l'=>
     simp [List.getD,hq]at q2;exact .more (ht q l' hq k q2) hom q1
def oL (tab:List (List Nat))(i j:Nat)(p q:DOp):Bool:=
 (tab.getD j []).contains i ||
  (!(p.eff&&q.eff)&&(match p.op.dst with|some t=>q.op.dst != some t && !q.rd.contains t|none=>true)&&(match q.op.dst with|some t=>!p.rd.contains t|none=>true) &&
   (!(q.eff && !p.eff)||p.op.op.hfree||q.again.contains i)&&(!(p.eff && !q.eff)||q.op.op.hfree||q.early.contains i))
def TP (tab:List (List Nat))(j:Nat)(q:DOp):List DOp→Nat→Bool
 | [],_=>true
 | p::r,i=>decide (j≤i)||(oL tab i j p q&&TP tab j q r (i+1))
def VP (tab:List (List Nat))(all:List DOp):List DOp→Nat→Bool
 | [],_=>true
 | q::r,j=>TP tab j q all 0&&VP tab all r (j+1)
def rN:List Oper→Nat→Bool
 | [],_=>true
 | o::r,i=>(SC o).all (fun k=>decide (k<i))&&rN r (i+1)
def aM (P:Program)(nt:Nat)(ops:Array Oper)(ds:List DOp):Bool:=
 RE P nt ops (ds.map (·.op)) 0&&rN ops.toList 0&&VP (eM (ops.toList.map SC) []) ds ds 0
theorem z2Z {tab:List (List Nat)}{j:Nat}{q:DOp}:∀{l:List DOp} {i:Nat},TP tab j q l i=true→∀k p,l[k]?=some p→i+k<j→oL tab (i+k) j p q=true
 | [],i,_,k,p,h,_=>by simp at h
 | p0::r,i,h,k,p,hk,hlt=>by
  simp only[TP,Bool.or_eq_true,decide_eq_true_eq,Bool.and_eq_true]at h;rcases h with h|⟨h1,h2⟩
  ·omega
  ·cases k with
   | zero=>simp at hk;subst hk;exact h1
   | succ k=>
    have:=z2Z h2 k p (by simpa using hk) (by omega)
    rwa [show i+1+k=i+(k+1) by omega]at this
theorem z3c {tab:List (List Nat)}{all:List DOp}:∀{l:List DOp} {j:Nat},VP tab all l j=true→∀k q,l[k]?=some q→∀i p,all[i]?=some p→i<j+k→oL tab i (j+k) p q=true
 | [],j,_,k,q,h,_,_,_,_=>by simp at h
 | q0::r,j,h,k,q,hk,i,p,hp,hlt=>by
  simp only[VP,Bool.and_eq_true]at h;cases k with
  | zero=>
   simp at hk;subst hk;have:=z2Z h.1 i p hp (by simpa using hlt)
   simpa using this
  | succ k=>
   have:=z3c h.2 k q (by simpa using hk) i p hp (by omega)
   rwa [show j+1+k=j+(k+1) by omega]at this
theorem GZ:∀ {l:List Oper} {i:Nat},rN l i=true→∀ j o,l[j]?=some o→∀ k∈SC o,k<i+j
 | [],_,_,j,o,h,_,_=>by simp at h
 | o0::r,i,h,j,o,hj,k,hk=>by
  simp only[rN,Bool.and_eq_true,List.all_eq_true,decide_eq_true_eq]at h;cases j with
  | zero=>simp at hj;subst hj;simpa using h.1 k hk
  | succ j=>have:=GZ h.2 j o (by simpa using hj) k hk;omega
theorem MY:∀ {l:List AOp} {i:Nat},RE P nt ops l i=true→i+l.length=ops.size∧∀ j o,l[j]?=some o→∃ p,ops[i+j]?=some p∧vF P nt ops o p=true
 | [],i,h=>by simp [RE]at h;exact⟨by simpa using h,fun j o hj=>by simp at hj⟩
 | o0::r,i,h=>by
  simp only[RE]at h;split at h
  ·rename_i p hp
   simp only[Bool.and_eq_true]at h;obtain⟨h1,h2⟩:=MY h.2;refine⟨by simp;omega,fun j o hj=>?_⟩
   cases j with
   | zero=>simp at hj;subst hj;exact⟨p,hp,h.1⟩
   | succ j=>
    obtain⟨p',q1,q2⟩:=h2 j o (by simpa using hj)
    exact⟨p',by rw[←q1];congr 1;omega,q2⟩
  ·cases h
theorem z89 {o:AOp}{p:Oper}(h:vF P nt ops o p=true):o.dst=p.dst∧∀j,o.dst=some j→j<nt:=by
 unfold vF at h;simp only[Bool.and_eq_true,beq_iff_eq]at h;obtain⟨⟨⟨d1,d2⟩,d3⟩,d4⟩:=h;exact⟨d1,fun j hj=>by rw[hj]at d2;simpa using d2⟩
theorem z66 (l:List Nat)(e:List (Nat × AV))(t:Nat):bA (zA (some l) e) t=if t∈l then bA e t else .und:=by
 simp only[zA];induction l with
 | nil=>simp [bA]
 | cons k r ih=>
  simp only[List.map_cons,bA];by_cases hk:k=t
  ·subst hk;simp
  ·rw[if_neg hk,ih]
   have:¬t=k:=fun h=>hk h.symm
   simp [this]
def Down (ops:Array Oper)(sel:Nat→Bool):Prop:=∀i o,ops[i]?=some o→sel i=true→∀k∈SC o,sel k=true
theorem Bef.down {sel:Nat→Bool}(hD:Down ops sel){k i:Nat}(hb:Bef ops k i):sel i=true→sel k=true:=by
 induction hb with
 | one ho hk=>exact fun hi=>hD _ _ ho hi _ hk
 | more _ ho hm ih=>exact fun hi=>ih (hD _ _ ho hi _ hm)
theorem Bef.ready {sel:Nat→Bool}(hD:Down ops sel){k i:Nat}(hb:Bef ops k i)(hr:∀ o,ops[i]?=some o→∀ k∈SC o,sel k=true):sel k=true:=by
 cases hb with
 | one ho hk=>exact hr _ ho _ hk
 | more hb ho hm=>exact hb.down hD (hr _ ho _ hm)
end Go.Am
end
section
/- The abstract machine,part G: regions whose order is left open: whatever the order. -/
set_option linter.unusedSimpArgs false
set_option linter.unusedVariables false
set_option maxHeartbeats 1000000
namespace Go.Am
variable {h h':aA} {μ μ':Mu} {w w':World} {P:Program} {M M':Mem}
variable {gl:Nat→Option PV} {nt:Nat} {M0:Mem} {h0:aA} {μ0:Mu} {e:List (Nat × AV)} {x:Esc} {a:Act} {ops:Array Oper}
theorem zhW {tab:List (List Nat)}(ht:∀ i l,tab[i]?=some l→∀ k∈l,Bef ops k i){i j:Nat}{p q:DOp}(h:oL tab i j p q=true) :
 Bef ops i j∨(¬(p.eff=true∧q.eff=true)∧(∀t,p.op.dst=some t→q.op.dst≠some t∧t∉q.rd)∧(∀t,q.op.dst=some t→t∉p.rd) ∧
  (q.eff=true→p.eff=false→p.op.op.hfree=true∨i∈q.again)∧(p.eff=true→q.eff=false→q.op.op.hfree=true∨i∈q.early)):=by
 unfold oL at h;rw[Bool.or_eq_true]at h;rcases h with h|h
 ·left
  cases hq:tab[j]? with
  | none=>simp [List.getD,hq]at h
  | some l=>simp [List.getD,hq]at h;exact ht j l hq i h
 ·right
  simp only[Bool.and_eq_true,Bool.not_eq_true',Bool.or_eq_true]at h;obtain⟨⟨⟨⟨h1,h2⟩,h3⟩,h4⟩,h5⟩:=h;refine⟨fun hab=>by(rw[hab.1,hab.2]at h1;cases h1),fun t ht=>?_,fun t ht=>?_,fun ha hb=>?_,fun ha hb=>?_⟩
  ·rw[ht]at h2
   simpa using h2
  ·rw[ht]at h3
   simpa using h3
  ·rw[ha,hb]at h4
   simpa using h4
  ·rw[ha,hb]at h5
   simpa using h5
theorem IZ {C:Hd}{ds:List DOp}{E:Nat→List (Nat × AV)}{H:Nat→aA}{V:Nat→AV}{X Y:Nat→Esc}(T:∀ i o,ds[i]?=some o→Tr C gl ds 0 [] [] E H V X Y i o)(e0:E 0=e)(t:Nat) :
 ∀i,i≤ds.length→bA (E i) t=lk (fun i=>(ds[i]?).bind (·.op.dst)) V e (fun _=>true) i t
 | 0,_=>by simp [lk,e0]
 | i+1,hi=>by
  have ho:=List.getElem?_eq_getElem (show i<ds.length by omega)
  have hT:=(T i _ ho).env
  simp only[Nat.zero_add]at hT;rw[hT,pH,IZ T e0 t i (by omega)]
  simp only[lk,ho,Option.bind_some,true_and]
theorem z3Q {C:Hd}{ds:List DOp}{E:Nat→List (Nat × AV)}{H:Nat→aA}{V:Nat→AV}{X Y:Nat→Esc}(T:∀ i o,ds[i]?=some o→Tr C gl ds 0 [] [] E H V X Y i o){c:Nat} :
 ∀d,c+d≤ds.length→(∀k o,c≤k→k<c+d→ds[k]?=some o→o.eff=false)→H (c+d)=H c∧X (c+d)=X c
 | 0,_,_=>⟨rfl,rfl⟩
 | d+1,hd,hn=>by
  have ho:=List.getElem?_eq_getElem (show c+d<ds.length by omega)
  have hT:=T _ _ ho
  have hs:=hT.still (hn _ _ (by omega) (by omega) ho)
  obtain⟨h1,h2⟩:=z3Q T d (by omega) (fun k o h1 h2 h3=>hn k o h1 (by omega) h3)
  simp only[Nat.zero_add]at hs;have he:=hT.esc
  simp only[Nat.zero_add]at he;rw[hs.2]at he;exact⟨by rw[←Nat.add_assoc,hs.1,h1],by rw[←Nat.add_assoc,he,List.nil_append,h2]⟩
theorem z48 {C:Hd}{o:AOp}(hf:o.op.hfree=true){v:AV}{y:Esc}(H:ADo C gl o e h v h' y)(g:aA):ADo C gl o e g v g []:=by
 obtain⟨dst,guard,op⟩:=o;unfold ADo at H ⊢;dsimp only at H hf ⊢;split at H
 ·cases op
  case call f args=>cases hf
  case callv f args=>cases hf
  case mnext sh xs=>cases hf
  all_goals exact zcY hf H g
 ·exact⟨H.1,rfl,rfl⟩
 ·exact H.elim
theorem PN {p:Nat→Prop}{c i:Nat}(h:∃ k,c≤k∧k<i∧p k):∃k,c≤k∧k<i∧p k∧∀k',c≤k'→k'<k→¬p k':=by
 obtain⟨k,h1,h2,h3⟩:=h;induction k using Nat.strongRecOn with
 | _ k ih=>
  by_cases hq:∃k',c≤k'∧k'<k∧p k'
  ·obtain⟨k',q1,q2,q3⟩:=hq
   exact ih k' q2 q1 (by omega) q3
  ·exact⟨k,h1,h2,h3,fun k' q1 q2 q3=>hq ⟨k',q1,q2,q3⟩⟩
theorem CZ {C:Hd}(hC:∀ f a h K,C f a h K→EB P gl f a h K){ds:List DOp}{K:List (Nat × AV)→aA→Esc→Prop}{Q:Exit→Act→World→Prop}(hc:aM P nt ops ds=true)
 (HD:pC C gl ds [] [] e h x K) (R:Rel gl nt M0 h0 μ0 e h x a w μ) (hK:∀e h x a w μ,K e h x→Rel gl nt M0 h0 μ0 e h x a w μ→Q .normal a w) :
 wpAny P .any ops Q ops.size (Array.replicate ops.size false) a w:=by
 unfold aM at hc;simp only[Bool.and_eq_true]at hc;obtain⟨⟨c1,c2⟩,c3⟩:=hc;obtain⟨c4,c5⟩:=MY c1;have hn:ds.length=ops.size:=by simpa using c4
 have htab:=TY (ops:=ops) ops.toList 0 [] (by simp) rfl (fun i l hi=>by simp at hi)
 have hpair:∀(i j:Nat) (p q:DOp),ds[i]?=some p→ds[j]?=some q→i<j→Bef ops i j∨(¬(p.eff=true∧q.eff=true)∧(∀t,p.op.dst=some t→q.op.dst≠some t∧t∉q.rd)∧(∀t,q.op.dst=some t→t∉p.rd) ∧
  (q.eff=true→p.eff=false→p.op.op.hfree=true∨i∈q.again)∧(p.eff=true→q.eff=false→q.op.op.hfree=true∨i∈q.early)):=fun i j p q hp hq hlt=>by
  have:=z3c c3 j q hq i p hp (by omega)
  rw[Nat.zero_add]at this;exact zhW htab this
 have hop:∀(i:Nat) (o:DOp),ds[i]?=some o→∃p,ops[i]?=some p∧vF P nt ops o.op p=true:=fun i o ho=>by
  obtain⟨p,q1,q2⟩:=c5 i o.op (by simp [ho])
  rw[Nat.zero_add]at q1;exact⟨p,q1,q2⟩
 obtain⟨E,H,V,X,Y,e1,e2,e3,T,e5⟩:=z4b ds 0 [] [] e h x K HD rfl rfl;simp only[Nat.zero_add]at e5;have hE:=fun t i hi=>IZ (e:=e) T e1 t i hi
 let dst:Nat→Option Nat:=fun i=>(ds[i]?).bind (·.op.dst)
 have hdst:∀(i:Nat) (o:DOp),ds[i]?=some o→dst i=o.op.dst:=fun i o ho=>by show(ds[i]?).bind _=_;rw[ho];rfl
 have hdst':∀(i t:Nat),dst i=some t→∃o,ds[i]?=some o∧o.op.dst=some t:=fun i t ht=>by
  cases ho:ds[i]? with
  | none=>exact absurd ht (by show(ds[i]?).bind _≠_;rw[ho];simp)
  | some o=>exact⟨o,rfl,by rw[←hdst i o ho];exact ht⟩
 have hstill:∀c i,c≤i→i≤ds.length→(∀(k:Nat) (o:DOp),c≤k→k<i→ds[k]?=some o→o.eff=false)→H i=H c∧X i=X c:=fun c i hci hi hk=>by
  have:=z3Q T (c:=c) (i-c) (by omega) (fun k o h1 h2 h3=>hk k o h1 (by omega) h3)
  rwa [show c+(i-c)=i by omega]at this
 have done:∀(listed:Array Bool) (c:Nat) (en:List (Nat×AV)) (a:Act) (w:World) (μ:Mu),(∀i,i<ops.size→listed.getD i false=true)→(∀(k:Nat) (o:DOp),ds[k]?=some o→o.eff=true→(listed.getD k false=true↔k<c))→c≤ds.length →
  (∀t,bA en t=lk dst V e (fun i=>listed.getD i false) ds.length t)→Rel gl nt M0 h0 μ0 en (H c) (X c) a w μ→Q .normal a w:=by
  intro listed c en a w μ hall hce hcl hen R;have hHn:=hstill c ds.length hcl (Nat.le_refl _) (fun k o h1 h2 h3=>by
   cases hb:o.eff with
   | false=>rfl
   | true=>have:=(hce k o h3 hb).1 (hall k (by omega));omega)
  refine hK _ _ _ a w μ e5 ?_;rw[hHn.1,hHn.2];refine⟨R.heap,fun t=>?_,R.glob,R.evo,R.esc,R.size,R.defers⟩
  rw[hE t _ (Nat.le_refl _)];have:=hen t;rw[RN (s':=fun _=>true) ds.length (fun j hj _=>hall j (by omega))]at this
  rw[←this];exact R.env t
 have key:∀(fuel:Nat) (listed:Array Bool) (U:List Nat) (c:Nat) (en:List (Nat×AV)) (a:Act) (w:World) (μ:Mu),listed.size=ops.size→(∀i,i<ops.size→listed.getD i false=false→i∈U)→U.length≤fuel →
  Down ops (fun i=>listed.getD i false)→(∀(k:Nat) (o:DOp),ds[k]?=some o→o.eff=true→(listed.getD k false=true↔k<c))→(c=0∨∃(k:Nat) (o:DOp),c=k+1∧ds[k]?=some o∧o.eff=true)→c≤ds.length →
  (∀t,bA en t=lk dst V e (fun i=>listed.getD i false) ds.length t)→Rel gl nt M0 h0 μ0 en (H c) (X c) a w μ→wpAny P .any ops Q fuel listed a w:=by
  intro fuel;induction fuel with
  | zero=>
   intro listed U c en a w μ hsz hU hUl hD hce hc0 hcl hen R;have hall:∀i,i<ops.size→listed.getD i false=true:=fun i hi=>by
    cases hb:listed.getD i false with
    | true=>rfl
    | false=>
     have:=hU i hi hb;have hnil:U=[]:=List.length_eq_zero_iff.1 (by omega)
     rw[hnil]at this;cases this
   refine⟨?_,done listed c en a w μ hall hce hcl hen R⟩;rw[List.eq_nil_iff_forall_not_mem];intro i hi;rw[mem_ready]at hi;obtain⟨q1,o,q2,_⟩:=hi;have hi:i<ops.size:=(Array.getElem?_eq_some_iff.1 q2).1
   have:=hall i hi;simp [Array.getD,hsz,hi]at q1 this;rw[q1]at this;cases this
  | succ fuel ih=>
   intro listed U c en a w μ hsz hU hUl hD hce hc0 hcl hen R;refine⟨fun hr=>?_,fun i hi=>?_⟩
   ·have hall:∀i,i<ops.size→listed.getD i false=true:=by
     intro i;induction i using Nat.strongRecOn with
     | _ i ihi=>
      intro hi;cases hb:listed.getD i false with
      | true=>rfl
      | false=>
       have hm:i∈Region.ready .any ops listed:=by
        rw[mem_ready];refine⟨by simp [Array.getD,hsz,hi]at hb ⊢;exact hb,ops[i],Array.getElem?_eq_getElem hi,fun ed hed hbd=>?_⟩
        have hk:ed.on∈SC ops[i]:=List.mem_map.2 ⟨ed,List.mem_filter.2 ⟨by simpa using hed,hbd⟩,rfl⟩
        have hlt:=GZ c2 i ops[i] (by simp [hi]) ed.on hk
        exact ihi ed.on (by omega) (by omega)
       rw[hr]at hm;cases hm
    exact done listed c en a w μ hall hce hcl hen R
   ·rw[mem_ready]at hi
    obtain⟨q1,p,hp,q3⟩:=hi;have hin:i<ops.size:=(Array.getElem?_eq_some_iff.1 hp).1
    have hnl:listed.getD i false=false:=by
     simp [Array.getD,hsz,hin]at q1 ⊢;exact q1
    have hready:∀o,ops[i]?=some o→∀k∈SC o,listed.getD k false=true:=by
     intro o ho k hk;rw[hp]at ho;injection ho with ho
     subst ho;obtain⟨ed,q4,rfl⟩:=List.mem_map.1 hk;obtain⟨q5,q6⟩:=List.mem_filter.1 q4;exact q3 ed (by simpa using q5) q6
    have ho:=List.getElem?_eq_getElem (show i<ds.length by omega)
    generalize ds[i]'(by omega)=o at ho
    obtain⟨p',hp',hck⟩:=hop i o ho;rw[hp]at hp';injection hp' with hp'
    subst hp';obtain⟨hd1,hd2⟩:=z89 hck;have hT:=T i o ho
    have hrun:=hT.run
    simp only[Nat.zero_add]at hrun;have before:∀(k:Nat) (q:DOp),ds[k]?=some q→k<i→Bef ops k i→listed.getD k false=true:=fun k q _ _ hb=>hb.ready hD hready
    have behind:∀(k:Nat),Bef ops i k→listed.getD k false=false:=fun k hb=>by
     cases hs:listed.getD k false with
     | false=>rfl
     | true=>have:=hb.down hD hs;rw[hnl]at this;cases this
    have Renv:Rel gl nt M0 h0 μ0 (zA (some o.rd) (E i)) (H c) (X c) a w μ:=by
     refine⟨R.heap,fun t=>?_,R.glob,R.evo,R.esc,R.size,R.defers⟩
     rw[z66];split
     ·rename_i htr
      have h1:=hen t
      rw[SN (i:=i) ds.length (by omega) (fun j hij hj hdj=>by
       obtain⟨q,hq,hqd⟩:=hdst' j t hdj;rcases Nat.eq_or_lt_of_le hij with hh|hh
       ·subst hh;exact hnl
       ·rcases hpair i j o q ho hq hh with hb|⟨_,_,k3,_⟩
        ·exact behind j hb
        ·exact absurd htr (k3 t hqd)),RN (s':=fun _=>true) i (fun j hj hdj=>by
       obtain⟨q,hq,hqd⟩:=hdst' j t hdj;rcases hpair j i q o hq ho hj with hb|⟨_,k2,_⟩
       ·exact before j q hq hj hb
       ·exact absurd htr (k2 t hqd).2),←hE t i (by omega)]at h1
      rw[←h1];exact R.env t
     ·exact .und _
    have next:∀(c':Nat) (a':Act) (w':World) (μ':Mu) (u:Value),a'=a.put p.dst u→(∀(k:Nat) (q:DOp),ds[k]?=some q→q.eff=true→((listed.setIfInBounds i true).getD k false=true↔k<c'))→(c'=0∨∃(k:Nat) (o:DOp),c'=k+1∧ds[k]?=some o∧o.eff=true)→c'≤ds.length →
     (∀e',(∀t,bA e' t=if o.op.dst=some t then V i else bA en t)→Rel gl nt M0 h0 μ0 e' (H c') (X c') a' w' μ')→wpAny P .any ops Q fuel (listed.setIfInBounds i true) a' w':=by
     intro c' a' w' μ' u ha k1 k2 k3 k4;refine ih (listed.setIfInBounds i true) (U.erase i) c' (put o.op.dst (V i) en) a' w' μ' (by simp [hsz]) (fun j hj hb=>?_) ?_ ?_ k1 k2 k3 (fun t=>?_) (k4 _ (fun t=>pH))
     ·by_cases hji:i=j
      ·subst hji
       simp [Array.getD,hsz,hin]at hb
      ·rw[getD_set_ne false hji]at hb
       exact(List.mem_erase_of_ne (fun h=>hji h.symm)).2 (hU j hj hb)
     ·have:=List.length_erase_of_mem (hU i hin hnl)
      omega
     ·intro j q hq hs k hk
      by_cases hji:i=j
      ·subst hji
       exact getD_set_true (hready q hq k hk)
      ·have hs':listed.getD j false=true:=by
        have:=hs;simp only[getD_set_ne false hji]at this;exact this
       exact getD_set_true (hD j q hq hs' k hk)
     ·rw[pH]
      by_cases hdt:o.op.dst=some t
      ·rw[if_pos hdt]
       rw[SN (i:=i+1) ds.length (by omega) (fun j hij hj hdj=>by
        obtain⟨q,hq,hqd⟩:=hdst' j t hdj;show(listed.setIfInBounds i true).getD j false=false
        rw[getD_set_ne false (show i≠j by omega)]
        rcases hpair i j o q ho hq (by omega) with hb|⟨_,k2,_⟩
        ·exact behind j hb
        ·exact absurd hqd (k2 t hdt).1)]
       simp only[lk];rw[if_pos ⟨by simp [Array.getD,hsz,hin],by rw[hdst i o ho];exact hdt⟩]
      ·rw[if_neg hdt,hen t]
       refine RN _ (fun j hj hdj=>?_)
       have hji:i≠j:=by
        intro hji;subst hji;rw[hdst i o ho]at hdj;exact hdt hdj
       exact(getD_set_ne false hji).symm
    cases heff:o.eff with
    | true=>
     have hci:c≤i:=by
      rcases hc0 with hc0|⟨k,q,hck2,hq,hqe⟩
      ·omega
      ·rcases Nat.lt_trichotomy k i with hh|hh|hh
       ·omega
       ·subst hh
        have:=(hce k q hq hqe).2 (by omega)
        rw[hnl]at this;cases this
       ·rcases hpair i k o q ho hq hh with hb|⟨k1,_⟩
        ·have:=behind k hb
         have h2:=(hce k q hq hqe).2 (by omega)
         rw[this]at h2;cases h2
        ·exact absurd ⟨heff,hqe⟩ k1
     have hbe:∀(k:Nat) (q:DOp),k<i→ds[k]?=some q→q.eff=true→k<c:=fun k q hk hq hqe=>by
      rcases hpair k i q o hq ho hk with hb|⟨k1,_⟩
      ·exact(hce k q hq hqe).1 (before k q hq hk hb)
      ·exact absurd ⟨hqe,heff⟩ k1
     have hHi:=hstill c i hci (by omega) (fun k q h1 h2 h3=>by
      cases hb:q.eff with
      | false=>rfl
      | true=>have:=hbe k q h2 h3 hb;omega)
     rw[hHi.1]at hrun;refine AZ hC hp hck Renv hrun (fun a' w' μ' u ha hH hEv hI hV=>?_)
     refine next (i+1) a' w' μ' u ha (fun k q hq hqe=>?_) (.inr ⟨i,o,rfl,ho,heff⟩) (by omega) (fun e' he'=>?_)
     ·by_cases hki:i=k
      ·subst hki
       simp [Array.getD,hsz,hin]
      ·rw[getD_set_ne false hki,hce k q hq hqe]
       constructor
       ·intro _;omega
       ·intro _;exact hbe k q (by omega) hq hqe
     ·have hst:=R.step (d:=p.dst) (fun j hj=>hd2 j (by rw[hd1];exact hj)) hH hEv hI hV
      have hX:X (i+1)=Y i++X c:=by have:=hT.esc;simp only[Nat.zero_add]at this;rw[this,hHi.2]
      rw[hX,ha];refine⟨hst.heap,fun t=>?_,hst.glob,hst.evo,hst.esc,hst.size,hst.defers⟩
      have:=hst.env t;rw[pH,←hd1]at this;rw[he' t];rw[hd1]at this ⊢;exact this
    | false=>
     have hs:=hT.still heff
     simp only[Nat.zero_add]at hs;rw[hs.1,hs.2]at hrun;have hdo:ADo C gl o.op (zA (some o.rd) (E i)) (H c) (V i) (H c) []:=by
      by_cases hf:o.op.op.hfree=true
      ·exact z48 hf hrun _
      ·rcases Nat.lt_or_ge i c with hic|hci
       ·rcases hc0 with hc0|⟨k,q,hck2,hq,hqe⟩
        ·omega
        ·have hik:i<k:=by
          rcases Nat.eq_or_lt_of_le (show i≤k by omega) with hh|hh
          ·subst hh
           rw[ho]at hq;injection hq with hq
           subst hq;rw[heff]at hqe;cases hqe
          ·exact hh
         rcases hpair i k o q ho hq hik with hb|⟨_,_,_,k4,_⟩
         ·have:=behind k hb
          have h2:=(hce k q hq hqe).2 (by omega)
          rw[this]at h2;cases h2
         ·rcases k4 hqe heff with k4|k4
          ·exact absurd k4 hf
          ·rcases(T k q hq).again i k4 with⟨_,h1,_⟩|⟨_,q',h1,h2⟩
           ·omega
           ·simp only[Nat.sub_zero]at h1
            rw[ho]at h1;injection h1 with h1
            subst h1;simp only[Nat.zero_add]at h2;rw[hck2];exact h2
       ·by_cases hk:∃k,c≤k∧k<i∧∃q,ds[k]?=some q∧q.eff=true
        ·obtain⟨k,hck2,hki,⟨q,hq,hqe⟩,hmin⟩:=PN hk
         have hHk:=hstill c k hck2 (by omega) (fun k' q' h1 h2 h3=>by
          cases hb:q'.eff with
          | false=>rfl
          | true=>exact absurd ⟨q',h3,hb⟩ (hmin k' h1 h2))
         rcases hpair k i q o hq ho hki with hb|⟨_,_,_,_,k5⟩
         ·have:=(hce k q hq hqe).1 (before k q hq hki hb)
          omega
         ·rcases k5 hqe heff with k5|k5
          ·exact absurd k5 hf
          ·obtain⟨g,h1,h2⟩:=hT.early k k5
           simp only[Nat.zero_add]at h1 h2;rcases h1 with⟨h1,_⟩|⟨_,_,h1⟩
           ·omega
           ·rw[h1,hHk.1]at h2
            exact h2
        ·have hHi:=hstill c i hci (by omega) (fun k q h1 h2 h3=>by
          cases hb:q.eff with
          | false=>rfl
          | true=>exact absurd ⟨k,h1,h2,q,h3,hb⟩ hk)
         rw[hHi.1]at hrun;exact hrun
     refine AZ hC hp hck Renv hdo (fun a' w' μ' u ha hH hEv hI hV=>?_)
     refine next c a' w' μ' u ha (fun k q hq hqe=>?_) hc0 hcl (fun e' he'=>?_)
     ·have hki:i≠k:=by
       intro hki;subst hki;rw[ho]at hq;injection hq with hq
       subst hq;rw[heff]at hqe;cases hqe
      rw[getD_set_ne false hki];exact hce k q hq hqe
     ·have hst:=R.step (d:=p.dst) (fun j hj=>hd2 j (by rw[hd1];exact hj)) hH hEv hI hV
      rw[List.nil_append]at hst;rw[ha];refine⟨hst.heap,fun t=>?_,hst.glob,hst.evo,hst.esc,hst.size,hst.defers⟩
      have:=hst.env t;rw[pH,←hd1]at this;rw[he' t];rw[hd1]at this ⊢;exact this
 refine key ops.size _ (List.range ops.size) 0 e a w μ (by simp) (fun i hi _=>List.mem_range.2 hi) (by simp) ?_ ?_ (.inl rfl) (Nat.zero_le _) ?_ ?_
 ·intro i o ho hs
  have hi:i<ops.size:=(Array.getElem?_eq_some_iff.1 ho).1
  simp [Array.getD,hi]at hs
 ·intro k o ho _
  have hi:k<ops.size:=by rw[←hn];exact tA ho
  simp [Array.getD,hi]
 ·intro t
  have:lk dst V e (fun i=>(Array.replicate ops.size false).getD i false) ds.length t=lk dst V e (fun i=>(Array.replicate ops.size false).getD i false) 0 t:=
   SN ds.length (Nat.zero_le _) (fun j _ hj _=>by simp [Array.getD])
  rw[this];rfl
 ·rw[e2,e3];exact R
end Go.Am
end
