/- Texts of the proof, laid together: AmH, Am21, Am22, Am23, Am24, Am25, Am26, Am27, Am28, Am29. -/
import Derived.Below
import Derived.ChangeSlices
import Derived.Carry
import Derived.Test.YtahgfbhabpiplaaGreatDoorlawRE2
set_option linter.all false
section
/- The abstract machine,part H: two operations whose order is left open and that disturb each other: both ways. -/
set_option linter.all false
namespace Go.Am
variable {P:Program} {gl:Nat→Option PV} {nt:Nat} {M0:Mem} {h0:aA} {μ0:Mu} {h:aA} {μ:Mu} {e:List (Nat × AV)} {x0:Esc} {ops:Array Oper} {Q:Exit→Act→World→Prop} {ix:List Nat} {x y:Nat}
def XN:List Nat→Bool
 | []=>true
 | a::r=>!r.contains a&&XN r
theorem z2t:∀ {l:List Nat},XN l=true→l.Nodup
 | [],_=>List.nodup_nil
 | a::r,h=>by
  simp only[XN,Bool.and_eq_true,Bool.not_eq_true']at h;refine List.nodup_cons.2 ⟨fun hm=>?_,z2t h.2⟩
  have:=h.1;simp [hm]at this
def GP (ops:Array Oper)(ix:List Nat)(x y i:Nat):Oper:=
 let o:=(ops[i]?).getD default
 ⟨o.dst,o.op,o.type,o.pos,((SC o++bif Nat.beq i y then [x] else []).map fun k=>⟨ix.findIdx (Nat.beq k),.data⟩).toArray,o.guard⟩
def bD (ops:Array Oper)(ix:List Nat)(x y:Nat):Array Oper:=(ix.map (GP ops ix x y)).toArray
structure PermOk (ops:Array Oper) (ix:List Nat) (x y:Nat):Prop where
 len:ix.length=ops.size
 lt:∀i∈ix,i<ops.size
 all:∀i,i<ops.size→i∈ix
 nd:ix.Nodup
 gd:∀(i:Nat) (o:Oper),ops[i]?=some o→o.guard=none
 ed:∀(i:Nat) (o:Oper),ops[i]?=some o→∀k∈SC o,k<ops.size
 xl:x<ops.size
theorem PermOk.inv (H:PermOk ops ix x y){i:Nat}(hi:i<ops.size):ix.findIdx (Nat.beq i)<ops.size∧ix[ix.findIdx (Nat.beq i)]?=some i:=by
 have hm:=H.all i hi
 have hl:ix.findIdx (Nat.beq i)<ix.length:=List.findIdx_lt_length.2 ⟨i,hm,Nat.beq_refl i⟩
 refine⟨by rw[←H.len];exact hl,?_⟩
 rw[List.getElem?_eq_getElem hl];have:=List.findIdx_getElem (w:=hl);exact congrArg some (Nat.eq_of_beq_eq_true this).symm
theorem yW (H:PermOk ops ix x y){k i:Nat}(hk:ix[k]?=some i):∃o,ops[i]?=some o∧(bD ops ix x y)[k]?=some (GP ops ix x y i)∧GP ops ix x y i=⟨o.dst,o.op,o.type,o.pos,((SC o++bif Nat.beq i y then [x] else []).map fun k=>⟨ix.findIdx (Nat.beq k),.data⟩).toArray,o.guard⟩:=by
 have hi:=H.lt i (List.mem_of_getElem? hk)
 refine⟨ops[i],Array.getElem?_eq_getElem hi,?_,?_⟩
 ·unfold bD
  simp [hk]
 ·unfold GP
  simp [Array.getElem?_eq_getElem hi]
def qQ (x y:Nat)(l:List Nat):Prop:=∀l1 l2,l=l1++y::l2→x∈l1
theorem zhX (H:PermOk ops ix x y){k i:Nat}(hk:ix[k]?=some i){K K':Act→World→Prop}{a:Act}{w:World}(hK:∀ a w,K a w→K' a w)(h:wpOp P (bD ops ix x y) Q k K a w):wpOp P ops Q i K' a w:=by
 obtain⟨o,h1,h2,h3⟩:=yW H hk;have hg:=H.gd i o h1
 unfold wpOp at h ⊢;rw[h2]at h;rw[h1];rw[h3]at h;dsimp only at h ⊢;have e1:∀yl,Region.wanted o yl=true:=fun yl=>by unfold Region.wanted;rw[hg]
 rw[if_pos (e1 _)];rw[if_pos (by unfold Region.wanted;dsimp only;rw[hg])]at h
 rcases h with h|h
 ·exact .inl (Oper.wp_mono hK h)
 ·exact .inr h
def VO (ops:Array Oper):Nat→Array Bool→List Nat→Prop
 | 0,_,l=>l=[]
 | _+1,listed,[]=>Region.ready .any ops listed=[]
 | n+1,listed,i::r=>i∈Region.ready .any ops listed∧VO ops n (listed.setIfInBounds i true) r
theorem z5m (ops:Array Oper):∀(fuel t:Nat) (listed:Array Bool),VO ops fuel listed (Region.linearise.go .any ops fuel t listed []):=by
 intro fuel;induction fuel with
 | zero=>intro t listed;simp [Region.linearise.go,VO]
 | succ fuel ih=>
  intro t listed;have hgo:Region.linearise.go .any ops (fuel+1) t listed []=match (Region.ready .any ops listed)[t%(Region.ready .any ops listed).length]? with
   | some i=>i::Region.linearise.go .any ops fuel (t / (Region.ready .any ops listed).length) (listed.setIfInBounds i true) []
   | none=>[]:=by
   simp only[Region.linearise.go];change (match (Region.ready .any ops listed)[t%(Region.ready .any ops listed).length]? with
    | some i=>Region.linearise.go .any ops fuel (t / (Region.ready .any ops listed).length) (listed.setIfInBounds i true) [i]
    | none=>[].reverse)=_
   split
   ·rw[linearise_go_acc,List.reverse_singleton,List.singleton_append]
   ·rfl
  rw[hgo];cases hi:(Region.ready .any ops listed)[t%(Region.ready .any ops listed).length]? with
  | none=>
   show Region.ready .any ops listed=[]
   cases hr:Region.ready .any ops listed with
   | nil=>rfl
   | cons z zs=>
    rw[hr]at hi;have hlt:t%(z::zs).length<(z::zs).length:=Nat.mod_lt _ (by simp)
    simp at hi;simp at hlt;omega
  | some i=>exact⟨List.mem_of_getElem? hi,ih _ _⟩
theorem aY:∀ (n:Nat) (listed:Array Bool) (l:List Nat),VO ops n listed l→∀ i∈l,i<ops.size
 | 0,_,l,h,i,hi=>by rw[show l=[] from h]at hi;cases hi
 | n+1,listed,[],h,i,hi=>by cases hi
 | n+1,listed,j::r,h,i,hi=>by
  rcases List.mem_cons.1 hi with rfl|hi
  ·have:=h.1
   rw[mem_ready]at this;obtain⟨_,o,q2,_⟩:=this;exact(Array.getElem?_eq_some_iff.1 q2).1
  ·exact aY n _ r h.2 i hi
theorem zkp {i:Nat}{K K':Act→World→Prop}{a:Act}{w:World}(hK:∀ a w,K a w→K' a w)(h:wpOp P ops Q i K a w):wpOp P ops Q i K' a w:=by
 unfold wpOp at h ⊢;split at h
 ·exact hK _ _ h
 ·split at h
  ·rename_i hw
   rw[if_pos hw];rcases h with h|h
   ·exact .inl (Oper.wp_mono hK h)
   ·exact .inr h
  ·rename_i hw
   rw[if_neg hw];exact hK _ _ h
theorem nY:∀ (n:Nat) (listed:Array Bool) (l:List Nat) (a:Act) (w:World),VO ops n listed l→wpAny P .any ops Q n listed a w→wpOps P ops Q l a w
 | 0,_,l,a,w,h,hw=>by rw[show l=[] from h];exact hw.2
 | n+1,listed,[],a,w,h,hw=>hw.1 h
 | n+1,listed,i::r,a,w,h,hw=>by
  rw[wpOps_cons];exact zkp (fun a w hw=>nY n _ r a w h.2 hw) (hw.2 i h.1)
theorem zW (H:PermOk ops ix x y):∀(l:List Nat) (a:Act) (w:World),(∀i∈l,i<ops.size)→wpOps P (bD ops ix x y) Q (l.map fun i=>ix.findIdx (Nat.beq i)) a w→wpOps P ops Q l a w
 | [],_,_,_,h=>h
 | i::r,a,w,hl,h=>by
  rw[List.map_cons,wpOps_cons]at h;rw[wpOps_cons];exact zhX H (H.inv (hl i (List.mem_cons_self ..))).2 (fun a w hw=>zW H r a w (fun j hj=>hl j (List.mem_cons_of_mem _ hj)) hw) h
theorem z27 (H:PermOk ops ix x y):∀(n:Nat) (listed listed':Array Bool) (l:List Nat),listed.size=ops.size→listed'.size=ops.size→(∀k i,ix[k]?=some i→listed'.getD k false=listed.getD i false) →
 (listed.getD x false=true∨qQ x y l)→VO ops n listed l→VO (bD ops ix x y) n listed' (l.map fun i=>ix.findIdx (Nat.beq i)):=by
 intro n;have hps:(bD ops ix x y).size=ops.size:=by unfold bD;simp [H.len]
 have dflt:∀(l:Array Bool),l.size=ops.size→∀i,i<ops.size→l.getD i true=l.getD i false:=fun l hl i hi=>by simp [Array.getD,hl,hi]
 induction n with
 | zero=>intro listed listed' l _ _ _ _ h;rw[show l=[] from h];rfl
 | succ n ih=>
  intro listed listed' l hs hs' hL hB h;cases l with
  | nil=>
   have hnil:Region.ready .any ops listed=[]:=h
   show Region.ready .any (bD ops ix x y) listed'=[]
   rw[List.eq_nil_iff_forall_not_mem];intro k hk;rw[mem_ready]at hk;obtain⟨q1,o',q2,q3⟩:=hk;have hkl:k<ops.size:=by rw[←hps];exact(Array.getElem?_eq_some_iff.1 q2).1
   obtain⟨i,hki⟩:∃i,ix[k]?=some i:=⟨_,List.getElem?_eq_getElem (by rw[H.len];exact hkl)⟩
   obtain⟨o,p1,p2,p3⟩:=yW H hki;rw[p2]at q2;injection q2 with q2
   have hil:=H.lt i (List.mem_of_getElem? hki)
   have hm:i∈Region.ready .any ops listed:=by
    rw[mem_ready];refine⟨?_,o,p1,fun ed hed hbd=>?_⟩
    ·rw[dflt _ hs i hil,←hL k i hki,←dflt _ hs' k hkl];exact q1
    ·have hke:ed.on∈SC o:=List.mem_map.2 ⟨ed,List.mem_filter.2 ⟨by simpa using hed,hbd⟩,rfl⟩
     have hel:=H.ed i o p1 ed.on hke
     obtain⟨r1,r2⟩:=H.inv hel;have:=q3 ⟨ix.findIdx (Nat.beq ed.on),.data⟩ (by rw[←q2,p3];simp;exact .inl ⟨_,hke,rfl⟩) rfl
     rw[hL _ _ r2]at this;exact this
   rw[hnil]at hm;cases hm
  | cons i r=>
   obtain⟨hir,hr⟩:=h;have hmr:=hir
   rw[mem_ready]at hmr;obtain⟨q1,o,q2,q3⟩:=hmr;have hil:i<ops.size:=(Array.getElem?_eq_some_iff.1 q2).1
   obtain⟨k1,k2⟩:=H.inv hil;rw[List.map_cons];generalize hk:ix.findIdx (Nat.beq i)=k at *;obtain⟨o1,p1,p2,p3⟩:=yW H k2;rw[q2]at p1;injection p1 with p1
   subst p1;have hxl:i=y→listed.getD x false=true:=fun hy=>by
    rcases hB with hB|hB
    ·exact hB
    ·have:=hB [] r (by rw[hy];rfl)
     cases this
   have hkr:k∈Region.ready .any (bD ops ix x y) listed':=by
    rw[mem_ready];refine⟨?_,_,p2,fun ed hed hbd=>?_⟩
    ·rw[dflt _ hs' k k1,hL k i k2,←dflt _ hs i hil];exact q1
    ·rw[p3]at hed
     simp only[List.mem_toArray,List.mem_map,List.mem_append]at hed;obtain⟨j,hj,rfl⟩:=hed;rcases hj with hj|hj
     ·have hel:=H.ed i o q2 j hj
      obtain⟨r1,r2⟩:=H.inv hel;dsimp only;rw[hL _ _ r2];obtain⟨ed,he1,he2⟩:=List.mem_map.1 hj;obtain⟨he3,he4⟩:=List.mem_filter.1 he1;subst he2;exact q3 ed (by simpa using he3) he4
     ·cases hy:Nat.beq i y with
      | false=>rw[hy]at hj;cases hj
      | true=>
       rw[hy]at hj;simp only[cond_true,List.mem_singleton]at hj;subst hj;obtain⟨r1,r2⟩:=H.inv H.xl;dsimp only;rw[hL _ _ r2];exact hxl (Nat.eq_of_beq_eq_true hy)
   refine⟨hkr,ih _ _ r (by simp [hs]) (by simp [hs']) (fun k' i' hk'=>?_) ?_ hr⟩
   ·by_cases hkk:k=k'
    ·subst hkk
     rw[k2]at hk';injection hk' with hk'
     subst hk';simp [Array.getD,hs,hs',hil,k1]
    ·have hii:i≠i':=fun hii=>by
      subst hii;have a1:=List.getElem?_eq_some_iff.1 k2
      have a2:=List.getElem?_eq_some_iff.1 hk'
      obtain⟨b1,b2⟩:=a1;obtain⟨c1,c2⟩:=a2;exact hkk ((List.getElem_inj H.nd).1 (b2.trans c2.symm))
     rw[getD_set_ne false hkk,getD_set_ne false hii];exact hL k' i' hk'
   ·rcases hB with hB|hB
    ·exact .inl (getD_set_true hB)
    ·by_cases hxi:i=x
     ·subst hxi
      left;simp [Array.getD,hs,hil]
     ·right
      intro l1 l2 hl;have:=hB (i::l1) l2 (by rw[hl];rfl)
      rcases List.mem_cons.1 this with q|q
      ·exact absurd q.symm hxi
      ·exact q
theorem z6N (x y:Nat)(hxy:x≠y)(l:List Nat):qQ x y l∨qQ y x l:=by
 induction l with
 | nil=>left;intro l1 l2 h;simp at h
 | cons z l ih=>
  by_cases hx:z=x
  ·subst hx
   left;intro l1 l2 h
   cases l1 with
   | nil=>simp at h;exact absurd h.1 hxy
   | cons q r=>simp at h;simp [h.1]
  ·by_cases hy:z=y
   ·subst hy
    right;intro l1 l2 h
    cases l1 with
    | nil=>simp at h;exact absurd h.1.symm hxy
    | cons q r=>simp at h;simp [h.1]
   ·rcases ih with ih|ih
    ·left
     intro l1 l2 h;cases l1 with
     | nil=>simp at h;exact absurd h.1 hy
     | cons q r=>simp at h;exact List.mem_cons_of_mem _ (ih r l2 h.2)
    ·right
     intro l1 l2 h;cases l1 with
     | nil=>simp at h;exact absurd h.1 hx
     | cons q r=>simp at h;exact List.mem_cons_of_mem _ (ih r l2 h.2)
def pL:ACode→List Nat × ACode
 | .block i b=>(i::(pL b).1,(pL b).2)
 | c=>([],c)
theorem xW {C:Hd}:∀(c:ACode) (s:St) (K:Ex→St→Prop),AW C gl c s K→∃K':Ex→St→Prop,AW C gl (pL c).2 s K'∧∀st,K' .normal st→K .normal st
 | .block i b,s,K,H=>by
  unfold AW at H;obtain⟨K',h1,h2⟩:=xW b s _ H;exact⟨K',h1,fun st h=>h2 st h⟩
 | .skip,_,K,H=>⟨K,H,fun _ h=>h⟩
 | .reg _ _,_,K,H=>⟨K,H,fun _ h=>h⟩
 | .draw _ _,_,K,H=>⟨K,H,fun _ h=>h⟩
 | .seq _ _,_,K,H=>⟨K,H,fun _ h=>h⟩
 | .cond _ _ _,_,K,H=>⟨K,H,fun _ h=>h⟩
 | .condu _ _ _,_,K,H=>⟨K,H,fun _ h=>h⟩
 | .det _,_,K,H=>⟨K,H,fun _ h=>h⟩
 | .loop _,_,K,H=>⟨K,H,fun _ h=>h⟩
 | .scope _,_,K,H=>⟨K,H,fun _ h=>h⟩
 | .pr _ _,_,K,H=>⟨K,H,fun _ h=>h⟩
 | .exit _,_,K,H=>⟨K,H,fun _ h=>h⟩
 | .ret,_,K,H=>⟨K,H,fun _ h=>h⟩
 | .bad,_,K,H=>⟨K,H,fun _ h=>h⟩
def dM (ops:Array Oper)(x y:Nat)(ix:List Nat):Bool:=
 ix.length==ops.size&&ix.all (fun i=>decide (i<ops.size))&&(List.range ops.size).all (fun i=>ix.contains i)&&XN ix&&ops.toList.all (fun o=>o.guard.isNone&&(SC o).all fun k=>decide (k<ops.size))&&decide (x<ops.size)
theorem NY (h:dM ops x y ix=true):PermOk ops ix x y:=by
 unfold dM at h;simp only[Bool.and_eq_true,beq_iff_eq,List.all_eq_true,decide_eq_true_eq,Option.isNone_iff_eq_none]at h;obtain⟨⟨⟨⟨⟨h1,h2⟩,h3⟩,h4⟩,h5⟩,h6⟩:=h;refine⟨h1,h2,fun i hi=>?_,z2t h4,fun i o ho=>(h5 o ?_).1,fun i o ho=>(h5 o ?_).2,h6⟩
 ·have:=h3 i (List.mem_range.2 hi)
  simpa using this
 ·exact Array.mem_toList_iff.2 (Array.mem_of_getElem? ho)
 ·exact Array.mem_toList_iff.2 (Array.mem_of_getElem? ho)
def wF (P:Program)(nt:Nat):Nat→Array Oper→ACode→Bool
 | 0,_,_=>false
 | n+1,ops,c=>match c with
  | .draw ds _=>aM P nt ops ds
  | .condu t a b=>match t with
   | .c .anyb=>match pL a,pL b with
    | (x::y::ixA,ca),(y'::x'::ixB,cb)=>Nat.beq x x'&&Nat.beq y y' && !Nat.beq x y&&dM ops x y ixA&&dM ops y x ixB&&wF P nt n (bD ops ixA x y) ca&&wF P nt n (bD ops ixB y x) cb
    | _,_=>false
   | _=>false
  | _=>false
theorem nX {C:Hd}(hC:∀ f a h K,C f a h K→EB P gl f a h K):∀(n:Nat) (ops:Array Oper) (c:ACode) (s:St) (K:Ex→St→Prop) (a:Act) (w:World),wF P nt n ops c=true→AW C gl c s K→Rel gl nt M0 h0 μ0 s.env s.h s.esc a w μ →
 (∀(keep:Option (List Nat)) e h x a w μ,K .normal ⟨zA keep e,h,x⟩→Rel gl nt M0 h0 μ0 e h x a w μ→Q .normal a w)→∀l,VO ops ops.size (Array.replicate ops.size false) l→wpOps P ops Q l a w
 | 0,ops,c,s,K,a,w,hc,_,_,_,_,_=>by cases hc
 | n+1,ops,c,s,K,a,w,hc,H,R,fin,l,hl=>by
  cases c;case draw ds keep=>
   unfold wF at hc;unfold AW at H;exact nY _ _ l a w hl (CZ hC (Q:=Q) hc H R (fin keep))
  case condu t c1 c2=>
   unfold wF at hc;dsimp only at hc;split at hc
   ·split at hc
    ·rename_i x y ixA ca y' x' ixB cb pa pb
     simp only[Bool.and_eq_true,Bool.not_eq_true']at hc;obtain⟨⟨⟨⟨⟨⟨e1,e2⟩,e3⟩,e4⟩,e5⟩,e6⟩,e7⟩:=hc;have e1:=Nat.eq_of_beq_eq_true e1
     have e2:=Nat.eq_of_beq_eq_true e2
     subst e1;subst e2
     have hxy:x≠y:=fun hh=>by rw[hh,Nat.beq_refl]at e3;cases e3
     unfold AW at H;simp only[Opd.ev]at H;obtain⟨KA,HA,fA⟩:=xW c1 s K H.1;obtain⟨KB,HB,fB⟩:=xW c2 s K H.2;rw[pa]at HA;rw[pb]at HB;have pA:=NY e4
     have pB:=NY e5
     have rep:∀(ix:List Nat) k i,ix[k]?=some i→(Array.replicate ops.size false).getD k false=(Array.replicate ops.size false).getD i false:=fun ix k i _=>by simp [Array.getD]
     have szA:(bD ops ixA x y).size=ops.size:=by unfold bD;simp [pA.len]
     have szB:(bD ops ixB y x).size=ops.size:=by unfold bD;simp [pB.len]
     have hlt:=aY _ _ l hl
     rcases z6N x y hxy l with hb|hb
     ·have hv:=z27 pA ops.size _ _ l (by simp) (by simp) (rep ixA) (.inr hb) hl
      have:=nX hC n _ ca s KA a w e6 HA R (fun keep e h x a w μ hk R'=>fin keep e h x a w μ (fA _ hk) R') _ (by rw[szA];exact hv)
      exact zW pA l a w hlt this
     ·have hv:=z27 pB ops.size _ _ l (by simp) (by simp) (rep ixB) (.inr hb) hl
      have:=nX hC n _ cb s KB a w e7 HB R (fun keep e h x a w μ hk R'=>fin keep e h x a w μ (fB _ hk) R') _ (by rw[szB];exact hv)
      exact zW pB l a w hlt this
    ·cases hc
   ·cases hc
  all_goals (unfold wF at hc;cases hc)
theorem zkb (hm:P.follows .mixedOrders=true){C:Hd}(hC:∀ f a h K,C f a h K→EB P gl f a h K){n id:Nat}{c:ACode}{s:St}{K:Ex→St→Prop}{a:Act}{w:World}(hc:wF P nt n ops c=true)(H:AW C gl c s K)
 (R:Rel gl nt M0 h0 μ0 s.env s.h s.esc a { w with drawn:=w.drawn+1 } μ) (fin:∀(keep:Option (List Nat)) e h x a w μ,K .normal ⟨zA keep e,h,x⟩→Rel gl nt M0 h0 μ0 e h x a w μ→Q .normal a w):(Code.region id ops true).wp P Q a w:=by
 refine wp_region_draw fun t=>?_
 simp only[Region.schedule,hm,Bool.true_or,if_true];exact nX hC n ops c s K a _ hc H R fin _ (z5m ops ops.size t _)
def OY (P:Program)(nt:Nat)(ops:Array Oper)(t:Opd)(a b:ACode):Bool:=wF P nt 9 ops (.condu t a b)
end Go.Am
end
section
/- The abstract machine,part 21: code. -/
set_option linter.unusedSimpArgs false
set_option linter.unusedVariables false
set_option maxHeartbeats 1000000
namespace Go.Am
variable {h h':aA} {μ μ':Mu} {w w':World} {P:Program} {M M':Mem}
variable {gl:Nat→Option PV} {nt:Nat} {M0:Mem} {h0:aA} {μ0:Mu} {e:List (Nat × AV)} {x:Esc} {a:Act}
theorem zeV (H:HeapRel h μ w){id:Nat}{o:Obj}(ho:h[id]?=some o):o.top≤h.length:=by
 obtain⟨m,hm,hO⟩:=iE H ho;cases o with
 | box cs=>
  obtain⟨b,c,rfl,hb,hc⟩:=hO;exact AY H hc
 | row sh xs fz=>simp [Obj.top]
 | amap es c=>
  obtain⟨b,n,ces,rfl,h1,h2,_,h3⟩:=hO;refine iG (fun j y hy=>?_)
  simp only[List.getElem?_map,Option.map_eq_some_iff]at hy;obtain⟨en,he,rfl⟩:=hy;have hj:j<ces.size:=by rw[h2];exact tA he
  exact(h3 j en ces[j] he (Array.getElem?_eq_getElem hj)).2.2.1.top_le
 | iter mm s seen l=>
  obtain⟨b,n,rfl,h1⟩:=hO;cases mm with
  | none=>simp [Obj.top]
  | some i=>
   obtain⟨bm,nm,es,c,h2,h3,h4⟩:=h1;simp only[Obj.top];exact tA h3
 | arow sh cs=>
  obtain⟨h1,h2⟩:=hO;cases m with
  | none=>subst h2;simp [Obj.top,AV.tops]
  | some m=>
   obtain⟨b,n⟩:=m;obtain⟨c,c1,c2,c3⟩:=h2;refine iG (fun j y hy=>?_)
   obtain⟨v,_,q⟩:=c3 j y hy;exact q.top_le
theorem mX (H:HeapRel h μ w)(id:Nat):DD h id≤h.length:=by
 unfold DD;split
 ·exact zeV H ‹_›
 ·omega
theorem z7q (y:Esc)(n:Nat):n≤GJ y n:=by
 unfold GJ;induction y generalizing n with
 | nil=>simp
 | cons p r ih=>
  simp only[List.foldl_cons];split
  ·exact Nat.le_trans (by omega) (ih _)
  ·exact ih _
theorem fM:∀ (k:Nat) (y:Esc) (n:Nat),n≤QB k y n
 | 0,y,n=>Nat.le_refl _
 | k+1,y,n=>Nat.le_trans (z7q y n) (fM k y _)
theorem Evo.take {M'':Mem}(E:Evo M h μ M' h' μ'){n:Nat}(hn:h.length≤n)(L:M'.le M''):Evo M h μ M'' (h'.take n) (μ'.take n):=by
 refine⟨⟨fun b o v hv=>L.c _ _ _ (E.le.c _ _ _ hv),fun b o hv=>L.b _ _ (E.le.b _ _ hv),L.z.trans E.le.z,fun b t h=>L.s _ _ (E.le.s _ _ h)⟩,by have:=E.len;simp;omega,fun id o m h1 h2=>?_⟩
 obtain⟨o',m',h3,h4,h5⟩:=E.obj id o m h1 h2;have hi:id<n:=Nat.lt_of_lt_of_le (tA h1) hn
 exact⟨o',m',by rw[List.getElem?_take,if_pos hi];exact h3,by rw[List.getElem?_take,if_pos hi];exact h4,h5⟩
theorem gQ {hs:aA}{μs:Mu}{Ms:Mem}{es:Esc}(Hs:∀ id,DD hs id≤hs.length)(H:HeapRel h μ w)(E:Evo Ms hs μs (imm h μ w) h μ)(I:mA hs h es){n:Nat}(hn:hs.length≤n)(hc:BB es n=true) :
 HeapRel (h.take n) (μ.take n) w∧(imm h μ w).le (imm (h.take n) (μ.take n) w)∧Evo Ms hs μs (imm (h.take n) (μ.take n) w) (h.take n) (μ.take n)∧mA hs (h.take n) (es.filter fun y=>decide (y.1<n)):=by
 have ht:∀id o,h[id]?=some o→id<n→o.top≤n:=by
  intro id o ho hi;have h1:=I id o ho
  have h2:=Hs id
  have h3:=NZ hc hi
  omega
 obtain⟨H1,L⟩:=H.take n ht;refine⟨H1,L,E.take hn L,fun id o ho=>?_⟩
 rw[List.getElem?_take]at ho;split at ho
 ·rename_i hi
  rw[OZ hi];exact I id o ho
 ·cases ho
theorem z65 (n:Nat)(e:List (Nat × AV))(t:Nat):bA (SE n e) t=if(bA e t).top≤n then bA e t else .und:=by
 induction e with
 | nil=>simp [SE,bA,AV.top]
 | cons y r ih=>
  simp only[SE,List.map_cons,bA]at ih ⊢;split
  ·rfl
  ·exact ih
theorem XL (keep:Option (List Nat))(e:List (Nat × AV))(t:Nat):bA (zA keep e) t=bA e t∨bA (zA keep e) t = .und:=by
 cases keep with
 | none=>exact .inl rfl
 | some l=>
  simp only[zA];induction l with
  | nil=>exact .inr rfl
  | cons k r ih=>
   simp only[List.map_cons,bA];split
   ·rename_i hk;subst hk;exact .inl rfl
   ·exact ih
theorem zjZ {x0:Esc}{s:St}{hs:aA}{μs:Mu}{ws:World}{e0:List (Nat × AV)}{a0:Act}(R:Rel gl nt M0 h0 μ0 e0 hs x0 a0 ws μs)(R':Rel gl nt (imm hs μs ws) hs μs s.env s.h s.esc a w μ) :
 ∃μ',Rel gl nt M0 h0 μ0 (WD hs.length x0 s).env (WD hs.length x0 s).h (WD hs.length x0 s).esc a w μ':=by
 unfold WD;dsimp only;split
 ·rename_i hc
  have hn:=fM s.esc.length s.esc hs.length
  generalize QB s.esc.length s.esc hs.length=n at hc hn;obtain⟨q1,q2,q3,q4⟩:=gQ (fun id=>mX R.heap id) R'.heap R'.evo R'.esc hn hc
  refine⟨μ.take n,q1,fun t=>?_,R'.glob.mono q2,R.evo.trans q3,mA.trans R.esc q4,R'.size,R'.defers⟩
  dsimp only;rw[z65];split
  ·exact(R'.env t).take q2 ‹_›
  ·exact .und _
 ·exact⟨μ,R'.heap,R'.env,R'.glob,R.evo.trans R'.evo,mA.trans R.esc R'.esc,R'.size,R'.defers⟩
theorem Rel.drew (R:Rel gl nt M0 h0 μ0 e h x a w μ)(n:Nat):Rel gl nt M0 h0 μ0 e h x a { w with drawn:=n } μ:=by
 obtain⟨h1,h2⟩:=R.heap.ext (WExt.drew w n);exact⟨h1,fun t=>(R.env t).evo h2,R.glob.mono h2.le,R.evo.trans h2,R.esc,R.size,R.defers⟩
def CB (P:Program)(nt:Nat):ACode→Code→Bool
 | .skip,c=>match c with
  | .skip=>true
  | _=>false
 | .reg aops _,c=>match c with
  | .region _ ops false=>RE P nt ops aops 0
  | _=>false
 | .draw ds _,c=>match c with
  | .region _ ops true=>aM P nt ops ds
  | _=>false
 | .seq a b,c=>match c with
  | .seq a' b'=>CB P nt a a'&&CB P nt b b'
  | _=>false
 | .cond t a b,c=>match c with
  | .cond t' a' b'=>xA t t'&&CB P nt a a'&&CB P nt b b'
  | _=>false
 | .det b,c=>CB P nt b c
 | .condu t a b,c=>match c with
  | .cond t' a' b'=>xA t t'&&CB P nt a a'&&CB P nt b b'
  | .region _ ops true=>OY P nt ops t a b
  | _=>false
 | .block i b,c=>match c with
  | .block i' b'=>i==i'&&CB P nt b b'
  | _=>false
 | .loop b,c=>match c with
  | .loop b'=>CB P nt b b'
  | _=>false
 | .scope b,c=>CB P nt b c
 | .pr _ b,c=>CB P nt b c
 | .exit i,c=>match c with
  | .exit i'=>i==i'
  | _=>false
 | .ret,c=>match c with
  | .ret=>true
  | _=>false
 | .bad,_=>true
def Ex.toExit:Ex→Exit
 | .normal=>.normal
 | .exit i=>.exit i
 | .ret=>.ret
theorem z6C {M:Mem}{h:aA}{μ:Mu}{x:Value}(R:RAV M h μ .anyb x):∃b,x = .bool b:=by
 cases R with|anyb b=>exact⟨b,rfl⟩
theorem iD (hm:P.follows .mixedOrders=true){C:Hd}(hC:∀ f a h K,C f a h K→EB P gl f a h K):∀(c:ACode) {k:Code},CB P nt c k=true→∀{s:St} {K:Ex→St→Prop} {M0:Mem} {h0:aA} {μ0:Mu} {a:Act} {w:World} {μ:Mu} {Q:Exit→Act→World→Prop},
 AW C gl c s K→Rel gl nt M0 h0 μ0 s.env s.h s.esc a w μ→(∀ex s' a' w' μ',K ex s'→Rel gl nt M0 h0 μ0 s'.env s'.h s'.esc a' w' μ'→Q ex.toExit a' w')→k.wp P Q a w
 | .skip,k,hc,s,K,M0,h0,μ0,a,w,μ,Q,H,R,hQ=>by
  simp only[CB]at hc;split at hc
  ·exact wp_skip (hQ .normal _ _ _ _ H R)
  ·cases hc
 | .reg aops keep,k,hc,s,K,M0,h0,μ0,a,w,μ,Q,H,R,hQ=>by
  simp only[CB]at hc;split at hc
  ·rename_i id ops
   refine wp_region ?_;have:=EE hC aops 0 (Q:=Q) hc H R (fun e h x a w μ hk R'=>hQ .normal ⟨zA keep e,h,x⟩ a w μ hk ⟨R'.heap,fun t=>?_,R'.glob,R'.evo,R'.esc,R'.size,R'.defers⟩)
   ·rwa [Nat.sub_zero,←List.range_eq_range']at this
   ·rcases XL keep e t with q|q
    ·rw[q];exact R'.env t
    ·rw[q];exact .und _
  ·cases hc
 | .draw ds keep,k,hc,s,K,M0,h0,μ0,a,w,μ,Q,H,R,hQ=>by
  simp only[CB]at hc;split at hc
  ·rename_i id ops
   refine wp_region_any hm ?_;exact CZ hC (Q:=Q) hc H (R.drew _) (fun e h x a w μ hk R'=>hQ .normal ⟨zA keep e,h,x⟩ a w μ hk ⟨R'.heap,fun t=>(by
    rcases XL keep e t with q|q
    ·rw[q];exact R'.env t
    ·rw[q];exact .und _),R'.glob,R'.evo,R'.esc,R'.size,R'.defers⟩)
  ·cases hc
 | .seq c1 c2,k,hc,s,K,M0,h0,μ0,a,w,μ,Q,H,R,hQ=>by
  simp only[CB]at hc;split at hc
  ·simp only[Bool.and_eq_true]at hc
   refine wp_seq (iD hm hC c1 hc.1 H R (fun ex s' a' w' μ' hk R'=>?_))
   cases ex with
   | normal=>exact iD hm hC c2 hc.2 hk R' hQ
   | exit i=>exact hQ (.exit i) _ _ _ _ hk R'
   | ret=>exact hQ .ret _ _ _ _ hk R'
  ·cases hc
 | .det c,k,hc,s,K,M0,h0,μ0,a,w,μ,Q,H,R,hQ=>by
  simp only[CB]at hc;exact iD hm hC c hc H R hQ
 | .condu t c1 c2,k,hc,s,K,M0,h0,μ0,a,w,μ,Q,H,R,hQ=>by
  simp only[CB]at hc;split at hc
  ·simp only[Bool.and_eq_true]at hc
   unfold AW at H;split at H
   ·rename_i b hb
    have ht:=R.opds _ _ hc.1.1
    rw[hb]at ht;refine wp_cond ht.p_bool ?_;cases b with
    | true=>exact iD hm hC c1 hc.1.2 H R hQ
    | false=>exact iD hm hC c2 hc.2 H R hQ
   ·rename_i hb
    have ht:=R.opds _ _ hc.1.1
    rw[hb]at ht;obtain⟨g1,g2⟩:=H;obtain⟨b,hb'⟩:=z6C ht;refine wp_cond hb' ?_;cases b with
    | true=>exact iD hm hC c1 hc.1.2 g1 R hQ
    | false=>exact iD hm hC c2 hc.2 g2 R hQ
   ·exact H.elim
  ·rename_i id ops
   unfold OY at hc;exact zkb hm hC (Q:=Q) hc H (R.drew _) fun keep e h x a w μ hk R'=>hQ .normal ⟨zA keep e,h,x⟩ a w μ hk ⟨R'.heap,fun t=>(by
    rcases XL keep e t with q|q
    ·rw[q];exact R'.env t
    ·rw[q];exact .und _),R'.glob,R'.evo,R'.esc,R'.size,R'.defers⟩
  ·cases hc
 | .cond t c1 c2,k,hc,s,K,M0,h0,μ0,a,w,μ,Q,H,R,hQ=>by
  simp only[CB]at hc;split at hc
  ·simp only[Bool.and_eq_true]at hc
   unfold AW at H;split at H
   ·rename_i b hb
    have ht:=R.opds _ _ hc.1.1
    rw[hb]at ht;refine wp_cond ht.p_bool ?_;cases b with
    | true=>exact iD hm hC c1 hc.1.2 H R hQ
    | false=>exact iD hm hC c2 hc.2 H R hQ
   ·exact H.elim
  ·cases hc
 | .block i c,k,hc,s,K,M0,h0,μ0,a,w,μ,Q,H,R,hQ=>by
  simp only[CB]at hc;split at hc
  ·simp only[Bool.and_eq_true,beq_iff_eq]at hc
   obtain⟨rfl,hc⟩:=hc;refine wp_block (iD hm hC c hc H R (fun ex s' a' w' μ' hk R'=>?_))
   cases ex with
   | normal=>exact hQ .normal _ _ _ _ hk R'
   | exit j=>
    simp only[Ex.toExit,Exit.inBlock];dsimp only at hk;split
    ·rename_i hj;rw[if_pos hj]at hk;exact hQ .normal _ _ _ _ hk R'
    ·rename_i hj;rw[if_neg hj]at hk;exact hQ (.exit j) _ _ _ _ hk R'
   | ret=>exact hQ .ret _ _ _ _ hk R'
  ·cases hc
 | .loop c,k,hc,s,K,M0,h0,μ0,a,w,μ,Q,H,R,hQ=>by
  simp only[CB]at hc;split at hc
  ·rename_i b'
   intro b k cs;have key:∀(s:St),ALoop (AW C gl c) K s→∀(a:Act) (w:World) (μ:Mu),Rel gl nt M0 h0 μ0 s.env s.h s.esc a w μ →
    ∃e a' w',Q e a' w'∧Arrives P (lone (b.at a (.code b' :: .inLoop b'::k)) cs w) b k cs e a' w':=by
    intro s H;induction H with
    | mk s T hT hn he hr ih=>
     intro a w μ R;obtain⟨e,a1,w1,hq,harr⟩:=iD hm hC c hc (Q:=fun e a' w'=>match e with
      | .normal=>∃s' μ',T .normal s'∧Rel gl nt M0 h0 μ0 s'.env s'.h s'.esc a' w' μ'
      | e=>Q e a' w') hT R (fun ex s' a' w' μ' hk R'=>by
       cases ex with
       | normal=>exact⟨s',μ',hk,R'⟩
       | exit i=>exact hQ (.exit i) _ _ _ _ (he _ _ hk) R'
       | ret=>exact hQ .ret _ _ _ _ (hr _ hk) R') b (.inLoop b'::k) cs
     cases e with
     | normal=>
      obtain⟨s',μ',hk,R'⟩:=hq;obtain⟨e2,a2,w2,hq2,harr2⟩:=ih s' hk a1 w1 μ' R';exact⟨e2,a2,w2,hq2,.of_steps (Steps.trans harr (.one step_inLoop)) harr2⟩
     | exit id=>exact⟨_,a1,w1,hq,.pass (x:=.inLoop b') rfl (fun _ _=>.inl (by simp)) harr⟩
     | goto l=>exact⟨_,a1,w1,hq,.pass (x:=.inLoop b') rfl (fun _ _=>.inl (by simp)) harr⟩
     | ret=>exact⟨_,a1,w1,hq,.pass (x:=.inLoop b') rfl (fun _ _=>.inl (by simp)) harr⟩
     | panic ch=>exact⟨_,a1,w1,hq,.pass (x:=.inLoop b') rfl (fun _ _=>.inl (by simp)) harr⟩
     | outgrown=>exact⟨_,a1,w1,hq,.pass (x:=.inLoop b') rfl (fun _ _=>.inl (by simp)) harr⟩
   obtain⟨e,a',w',hq,harr⟩:=key s H a w μ R;exact⟨e,a',w',hq,.of_steps (.one step_loop) harr⟩
  ·cases hc
 | .scope c,k,hc,s,K,M0,h0,μ0,a,w,μ,Q,H,R,hQ=>by
  simp only[CB]at hc;refine iD hm hC c hc (M0:=imm s.h μ w) (h0:=s.h) (μ0:=μ) H ⟨R.heap,R.env,R.glob,Evo.refl _ _ _,mA.refl _ _,R.size,R.defers⟩ (fun ex s' a' w' μ' hk R'=>?_)
  obtain⟨μ'',R''⟩:=zjZ R R';exact hQ ex _ _ _ _ hk R''
 | .pr l c,k,hc,s,K,M0,h0,μ0,a,w,μ,Q,H,R,hQ=>by
  simp only[CB]at hc;refine iD hm hC c hc H ⟨R.heap,fun t=>?_,R.glob,R.evo,R.esc,R.size,R.defers⟩ hQ
  dsimp only;rcases XL (some l) s.env t with q|q
  ·rw[q];exact R.env t
  ·rw[q];exact .und _
 | .exit i,k,hc,s,K,M0,h0,μ0,a,w,μ,Q,H,R,hQ=>by
  simp only[CB]at hc;split at hc
  ·simp only[beq_iff_eq]at hc
   subst hc;exact wp_exit (hQ (.exit i) _ _ _ _ H R)
  ·cases hc
 | .ret,k,hc,s,K,M0,h0,μ0,a,w,μ,Q,H,R,hQ=>by
  simp only[CB]at hc;split at hc
  ·exact wp_ret (hQ .ret _ _ _ _ H R)
  ·cases hc
 | .bad,k,hc,s,K,M0,h0,μ0,a,w,μ,Q,H,R,hQ=>H.elim
end Go.Am
end
section
/- The abstract machine,part 22: results,calls;a call that ends well here ends well in the model. -/
set_option linter.unusedSimpArgs false
set_option linter.unusedVariables false
set_option maxHeartbeats 1000000
namespace Go.Am
variable {h h':aA} {μ μ':Mu} {w w':World} {P:Program} {M M':Mem}
variable {gl:Nat→Option PV} {nt:Nat} {M0:Mem} {h0:aA} {μ0:Mu} {e:List (Nat × AV)} {x:Esc} {a:Act}
def sC (P:Program):List ARes→List ResultVar→Bool
 | [],[]=>true
 | .t n::r,.tmp m::s=>n==m&&sC P r s
 | .o n::r,.tmp m::s=>n==m&&sC P r s
 | .cell n sh::r,.cell m t::s=>n==m&&PA P t==some sh&&sC P r s
 | _,_=>false
def gJ (tmps:Array Value):ResultVar→Sem Value
 | .tmp t=>pure (tmps.getD t undef)
 | .cell a t=>do loadVar t (←asAddr (tmps.getD a undef))
theorem RP {s:St}(H:HeapRel s.h μ w)(he:∀ t,RAV (imm s.h μ w) s.h μ (bA s.env t) (a.tmps.getD t undef)):∀{rs:List ARes} {qs:List ResultVar} {vs:List AV},sC P rs qs=true→lC s rs=some vs →
 ∃us,(qs.mapM (gJ a.tmps)).run P w = .ok us w∧vs.length=us.length∧∀(j:Nat) (y:AV) (v:Value),vs[j]?=some y→us[j]?=some v→RAV (imm s.h μ w) s.h μ y v
 | [],[],vs,_,hv=>by
  simp [lC]at hv;subst hv;exact⟨[],by simp,rfl,fun j y v h1 h2=>by simp at h1⟩
 | [],_::_,_,hc,_=>by simp [sC]at hc
 | .t n::r,[],_,hc,_=>by simp [sC]at hc
 | .o n::r,[],_,hc,_=>by simp [sC]at hc
 | .o n::r,.cell _ _::q,_,hc,_=>by simp [sC]at hc
 | .cell n sh::r,[],_,hc,_=>by simp [sC]at hc
 | .t n::r,.cell _ _::q,_,hc,_=>by simp [sC]at hc
 | .cell n sh::r,.tmp _::q,_,hc,_=>by simp [sC]at hc
 | .t n::r,.tmp m::q,vs,hc,hv=>by
  simp only[sC,Bool.and_eq_true,beq_iff_eq]at hc;obtain⟨rfl,hc⟩:=hc;simp only[lC,FJ]at hv;simp only[Option.map_eq_some_iff]at hv;obtain⟨l,hl,rfl⟩:=hv;obtain⟨us,h1,h2,h3⟩:=RP H he hc hl;refine⟨a.tmps.getD n undef::us,by simp [gJ,h1],by simp [h2],fun j y v hy hv=>?_⟩
  cases j with
  | zero=>simp at hy hv;subst hy;subst hv;simpa using he n
  | succ j=>exact h3 j y v (by simpa using hy) (by simpa using hv)
 | .o n::r,.tmp m::q,vs,hc,hv=>by
  simp only[sC,Bool.and_eq_true,beq_iff_eq]at hc;obtain⟨rfl,hc⟩:=hc;simp only[lC,FJ]at hv;simp only[Option.map_eq_some_iff]at hv;obtain⟨l,hl,rfl⟩:=hv;obtain⟨us,h1,h2,h3⟩:=RP H he hc hl;refine⟨a.tmps.getD n undef::us,by simp [gJ,h1],by simp [h2],fun j y v hy hv=>?_⟩
  cases j with
  | zero=>simp at hy hv;subst hy;subst hv;simpa using he n
  | succ j=>exact h3 j y v (by simpa using hy) (by simpa using hv)
 | .cell n sh::r,.cell m t::q,vs,hc,hv=>by
  simp only[sC,Bool.and_eq_true,beq_iff_eq]at hc;obtain⟨⟨rfl,hs⟩,hc⟩:=hc;simp only[lC]at hv;split at hv
  ·rename_i u hu
   simp only[Option.map_eq_some_iff]at hv;obtain⟨l,hl,rfl⟩:=hv;obtain⟨us,h1,h2,h3⟩:=RP H he hc hl;simp only[FJ]at hu;split at hu
   ·rename_i id off hr
    split at hu
    ·rename_i cs ho
     have hR:=he n
     rw[hr]at hR;generalize hz:a.tmps.getD n undef=z at hR;cases hR with|ref _ _ b k cs' ho' hm=>
     obtain⟨b',c,hm',hb,hcell⟩:=H.obj _ _ _ ho hm;injection hm' with hm'
     injection hm' with e1 e2
     subst e1;obtain⟨c1,c2⟩:=kM (M:=imm s.h μ w) (h:=s.h) (μ:=μ) (f:=fun j=>(c[j]?).getD undef) hu (fun j x hx=>by obtain⟨_,v,q1,q2⟩:=hcell j x hx;simpa [q1] using q2)
     have hload:(loadVar t ⟨b,off,none⟩).run P w = .ok (oC sh fun j=>(c[off+j]?).getD undef) w:=by
      refine z3j hs (fun j hj=>?_)
      rw[PC hb];have hlt:off+j<c.size:=by rw[hb.1];have:=c1;omega
      simp [hlt]
     refine⟨(oC sh fun j=>(c[off+j]?).getD undef)::us,?_,by simp [h2],fun j y v hy hv=>?_⟩
     ·simp only[List.mapM_cons,Sem.run_bind,gJ,hz,asAddr]
      simp [hload,h1]
     ·cases j with
      | zero=>simp at hy hv;subst hy;subst hv;exact c2
      | succ j=>exact h3 j y v (by simpa using hy) (by simpa using hv)
    ·cases hu
   ·cases hu
  ·cases hv
theorem z2T {fn:Func}{s:St}(H:HeapRel s.h μ w)(he:∀ t,RAV (imm s.h μ w) s.h μ (bA s.env t) (a.tmps.getD t undef)){rs:List ARes}{vs:List AV}(hc:sC P rs fn.results.toList=true)(hv:lC s rs=some vs) :
 ∃u,(results fn a.tmps).run P w = .ok u w∧RAV (imm s.h μ w) s.h μ (JA vs) u:=by
 obtain⟨us,h1,h2,h3⟩:=RP H he hc hv;have hm:(fn.results.mapM (gJ a.tmps)).run P w = .ok us.toArray w:=by
  rw[Array.mapM_eq_mapM_toList];simp [h1]
 refine⟨if hz:us.toArray.size=1 then us.toArray[0] else .tuple us.toArray,?_,?_⟩
 ·unfold results
  rw[Sem.run_bind];show(Sem.run P (fn.results.mapM (gJ a.tmps)) w).andThen _=_
  rw[hm];rfl
 ·match vs,us,h2,h3 with
  | [v],[u],_,h3=>exact h3 0 v u rfl rfl
  | [],[],_,h3=>exact .tup [] [] rfl (fun j y v h1 h2=>by simp at h1)
  | a::b::r,c::d::q,h2,h3=>exact .tup _ (c::d::q) h2 h3
theorem z23 (H:HeapRel h μ w){n:Nat}(L:(imm h μ w).le (imm (h.take n) (μ.take n) w)){id g off len:Nat}{x:Value}{sh:Sh}{xs:List PV}(R:RAV (imm h μ w) h μ (.own id g off len) x)(hr:rd h (.own id g off len)=some (sh,xs))
 (hn:n≤id):RPV (imm (h.take n) (μ.take n) w) (.sl sh xs) x:=by
 obtain⟨ys,fz,ho,hc1,hc2,hr⟩:=GW hr;obtain⟨_,g2,a,cap,rfl,g3,g4⟩:=CE H R ho hc1;have hlen:xs.length=len:=by rw[hr];exact lQ hc2
 by_cases hne:xs=[]
 ·have hl0:len=0:=by rw[←hlen,hne];rfl
  rw[hne,hl0];exact .nils _ _ _
 ·have hpos:0<xs.length:=List.length_pos_iff.2 hne
  obtain⟨b,m,c,hm,ha,hB,hn1,hn2,hcells⟩:=g4 (by omega)
  have he:∀x∈xs,x.cells.length=gA sh:=fun x hx=>MB (g2 x (nG (hr ▸ hx)))
  have hcell:∀(j:Nat) (y:PV),(xs.flatMap PV.cells)[j]?=some y→∃v,c[off*gA sh+j]?=some v∧RPV (imm h μ w) y v:=by
   intro j y hy;obtain⟨x,h5,h6,h8,h7⟩:=bF he hy;rw[hr]at h5;have h9:=kQ h5
   have h10:=hcells _ _ x y h9.2 h6
   rw[show(off+j / gA sh)*gA sh+j%gA sh=off*gA sh+j by rw[Nat.add_mul];omega]at h10
   exact h10
  subst ha;have key:RPV (imm (h.take n) (μ.take n) w) (.sl sh xs) (.slice (some ⟨b,off*gA sh,none⟩) xs.length cap):=by
   refine .sl sh xs b (off*gA sh) cap (fun j=>(c[off*gA sh+j]?).getD undef) hne (by omega) (fun x hx=>g2 x (nG (hr ▸ hx))) (fun j y hy=>?_) (fun j y hy=>?_)
   ·obtain⟨v,h5,h6⟩:=hcell j y hy
    refine tC.2 ⟨?_,by rw[PC hB,h5];simp [h5]⟩
    rintro⟨i,n',h8,h9⟩
    rw[List.getElem?_take]at h8;split at h8
    ·have:=H.distinct i id b n' m h8 hm
     omega
    ·cases h8
   ·obtain⟨v,h5,h6⟩:=hcell j y hy
    have:(c[off*gA sh+j]?).getD undef=v:=by simp [h5]
    simp only[this];exact h6.mono L
  rwa [hlen]at key
theorem z2I (H:HeapRel h μ w){n:Nat}(L:(imm h μ w).le (imm (h.take n) (μ.take n) w)):∀(cs:List AV) {vs:List PV},(∀x∈cs,x.sc=true)→sL n h cs=some vs →
 vs.length=cs.length∧(∀x∈vs,x.sc=true)∧∀(j:Nat) (y:AV) (z:PV) (v:Value),cs[j]?=some y→vs[j]?=some z→RAV (imm h μ w) h μ y v→RPV (imm (h.take n) (μ.take n) w) z v
 | [],vs,_,e=>by
  simp [sL]at e;subst e;exact⟨rfl,by simp,fun j y z v hy=>by simp at hy⟩
 | a::r,vs,hs,e=>by
  simp only[sL]at e;split at e;case h_2=>cases e
  rename_i x hx;simp only[Option.map_eq_some_iff]at e;obtain⟨xs,h1,rfl⟩:=e;obtain⟨q1,q2,q3⟩:=z2I H L r (fun x hx=>hs x (by simp [hx])) h1
  have hsa:=hs a (by simp)
  have key:x.sc=true∧∀v,RAV (imm h μ w) h μ a v→RPV (imm (h.take n) (μ.take n) w) x v:=by
   unfold rd0 at hx;split at hx
   ·injection hx with hx;subst hx;exact⟨hsa,fun v R=>R.p_inv.mono L⟩
   ·injection hx with hx;subst hx;exact⟨rfl,fun v R=>by obtain⟨a,rfl⟩:=sJ R;exact .nils _ _ _⟩
   ·injection hx with hx;subst hx;exact⟨rfl,fun v R=>by cases R;exact .nilp⟩
   ·split at hx
    ·rename_i hn
     simp only[Option.map_eq_some_iff]at hx;obtain⟨⟨sh,ys⟩,h1,rfl⟩:=hx;exact⟨rfl,fun v R=>z23 H L R h1 hn⟩
    ·cases hx
   ·cases hx
  refine⟨by simp [q1],fun y hy=>?_,fun j y z v hy hz R=>?_⟩
  ·rcases List.mem_cons.1 hy with rfl|hy
   ·exact key.1
   ·exact q2 y hy
  ·cases j with
   | zero=>simp at hy hz;subst hy;subst hz;exact key.2 v R
   | succ j=>exact q3 j y z v (by simpa using hy) (by simpa using hz) R
theorem z6J (H:HeapRel h μ w){n:Nat}(L:(imm h μ w).le (imm (h.take n) (μ.take n) w)){t id g:Nat}{x:Value}{u:AV}(R:RAV (imm h μ w) h μ (.bt 3 t id g) x)(hr:rdA n h id g=some u)
 (hn:n≤id):RAV (imm (h.take n) (μ.take n) w) (h.take n) (μ.take n) u x:=by
 unfold rdA at hr;split at hr;case h_2=>cases hr
 rename_i sh cs ho;split at hr;case isFalse=>cases hr
 rename_i hg;simp only[Option.map_eq_some_iff]at hr;obtain⟨vs,h1,rfl⟩:=hr;cases R with|bt3 _ _ _ a cap o m hl ho' hm hv=>
 rw[ho]at ho';injection ho' with ho'
 obtain⟨hv1,hv2⟩:=hv sh cs ho'.symm;have hO:=hv2 hg
 obtain⟨k1,k2⟩:=H.obj id _ m ho hm;obtain⟨q1,q2,q3⟩:=z2I H L cs k1 h1;obtain⟨s1,s2,s3⟩:=QY (sh:=sh) (g:=g) (vs:=vs) (by rw[q1,hg]) q2
 by_cases hz:g=0
 ·subst hz
  have hxs:fC sh 0 vs=[]:=List.length_eq_zero_iff.1 s1
  rw[hxs];exact .p _ _ (.nils _ _ _)
 ·have hm2:∃b k c,m=some (b,k)∧a=some ⟨b,0,none⟩∧QA w b k c∧∀(j:Nat) (x:AV),cs[j]?=some x→∃v,c[j]?=some v∧RAV (imm h μ w) h μ x v:=by
   cases m with
   | none=>simp [pE]at hO;omega
   | some m=>
    obtain⟨b,k⟩:=m;obtain⟨c,c1,c2,c3⟩:=k2;rcases hO with q|q
    ·omega
    ·exact⟨b,k,c,rfl,by rw[q.1,Nat.zero_mul],c1,c3⟩
  obtain⟨b,k,c,rfl,rfl,hB,hcells⟩:=hm2;have he:∀x∈fC sh g vs,x.cells.length=gA sh:=fun x hx=>MB (s2 x hx)
  have hcell:∀(j:Nat) (y:PV),((fC sh g vs).flatMap PV.cells)[j]?=some y→∃v,c[j]?=some v∧RPV (imm (h.take n) (μ.take n) w) y v:=by
   intro j y hy;obtain⟨x,h5,h6,h8,h7⟩:=bF he hy;have h9:=s3 _ _ x y h5 h6
   have hj:j / gA sh*gA sh+j%gA sh=j:=Nat.div_add_mod' j (gA sh)
   rw[hj]at h9;have hlt:j<cs.length:=by have:=tA h9;omega
   obtain⟨v,v1,v2⟩:=hcells j cs[j] (List.getElem?_eq_getElem hlt);exact⟨v,v1,q3 j cs[j] y v (List.getElem?_eq_getElem hlt) h9 v2⟩
  have key:RPV (imm (h.take n) (μ.take n) w) (.sl sh (fC sh g vs)) (.slice (some ⟨b,0,none⟩) (fC sh g vs).length cap):=by
   refine .sl sh _ b 0 cap (fun j=>(c[j]?).getD undef) (fun e=>hz (by rw[←s1,e];rfl)) (by rw[s1];exact hl) s2 (fun j y hy=>?_) (fun j y hy=>?_)
   ·obtain⟨v,h5,h6⟩:=hcell j y hy
    refine tC.2 ⟨?_,by rw[PC hB,Nat.zero_add,h5];simp [h5]⟩
    rintro⟨i,n',h8,h9⟩
    rw[List.getElem?_take]at h8;split at h8
    ·have:=H.distinct i id b n' k h8 hm
     omega
    ·cases h8
   ·obtain⟨v,h5,h6⟩:=hcell j y hy
    have:(c[j]?).getD undef=v:=by simp [h5]
    simp only[this];exact h6
  rw[s1]at key;exact .p _ _ key
mutual
theorem z2M (H:HeapRel h μ w){n:Nat}(L:(imm h μ w).le (imm (h.take n) (μ.take n) w)):∀(v:AV) {u:AV} {x:Value},RAV (imm h μ w) h μ v x→FA n h v=some u→u.top≤n→RAV (imm (h.take n) (μ.take n) w) (h.take n) (μ.take n) u x
 | .own id g off len,u,x,R,hr,ht=>by
  simp only[FA]at hr;split at hr
  ·rename_i hn
   simp only[Option.map_eq_some_iff]at hr;obtain⟨⟨sh,xs⟩,h1,rfl⟩:=hr;exact .p _ _ (z23 H L R h1 hn)
  ·injection hr with hr;subst hr;exact R.take L ht
 | .sl0 sh,u,x,R,hr,ht=>by
  simp only[FA]at hr;injection hr with hr
  subst hr;obtain⟨a,rfl⟩:=sJ R;exact .p _ _ (.nils _ _ _)
 | .agg cs,u,x,R,hr,ht=>by
  simp only[FA,Option.map_eq_some_iff]at hr;obtain⟨us,h1,rfl⟩:=hr;cases R with|agg _ xs hl hrr=>
  have htop:AV.tops us≤n:=by
   unfold mkA at ht;split at ht
   ·rename_i ps hp
    have:=vJ hp;subst this;rw[z3X];omega
   ·simpa [AV.top] using ht
  obtain⟨q1,q2⟩:=JW H L cs hl hrr h1 htop;exact TU q1 q2
 | .tup cs,u,x,R,hr,ht=>by
  simp only[FA,Option.map_eq_some_iff]at hr;obtain⟨us,h1,rfl⟩:=hr;cases R with|tup _ xs hl hrr=>
  obtain⟨q1,q2⟩:=JW H L cs hl hrr h1 (by simpa [AV.top] using ht)
  exact .tup us xs q1 q2
 | .p v,u,x,R,hr,ht=>by simp only[FA]at hr;injection hr with hr;subst hr;exact R.take L ht
 | .ref _ _,u,x,R,hr,ht=>by simp only[FA]at hr;injection hr with hr;subst hr;exact R.take L ht
 | .rref _ _ _ _,u,x,R,hr,ht=>by simp only[FA]at hr;injection hr with hr;subst hr;exact R.take L ht
 | .vp _,u,x,R,hr,ht=>by simp only[FA]at hr;injection hr with hr;subst hr;exact R.take L ht
 | .nilp,u,x,R,hr,ht=>by simp only[FA]at hr;injection hr with hr;subst hr;exact R.take L ht
 | .nilm,u,x,R,hr,ht=>by simp only[FA]at hr;injection hr with hr;subst hr;exact R.take L ht
 | .nilf,u,x,R,hr,ht=>by simp only[FA]at hr;injection hr with hr;subst hr;exact R.take L ht
 | .nili,u,x,R,hr,ht=>by simp only[FA]at hr;injection hr with hr;subst hr;exact R.take L ht
 | .ifc,u,x,R,hr,ht=>by simp only[FA]at hr;injection hr with hr;subst hr;exact R.take L ht
 | .mp _,u,x,R,hr,ht=>by simp only[FA]at hr;injection hr with hr;subst hr;exact R.take L ht
 | .it _,u,x,R,hr,ht=>by simp only[FA]at hr;injection hr with hr;subst hr;exact R.take L ht
 | .fn _ _,u,x,R,hr,ht=>by simp only[FA]at hr;injection hr with hr;subst hr;exact R.take L ht
 | .anyb,u,x,R,hr,ht=>by simp only[FA]at hr;injection hr with hr;subst hr;exact R.take L ht
 | .skp,u,x,R,hr,ht=>by simp only[FA]at hr;injection hr with hr;subst hr;exact R.take L ht
 | .und,u,x,R,hr,ht=>by simp only[FA]at hr;injection hr with hr;subst hr;exact R.take L ht
 | .anyp,u,x,R,hr,ht=>by simp only[FA]at hr;injection hr with hr;subst hr;exact R.take L ht
 | .bt k t id g,u,x,R,hr,ht=>by
  simp only[FA]at hr;cases hk:(Nat.beq k 3&&decide (n≤id)) with
  | false=>rw[hk]at hr;injection hr with hr;subst hr;exact R.take L ht
  | true=>
   rw[hk]at hr;simp only[Bool.and_eq_true,decide_eq_true_eq]at hk;have hk1:=Nat.eq_of_beq_eq_true hk.1
   subst hk1;exact z6J H L R hr hk.2
theorem JW (H:HeapRel h μ w){n:Nat}(L:(imm h μ w).le (imm (h.take n) (μ.take n) w)):∀(cs:List AV) {us:List AV} {xs:List Value},cs.length=xs.length →
 (∀(j:Nat) (y:AV) (v:Value),cs[j]?=some y→xs[j]?=some v→RAV (imm h μ w) h μ y v)→RD n h cs=some us→AV.tops us≤n →
 us.length=xs.length∧∀(j:Nat) (y:AV) (v:Value),us[j]?=some y→xs[j]?=some v→RAV (imm (h.take n) (μ.take n) w) (h.take n) (μ.take n) y v
 | [],us,xs,hl,hr,e,ht=>by
  simp only[RD]at e;injection e with e
  subst e;exact⟨hl,fun j y v h1 _=>by simp at h1⟩
 | c::r,us,xs,hl,hr,e,ht=>by
  cases xs with
  | nil=>simp at hl
  | cons x xs=>
   simp only[RD]at e;split at e
   ·rename_i u hu
    simp only[Option.map_eq_some_iff]at e;obtain⟨l,h1,rfl⟩:=e;simp only[AV.tops]at ht;have k1:=z2M H L c (hr 0 c x rfl rfl) hu (by omega)
    obtain⟨k2,k3⟩:=JW H L r (xs:=xs) (by simpa using hl) (fun j y v h1 h2=>hr (j+1) y v (by simpa using h1) (by simpa using h2)) h1 (by omega)
    refine⟨by simp [k2],fun j y v hy hv=>?_⟩
    cases j with
    | zero=>simp at hy hv;subst hy;subst hv;exact k1
    | succ j=>exact k3 j y v (by simpa using hy) (by simpa using hv)
   ·cases e
end
theorem PP:∀ (asv:List AV) {h:aA} {vs:List Value} {asv':List AV} {h1:aA},HeapRel h μ w→asv.length=vs.length →
 (∀(j:Nat) (y:AV) (v:Value),asv[j]?=some y→vs[j]?=some v→RAV (imm h μ w) h μ y v)→nA h asv=some (asv',h1) →
 YD h μ w h1∧asv'.length=vs.length∧∀(j:Nat) (y:AV) (v:Value),asv'[j]?=some y→vs[j]?=some v→RAV (imm h1 μ w) h1 μ y v
 | [],h,vs,asv',h1,H,hl,hr,e=>by
  simp only[nA,Option.some.injEq,Prod.mk.injEq]at e;obtain⟨rfl,rfl⟩:=e;exact⟨⟨H,Evo.refl _ _ _,mA.refl _ _⟩,hl,fun j y v hy=>by simp at hy⟩
 | a::r,h,vs,asv',h1,H,hl,hr,e=>by
  cases vs with
  | nil=>simp at hl
  | cons x vs=>
   have step:∀{h2:aA} {u:AV},YD h μ w h2→RAV (imm h2 μ w) h2 μ u x→(nA h2 r).map (fun y=>(u::y.1,y.2))=some (asv',h1) →
    YD h μ w h1∧asv'.length=(x::vs).length∧∀(j:Nat) (y:AV) (v:Value),asv'[j]?=some y→(x::vs)[j]?=some v→RAV (imm h1 μ w) h1 μ y v:=by
    intro h2 u ⟨a1,a2,a3⟩ hu e;simp only[Option.map_eq_some_iff,Prod.mk.injEq]at e;obtain⟨⟨l,h3⟩,hp,rfl,rfl⟩:=e;obtain⟨⟨b1,b2,b3⟩,b4,b5⟩:=PP r a1 (vs:=vs) (by simpa using hl) (fun j y v hy hv=>(hr (j+1) y v (by simpa using hy) (by simpa using hv)).evo a2) hp
    refine⟨⟨b1,a2.trans b2,by simpa using mA.trans a3 b3⟩,by simp [b4],fun j y v hy hv=>?_⟩
    cases j with
    | zero=>simp at hy hv;subst hy;subst hv;exact hu.evo b2
    | succ j=>exact b5 j y v (by simpa using hy) (by simpa using hv)
   have h0:=hr 0 a x rfl rfl
   cases a;case own id g off len=>
    simp only[nA]at e;split at e
    ·rename_i z hz
     obtain⟨sh,xs⟩:=z;obtain⟨k1,k2,k3,k4⟩:=gL H h0 hz;exact step ⟨k1,k2,k3⟩ (.p _ _ k4) e
    ·cases e
   case agg cs=>
    simp only[nA]at e;split at e
    ·rename_i pv h2 hp
     obtain⟨k1,k2⟩:=OP _ H h0 hp;exact step k1 (.p _ _ k2) e
    ·cases e
   case sl0 sh=>
    simp only[nA]at e;obtain⟨b,rfl⟩:=sJ h0;exact step ⟨H,Evo.refl _ _ _,mA.refl _ _⟩ (.p _ _ (.nils _ _ _)) e
   all_goals
    simp only[nA]at e;exact step ⟨H,Evo.refl _ _ _,mA.refl _ _⟩ h0 e
end Go.Am
end
section
/- The abstract machine,part 23: a call that ends well here ends well in the model. -/
set_option linter.unusedSimpArgs false
set_option linter.unusedVariables false
set_option maxHeartbeats 1000000
namespace Go.Am
variable {h h':aA} {μ μ':Mu} {w w':World} {P:Program} {M M':Mem}
variable {gl:Nat→Option PV} {nt:Nat} {M0:Mem} {h0:aA} {μ0:Mu} {e:List (Nat × AV)} {x:Esc} {a:Act}
theorem RAV.upto {M M':Mem}(hM:M.le M'){h h':aA}{μ μ':Mu}{n:Nat}(gh:∀ {i:Nat} {y:Obj},h[i]?=some y→i<n→h'[i]?=some y)(gm:∀ {i:Nat} {y:Option (Nat × Nat)},μ[i]?=some y→i<n→μ'[i]?=some y){v:AV}{x:Value}(H:RAV M h μ v x):v.top≤n→RAV M' h' μ' v x:=by
 induction H with
 | p v x hv=>exact fun _=>.p v x (hv.mono hM)
 | own id g off len a cap sh xs fz m hl ho hm hg hgl hv=>exact fun ht=>.own id g off len a cap sh xs fz m hl (gh ho ht) (gm hm ht) hg hgl hv
 | sl0 sh a=>exact fun _=>.sl0 sh a
 | ref id off b n cs ho hm=>exact fun ht=>.ref id off b n cs (gh ho ht) (gm hm ht)
 | rref id g i off a sh xs fz m ho hm hg hi hv=>exact fun ht=>.rref id g i off a sh xs fz m (gh ho ht) (gm hm ht) hg hi hv
 | vp v b o f hm hr=>exact fun _=>.vp v b o f (fun j y hy=>hM.c _ _ _ (hm j y hy)) (fun j y hy=>(hr j y hy).mono hM)
 | nilp=>exact fun _=>.nilp
 | nilm=>exact fun _=>.nilm
 | nilf=>exact fun _=>.nilf
 | nili=>exact fun _=>.nili
 | ifc t v=>exact fun _=>.ifc t v
 | mp id b n es c ho hm=>exact fun ht=>.mp id b n es c (gh ho ht) (gm hm ht)
 | it id b n m s seen l ho hm=>exact fun ht=>.it id b n m s seen l (gh ho ht) (gm hm ht)
 | fn f cs vs hl hr ih=>exact fun ht=>.fn f cs vs hl (fun j y v h1 h2=>ih j y v h1 h2 (by have:=nD h1;simp only[AV.top]at ht;omega))
 | agg cs vs hl hr ih=>exact fun ht=>.agg cs vs hl (fun j y v h1 h2=>ih j y v h1 h2 (by have:=nD h1;simp only[AV.top]at ht;omega))
 | tup cs vs hl hr ih=>exact fun ht=>.tup cs vs hl (fun j y v h1 h2=>ih j y v h1 h2 (by have:=nD h1;simp only[AV.top]at ht;omega))
 | anyb b=>exact fun _=>.anyb b
 | skp=>exact fun _=>.skp
 | und x=>exact fun _=>.und x
 | anyp a=>exact fun _=>.anyp a
 | bt0 t id g b n cs ho hm hs=>exact fun ht=>.bt0 t id g b n cs (gh ho ht) (gm hm ht) (hM.s _ _ hs)
 | bt1 t id g a cap xs fz m hl ho hm hg hv=>exact fun ht=>.bt1 t id g a cap xs fz m hl (gh ho ht) (gm hm ht) hg (fun e=>by
  have q:=hv e
  cases m with
  | none=>exact q
  | some m=>exact⟨q.1,q.2.1,hM.s _ _ q.2.2⟩)
 | bt2 t id g a xs fz m ho hm hg hv=>exact fun ht=>.bt2 t id g a xs fz m (gh ho ht) (gm hm ht) hg (fun e=>by obtain⟨b,n,q1,q2,q3⟩:=hv e;exact⟨b,n,q1,q2,hM.s _ _ q3⟩)
 | bt3 t id g a cap o m hl ho hm hv=>exact fun ht=>.bt3 t id g a cap o m hl (gh ho ht) (gm hm ht) hv
 | bt4 off id g a o m ho hm hv=>exact fun ht=>.bt4 off id g a o m (gh ho ht) (gm hm ht) hv
theorem HeapRel.sel (H:HeapRel h μ w)(n:Nat)(hn:n≤h.length)(ht:∀ id o,h[id]?=some o→id<n→o.top≤n){id:Nat}(hid:n≤id){sh:Sh}{xs:List PV}{fz:Nat}{m:Option (Nat × Nat)}(ho:h[id]?=some (.row sh xs fz))(hm:μ[id]?=some m) :
 HeapRel (h.take n++[.row sh xs fz]) (μ.take n++[m]) w∧(imm h μ w).le (imm (h.take n++[.row sh xs fz]) (μ.take n++[m]) w):=by
 have hnm:n≤μ.length:=by rw[H.len];exact hn
 have get:∀{α:Type} {l:List α} {i:Nat} {y z:α},n≤l.length→(l.take n++[z])[i]?=some y→(i<n∧l[i]?=some y)∨(i=n∧y=z):=by
  intro α l i y z hl hy;have hln:(l.take n).length=n:=by rw[List.length_take];omega
  rcases Nat.lt_or_ge i n with hi|hi
  ·rw[List.getElem?_append_left (by omega),List.getElem?_take,if_pos hi]at hy
   exact .inl ⟨hi,hy⟩
  ·rw[List.getElem?_append_right (by omega),hln]at hy
   have:i=n:=by
    have:=tA hy;simp at this;omega
   subst this;rw[Nat.sub_self]at hy;exact .inr ⟨rfl,by simpa using hy.symm⟩
 have put:∀{α:Type} {l:List α} {z:α},n≤l.length→∀{i:Nat} {y:α},l[i]?=some y→i<n→(l.take n++[z])[i]?=some y:=by
  intro α l z hl i y hy hi;rw[List.getElem?_append_left (by rw[List.length_take];omega),List.getElem?_take,if_pos hi,hy]
 have last:∀{α:Type} {l:List α} {z:α},n≤l.length→(l.take n++[z])[n]?=some z:=by
  intro α l z hl;rw[List.getElem?_append_right (by rw[List.length_take];omega)]
  have:n-(l.take n).length=0:=by rw[List.length_take];omega
  rw[this];rfl
 have back:∀{i b k},(μ.take n++[m])[i]?=some (some (b,k))→∃j,μ[j]?=some (some (b,k))∧(i<n→j=i)∧(i=n→j=id)∧(i<n∨i=n):=fun {i b k} e=>by
  rcases get hnm e with⟨a1,a2⟩|⟨a1,a2⟩
  ·exact⟨i,a2,fun _=>rfl,fun q=>by omega,.inl a1⟩
  ·exact⟨id,by rw[hm,a2],fun q=>by omega,fun _=>rfl,.inr a1⟩
 have L:(imm h μ w).le (imm (h.take n++[.row sh xs fz]) (μ.take n++[m]) w):=SK (fun b x v h1 h2=>⟨fun⟨i,k,h3,h4⟩=>by
  obtain⟨j,q1,q2,q3,q4⟩:=back h3;refine h1 ⟨j,k,q1,fun sh' xs' fz' h5=>?_⟩
  rcases q4 with q4|q4
  ·have:=q2 q4;subst this;exact h4 sh' xs' fz' (put hn h5 q4)
  ·have:=q3 q4;subst this
   rw[ho]at h5;cases h5;exact h4 sh xs fz (by rw[q4];exact last hn),h2⟩) (fun b o h1 h2=>⟨fun⟨i,k,h3⟩=>by
  obtain⟨j,q1,_⟩:=back h3;exact h1 ⟨j,k,q1⟩,h2⟩) rfl (fun _ _ h=>h)
 refine⟨⟨by simp [H.len],fun i o' m' h1 h2=>?_,fun i j b k k' h1 h2=>?_,fun i b k h1=>?_⟩,L⟩
 ·rcases get hn h1 with⟨hi,h1⟩|⟨hi,rfl⟩
  ·rcases get hnm h2 with⟨_,h2⟩|⟨hi2,_⟩
   ·have hR:=H.obj i o' m' h1 h2
    have htop:=ht i o' h1 hi
    cases o' with
    | box cs=>
     obtain⟨b,c,rfl,hb,hc⟩:=hR;refine⟨b,c,rfl,hb,fun j x hx=>?_⟩
     obtain⟨h3,v,h4,h5⟩:=hc j x hx;exact⟨h3,v,h4,h5.upto L (put hn) (put hnm) (by have:=nD hx;simp only[Obj.top]at htop;omega)⟩
    | row sh xs fz=>
     obtain⟨h3,h4,h5⟩:=hR;refine⟨h3,h4,?_⟩;cases m' with
     | none=>exact h5
     | some m=>
      obtain⟨b,k⟩:=m;obtain⟨c,h6,h7,h8⟩:=h5;refine⟨c,h6,h7,fun i j x y hx hy=>?_⟩
      obtain⟨v,h9,h10⟩:=h8 i j x y hx hy;exact⟨v,h9,h10.mono L⟩
    | amap es clk=>
     obtain⟨b,k,ces,rfl,h3,h4,hb,h5⟩:=hR;refine⟨b,k,ces,rfl,h3,h4,hb,fun i e ce he hc=>?_⟩
     obtain⟨h6,h7,h8,h9⟩:=h5 i e ce he hc;refine⟨h6.mono L,h7,h8.upto L (put hn) (put hnm) ?_,h9⟩;have:(es.map ME.val)[i]?=some e.val:=by simp [he]
     have:=nD this;simp only[Obj.top]at htop;omega
    | iter mm s seen l=>
     obtain⟨b,k,rfl,h3⟩:=hR;refine⟨b,k,rfl,?_⟩;cases mm with
     | none=>exact h3
     | some i=>
      obtain⟨bm,nm,es,c,h4,h5,h6⟩:=h3;simp only[Obj.top]at htop;exact⟨bm,nm,es,c,put hnm h4 (by omega),put hn h5 (by omega),h6⟩
    | arow sh cs=>
     obtain⟨h3,h4⟩:=hR;refine⟨h3,?_⟩;cases m' with
     | none=>exact h4
     | some m=>
      obtain⟨b,k⟩:=m;obtain⟨c,h6,h7,h8⟩:=h4;refine⟨c,h6,h7,fun j x hx=>?_⟩
      obtain⟨v,h9,h10⟩:=h8 j x hx;exact⟨v,h9,h10.upto L (put hn) (put hnm) (by have:=nD hx;simp only[Obj.top]at htop;omega)⟩
   ·omega
  ·rcases get hnm h2 with⟨hi2,_⟩|⟨_,rfl⟩
   ·omega
   ·obtain⟨h3,h4,h5⟩:=H.obj id _ _ ho hm
    refine⟨h3,h4,?_⟩;cases m' with
    | none=>exact h5
    | some m=>
     obtain⟨b,k⟩:=m;obtain⟨c,h6,h7,h8⟩:=h5;refine⟨c,h6,h7,fun i j x y hx hy=>?_⟩
     obtain⟨v,h9,h10⟩:=h8 i j x y hx hy;exact⟨v,h9,h10.mono L⟩
 ·obtain⟨i',q1,q2,q3,q4⟩:=back h1
  obtain⟨j',r1,r2,r3,r4⟩:=back h2;have:=H.distinct i' j' b k k' q1 r1;rcases q4 with q4|q4 <;> rcases r4 with r4|r4
  ·have:=q2 q4;have:=r2 r4;omega
  ·have:=q2 q4;have:=r3 r4;omega
  ·have:=q3 q4;have:=r2 r4;omega
  ·omega
 ·obtain⟨i',q1,_⟩:=back h1
  exact H.inside i' b k q1
theorem zji {hs:aA}{μs:Mu}{Ms:Mem}{es:Esc}(Hs:∀ id,DD hs id≤hs.length)(H:HeapRel h μ w)(E:Evo Ms hs μs (imm h μ w) h μ)(I:mA hs h es)(hc:BB es hs.length=true){id:Nat}(hid:hs.length≤id){sh:Sh}{xs:List PV}{fz:Nat}{m:Option (Nat × Nat)}(ho:h[id]?=some (.row sh xs fz))(hm:μ[id]?=some m) :
 HeapRel (h.take hs.length++[.row sh xs fz]) (μ.take hs.length++[m]) w∧(imm h μ w).le (imm (h.take hs.length++[.row sh xs fz]) (μ.take hs.length++[m]) w)∧Evo Ms hs μs (imm (h.take hs.length++[.row sh xs fz]) (μ.take hs.length++[m]) w) (h.take hs.length++[.row sh xs fz]) (μ.take hs.length++[m])∧mA hs (h.take hs.length++[.row sh xs fz]) (es.filter fun y=>decide (y.1<hs.length)):=by
 have ht:∀id o,h[id]?=some o→id<hs.length→o.top≤hs.length:=by
  intro id o ho hi;have h1:=I id o ho
  have h2:=Hs id
  have h3:=NZ hc hi
  omega
 obtain⟨H1,L⟩:=H.sel hs.length E.len ht hid ho hm;have hlm:hs.length≤μ.length:=by rw[H.len];exact E.len
 refine⟨H1,L,⟨⟨fun b o v q=>L.c _ _ _ (E.le.c _ _ _ q),fun b o q=>L.b _ _ (E.le.b _ _ q),L.z.trans E.le.z,fun b t q=>L.s _ _ (E.le.s _ _ q)⟩,by have:=E.len;simp only[List.length_append,List.length_take,List.length_cons,List.length_nil];omega,fun i o m0 q1 q2=>?_⟩,fun i o q=>?_⟩
 ·obtain⟨o',m',r1,r2,r3⟩:=E.obj i o m0 q1 q2
  have hi:=tA q1
  have el:=E.len
  exact⟨o',m',by rw[List.getElem?_append_left (by rw[List.length_take];omega),List.getElem?_take,if_pos hi,r1],by rw[List.getElem?_append_left (by rw[List.length_take];omega),List.getElem?_take,if_pos hi,r2],r3⟩
 ·have el:=E.len
  rcases Nat.lt_or_ge i hs.length with hi|hi
  ·rw[List.getElem?_append_left (by rw[List.length_take];omega),List.getElem?_take,if_pos hi]at q
   rw[OZ hi];exact I i o q
  ·rw[List.getElem?_append_right (by rw[List.length_take];omega)]at q
   have:o = .row sh xs fz:=by
    have:=List.mem_of_getElem? q;simpa using this
   subst this;simp only[Obj.top];omega
theorem z2v {M M':Mem}{h':aA}{μ':Mu}{vs vs':List AV}{u:Value}(hl:vs'.length=vs.length)(R:RAV M h μ (JA vs) u)(hh:∀ (j:Nat) (y y':AV) (v:Value),vs[j]?=some y→vs'[j]?=some y'→RAV M h μ y v→RAV M' h' μ' y' v):RAV M' h' μ' (JA vs') u:=by
 match vs,vs',hl with
 | [],[],_=>cases R with|tup _ ws hl hr=>exact .tup [] ws hl fun j y v h1 _=>by simp at h1
 | [a],[a'],_=>exact hh 0 a a' u rfl rfl R
 | a::b::r,a'::b'::r',hl=>
  cases R with|tup _ ws hlw hr=>
  refine .tup _ ws (by rw[hl];exact hlw) fun j y v h1 h2=>?_
  have hj:j<(a::b::r).length:=by rw[←hl];exact tA h1
  exact hh j _ y v (List.getElem?_eq_getElem hj) h1 (hr j _ v (List.getElem?_eq_getElem hj) h2)
theorem zi2 {rs:List ARes}{vs:List AV}{s:St}{u:Value}{K:jA}(R:Rel gl nt M0 h0 μ0 s.env s.h s.esc a w μ)(Hs:∀ id,DD h0 id≤h0.length)(hR:RAV (imm s.h μ w) s.h μ (JA vs) u)(H:SD h0.length K rs (some vs) s.h s.esc) :
 ∃v h' x μ',K v h' x∧RAV (imm h' μ' w) h' μ' v u∧HeapRel h' μ' w∧Evo M0 h0 μ0 (imm h' μ' w) h' μ'∧mA h0 h' x:=by
 unfold SD at H;dsimp only at H;split at H
 ·rename_i y hy
  obtain⟨hcl,hk⟩:=H;unfold cmpO at hy;split at hy
  ·rename_i id g off len hf
   split at hy
   ·rename_i sh xs fz ho
    split at hy
    ·rename_i hc
     cases hy;have hlt:=tA ho
     have hmm:∃m,μ[id]?=some m:=⟨_,List.getElem?_eq_getElem (by rw[R.heap.len];exact hlt)⟩
     obtain⟨m,hm⟩:=hmm;obtain⟨q1,q2,q3,q4⟩:=zji Hs R.heap R.evo R.esc hcl hc.1 ho hm;refine⟨_,_,_,μ.take h0.length++[m],hk,?_,q1,q3,q4⟩;have el:=R.evo.len
     have hlm:h0.length≤μ.length:=by rw[R.heap.len];exact el
     refine z2v (by simp) hR fun j y y' v h1 h2 h3=>?_
     have hok:=List.all_eq_true.1 hc.2 y (List.mem_of_getElem? h1)
     rw[List.getElem?_map,h1]at h2;cases h2;have low:y.top≤h0.length→mvO id h0.length y=y→RAV (imm (s.h.take h0.length++[.row sh xs fz]) (μ.take h0.length++[m]) w) (s.h.take h0.length++[.row sh xs fz]) (μ.take h0.length++[m]) (mvO id h0.length y) v:=fun ht e=>by
      rw[e];exact h3.upto q2 (fun {i y} e hi=>by rw[List.getElem?_append_left (by rw[List.length_take];omega),List.getElem?_take,if_pos hi,e]) (fun {i y} e hi=>by rw[List.getElem?_append_left (by rw[List.length_take];omega),List.getElem?_take,if_pos hi,e]) ht
     cases y with
     | own i g' off' len'=>
      simp only[okO]at hok;have e:=Nat.eq_of_beq_eq_true hok
      subst e;simp only[mvO,hok,cond_true];cases h3 with|own _ _ _ _ a' cap sh' xs' fz' m' hl ho' hm' hg hgl hv=>
      rw[ho]at ho';cases ho'
      rw[hm]at hm';cases hm'
      refine .own h0.length g' off' len' a' cap sh xs fz m hl ?_ ?_ hg hgl hv
      ·rw[List.getElem?_append_right (by rw[List.length_take];omega)]
       have:h0.length-(s.h.take h0.length).length=0:=by rw[List.length_take];omega
       rw[this];rfl
      ·rw[List.getElem?_append_right (by rw[List.length_take];omega)]
       have:h0.length-(μ.take h0.length).length=0:=by rw[List.length_take];omega
       rw[this];rfl
     | _=>exact low (by simpa [okO] using hok) rfl
    ·cases hy
   ·cases hy
  ·rename_i v0 hf
   split at hy
   ·rename_i hc
    cases hy;obtain⟨q1,q2,q3,q4⟩:=gQ Hs R.heap R.evo R.esc (Nat.le_refl _) hcl
    refine⟨_,_,_,μ.take h0.length,hk,?_,q1,q3,q4⟩;refine z2v rfl hR fun j y y' v h1 h2 h3=>?_
    rw[h1]at h2;cases h2;have:=List.all_eq_true.1 hc y (List.mem_of_getElem? h1);exact h3.take q2 (by simpa using this)
   ·cases hy
  ·cases hy
 ·exact H.elim
theorem z1c {F:AFun}{fn:Func}{s:St}{K:jA}(R:Rel gl nt M0 h0 μ0 s.env s.h s.esc a w μ)(Hs:∀ id,DD h0 id≤h0.length)(hc:sC P F.results fn.results.toList=true)(H:fin F h0.length s K) :
 ∃u,(results fn a.tmps).run P w = .ok u w∧∃v h' x μ',K v h' x∧RAV (imm h' μ' w) h' μ' v u∧HeapRel h' μ' w∧Evo M0 h0 μ0 (imm h' μ' w) h' μ'∧mA h0 h' x:=by
 unfold fin at H;split at H
 ·cases hvs:lC s F.results with
  | none=>rw[hvs]at H;exact H.elim
  | some vs=>
   rw[hvs]at H;obtain⟨u,hu,hR⟩:=z2T R.heap R.env hc hvs;exact⟨u,hu,zi2 R Hs hR H⟩
 split at H
 ·rename_i vs hvs
  obtain⟨u,hu,hR⟩:=z2T R.heap R.env hc hvs;refine⟨u,hu,?_⟩;split at H
  ·dsimp only at H
   split at H
   ·rename_i hcl
    have hn:=fM s.esc.length s.esc (max h0.length (JA vs).top)
    generalize QB s.esc.length s.esc (max h0.length (JA vs).top)=n at H hcl hn;obtain⟨q1,q2,q3,q4⟩:=gQ Hs R.heap R.evo R.esc (by omega) hcl
    exact⟨_,_,_,μ.take n,H,hR.take q2 (by omega),q1,q3,q4⟩
   ·exact⟨_,_,_,μ,H,hR,R.heap,R.evo,R.esc⟩
  ·split at H
   ·rename_i v0 hv0
    dsimp only at H;split at H
    ·rename_i hcl
     have hn:=fM s.esc.length s.esc (max h0.length v0.top)
     generalize QB s.esc.length s.esc (max h0.length v0.top)=n at H hcl hn;split at H
     ·rename_i v hv
      obtain⟨q1,q2,q3,q4⟩:=gQ Hs R.heap R.evo R.esc (by omega) hcl
      exact⟨_,_,_,μ.take n,H.2,z2M R.heap q2 _ hR hv H.1,q1,q3,q4⟩
     ·exact H.elim
    ·exact⟨_,_,_,μ,H,hR,R.heap,R.evo,R.esc⟩
   ·exact H.elim
 ·exact H.elim
def MR (P:Program)(f:Nat)(F:AFun):Bool:=match P.funcs[f]? with
 | some fn=>match fn.body with
  | some c=>CB P fn.ntmps F.body c&&sC P F.results fn.results.toList&&fn.name != "runtime.NumGoroutine"
  | none=>false
 | none=>false
theorem mU {f:Nat}{fn:Func}{c:Code}(hf:P.funcs[f]?=some fn)(hb:fn.body=some c)(hn:fn.name ≠ "runtime.NumGoroutine")(args:Array Value)(w:World):(callFunc f args).run P w = .ok (.enter f args) w:=by
 unfold callFunc;simp [hf,hb,hn]
theorem zch {asv:List AV}{t:Nat}:bA (enter asv) t=(asv[t]?).getD .und:=by
 have key:∀(l:List AV) (k t:Nat),bA ((l.zipIdx k).map fun y=>(y.2,y.1)) t=if t<k then .und else(l[t-k]?).getD .und:=by
  intro l;induction l with
  | nil=>intro k t;simp [bA]
  | cons v r ih=>
   intro k t;simp only[List.zipIdx_cons,List.map_cons,bA];by_cases hk:k=t
   ·subst hk;simp
   ·rw[if_neg hk,ih]
    by_cases h1:t<k
    ·rw[if_pos h1,if_pos (by omega)]
    ·rw[if_neg h1,if_neg (by omega),show t-k=(t-(k+1))+1 by omega]
     simp
 have:=key asv 0 t;simpa [enter] using this
def eD (M:Mem)(w w':World):Mem:=⟨fun b o=>if b<w.heap.size then M.c b o else w'.cell? ⟨b,o,none⟩,fun _=>none,some (zed w'),fun _=>none⟩
def FX (P:Program)(f:Nat)(vs:List PV)(r:PV):Prop:=∀(M:Mem) (w:World) (us:List Value),(∀b o v,M.c b o=some v→w.cell? ⟨b,o,none⟩=some v)→vs.length=us.length →
 (∀(j:Nat) (y:PV) (v:Value),vs[j]?=some y→us[j]?=some v→RPV M y v) →
 ∃x w',(callFunc f us.toArray).run P w = .ok (.value x) w'∧WExt w w'∧RPV (eD M w w') r x
structure Fits (P:Program) (X:Ctx):Prop where
 mixed:P.follows .mixedOrders=true
 fn:∀f F,X.fn f=some F→MR P f F=true
 ext:∀f vs r,X.fn f=none→X.ext f vs=some r→FX P f vs r
 ex2:∀f asv h v h' x,X.fn f=none→X.ex2 f asv h=some (v,h',x)→EB P X.gl f asv h fun v1 h1 x1=>v1=v∧h1=h'∧x1=x
theorem zj1 {X:Ctx}(HX:Fits P X){f:Nat}{asv:List AV}{h:aA}{K:jA}(H:IB X (EB P X.gl) f asv h K):EB P X.gl f asv h K:=by
 intro μ w vs Hh Hg hl hr;unfold IB at H;split at H
 ·rename_i F hF
  have H:=zcA (EB.mono P X.gl) H
  have hck:=HX.fn f F hF
  unfold MR at hck;split at hck
  ·rename_i fn hfn
   split at hck
   ·rename_i c hb
    simp only[Bool.and_eq_true,bne_iff_ne,ne_eq]at hck;obtain⟨⟨c1,c2⟩,c3⟩:=hck;refine .inl ⟨fun w=>mU hfn hb c3 _ w,calls_of_wp hfn hb ?_⟩
    unfold WB at H;have body:∀{asv':List AV} {h1:aA},YD h μ w h1→asv'.length=vs.length→(∀(j:Nat) (y:AV) (v:Value),asv'[j]?=some y→vs[j]?=some v→RAV (imm h1 μ w) h1 μ y v) →
     (asv'.length=F.nparams∧AW (EB P X.gl) X.gl F.body ⟨enter asv',h1,[]⟩ fun e s=>match e with
      | .exit _=>False
      | _=>fin F h.length s K)→Code.wp P c (bodyPost P fn fun
       | .returned r,w'=>∃v h' x μ',K v h' x∧RAV (imm h' μ' w') h' μ' v r∧HeapRel h' μ' w'∧Evo (imm h μ w) h μ (imm h' μ' w') h' μ'∧mA h h' x
       | _,_=>False) { tmps:=vs.toArray++Array.replicate (fn.ntmps-vs.toArray.size) undef,defers:=[] } w:=by
     intro asv' h1 ⟨a1,a2,a3⟩ hl' hr' ⟨_,hA⟩;refine iD HX.mixed (nt:=fn.ntmps) (M0:=imm h μ w) (h0:=h) (μ0:=μ) (μ:=μ) (fun _ _ _ _ h=>h) F.body c1 hA ⟨a1,fun t=>?_,Hg.mono a2.le,a2,a3,?_,rfl⟩ (fun ex s' a' w' μ' hk R'=>?_)
     ·dsimp only
      rw[zch];cases ht:asv'[t]? with
      | none=>exact .und _
      | some y=>
       have hlt:t<vs.length:=by rw[←hl'];exact tA ht
       have:(vs.toArray++Array.replicate (fn.ntmps-vs.toArray.size) undef).getD t undef=vs[t]:=by
        simp [Array.getD,hlt];intro hh;omega
       rw[this];exact hr' t y _ ht (List.getElem?_eq_getElem hlt)
     ·simp;omega
     ·cases ex with
      | normal=>
       obtain⟨u,q1,q2⟩:=z1c R' (fun id=>mX Hh id) c2 hk
       exact⟨R'.defers,u,q1,q2⟩
      | exit i=>exact hk.elim
      | ret=>
       obtain⟨u,q1,q2⟩:=z1c R' (fun id=>mX Hh id) c2 hk
       exact⟨R'.defers,u,q1,q2⟩
    split at H
    ·rename_i asv' h1 hp
     split at hp
     ·injection hp with hp
      injection hp with e1 e2
      subst e1;subst e2
      exact body ⟨Hh,Evo.refl _ _ _,mA.refl _ _⟩ hl hr H
     ·obtain⟨q1,q2,q3⟩:=PP asv Hh hl hr hp
      exact body q1 q2 q3 H
    ·exact H.elim
   ·cases hck
  ·cases hck
 ·rename_i hF
  split at H
  ·rename_i hx2
   exact EB.mono P X.gl _ _ _ _ _ (fun v1 h1' x1 hv=>by obtain⟨rfl,rfl,rfl⟩:=hv;exact H) (HX.ex2 f asv h _ _ _ hF hx2) μ w vs Hh Hg hl hr
  ·rename_i hx2
   split at H
   ·rename_i asv' h1 hp
    split at H
    ·rename_i ps hps
     split at H
     ·rename_i r hrr
      obtain⟨q1,q2,q3⟩:=PP asv Hh hl hr hp;have hm:=vJ hps
      subst hm;obtain⟨u,w',k1,g1,g2⟩:=HX.ext f ps r hF hrr (imm h1 μ w) w vs (fun b o v hv=>(tC.1 hv).2) (by simpa using q2) (fun j y v hy hv=>(q3 j (.p y) v (by simp [hy]) hv).p_inv)
      obtain⟨n1,n2⟩:=q1.1.ext g1;have L:(eD (imm h1 μ w) w w').le (imm h1 μ w'):=by
       refine⟨fun b o v hv=>?_,fun b o hv=>?_,rfl,fun _ _ h=>by cases h⟩
       ·dsimp only[eD]at hv
        split at hv
        ·exact n2.le.c _ _ _ hv
        ·rename_i hb
         exact tC.2 ⟨fun hO=>hb (fO q1.1 hO),hv⟩
       ·dsimp only[eD]at hv
        cases hv
      exact .inr ⟨_,_,_,_,_,μ,k1,H,.p _ _ (g2.mono L),n1,q1.2.1.trans n2,q1.2.2⟩
     ·exact H.elim
    ·exact H.elim
   ·exact H.elim
theorem EY {X:Ctx}(HX:Fits P X){f:Nat}{asv:List AV}{h:aA}{K:jA}(H:eA X f asv h K):EB P X.gl f asv h K:=
 H (EB P X.gl) (EB.mono P X.gl) (fun f a h K hs=>zj1 HX hs)
end Go.Am
end
section
/- The abstract machine,part 24: rules by which its code is computed on what is only partly known. -/
set_option linter.unusedSimpArgs false
set_option linter.unusedVariables false
namespace Go.Am
def dH (o:Option (AV × aA × Esc))(f:AV→aA→Esc→Prop):Prop:=match o with
 | some y=>f y.1 y.2.1 y.2.2
 | none=>False
def MJ (v:AV)(A B:Prop):Prop:=match v with
 | .p (.bool t)=>match t with
  | true=>A
  | false=>B
 | .anyb=>A∧B
 | _=>False
def NA (v:AV)(A B:Prop):Prop:=match v with
 | .p (.bool t)=>match t with
  | true=>A
  | false=>B
 | _=>False
def kH (v:AV)(b:Bool)(A B:Prop):Prop:=match v with
 | .p (.bool c)=>match c==b with
  | true=>A
  | false=>B
 | .skp=>B
 | _=>False
def finK (F:AFun)(b:Nat)(K:jA)(e:Ex)(s:St):Prop:=match e with
 | .exit _=>False
 | _=>fin F b s K
def z39 (n:Nat)(x:Esc)(K:Ex→St→Prop)(e:Ex)(s:St):Prop:=K e (WD n x s)
def AO.plain:AO→Bool
 | .call _ _ | .callv _ _ | .mnext _ _=>false
 | .mv _=>true
 | .pick _ _ _=>true
 | .alloc _=>true
 | .box _=>true
 | .build _ _=>true
 | .bsl _ _ _ _ _=>true
 | .load _ _=>true
 | .store _ _ _=>true
 | .nilchk _=>true
 | .bin _ _ _=>true
 | .eqa _ _ _ _=>true
 | .isnil _ _ _=>true
 | .mkif _=>true
 | .un _ _=>true
 | .conv _ _=>true
 | .mkfn _ _=>true
 | .mkmap=>true
 | .mksl _ _ _ _=>true
 | .slice _ _ _ _ _=>true
 | .slstr _ _ _=>true
 | .faddr _ _ _=>true
 | .field _ _ _=>true
 | .iaddr _ _ _=>true
 | .iaddra _ _ _ _=>true
 | .idxa _ _ _ _=>true
 | .idxs _ _=>true
 | .look _ _ _ _ _=>true
 | .mupd _ _ _ _=>true
 | .ment _ _ _ _=>true
 | .estore _ _ _=>true
 | .mdel _ _ _=>true
 | .ext _ _=>true
 | .len _=>true
 | .lens _=>true
 | .lenm _=>true
 | .app _ _ _=>true
 | .copy _ _ _=>true
 | .uns _ _ _=>true
 | .clr _ _ _=>true
 | .mx _=>true
 | .mn _=>true
 | .mrange _=>true
 | .mentry _=>true
 | .new0 _=>true
variable {C:Hd} {gl:Nat→Option PV} {e:List (Nat × AV)} {h:aA} {x:Esc} {K:Ex→St→Prop} {L:List (Nat × AV)→aA→Esc→Prop} {s:St}
theorem z3A {n:Nat}{y:Esc}{ex:Ex}:z39 n y K ex s=K ex (WD n y s):=(rfl)
def yH (C:Hd)(gl:Nat→Option PV)(r:List AOp)(d:Option Nat)(e:List (Nat × AV))(x:Esc)(L:List (Nat × AV)→aA→Esc→Prop)(v:AV)(h':aA)(x':Esc):Prop:=GA C gl r (put d v e) h' (x'++x) L
theorem z4D {d:Option Nat}{op:AO}{r:List AOp}(hp:op.plain=true):GA C gl (⟨d,none,op⟩::r) e h x L=dH (aop op (Opd.ev gl e) h) (yH C gl r d e x L):=by
 cases op <;> first|(cases hp;done)|(simp only[GA,wanted,dH,yH];split <;> simp_all)
theorem BX {d:Option Nat}{f:Nat}{args:List Opd}{r:List AOp}:GA C gl (⟨d,none,.call f args⟩::r) e h x L=C f (args.map (Opd.ev gl e)) h (yH C gl r d e x L):=(rfl)
theorem z4F {d:Option Nat}{g:Option (Nat × Bool)}{op:AO}{r:List AOp}(hw:wanted g e=some true):GA C gl (⟨d,g,op⟩::r) e h x L=GA C gl (⟨d,none,op⟩::r) e h x L:=by
 rw[GA,GA];have h2:wanted none e=some true:=(rfl)
 simp only[hw,h2]
theorem DX {d:Option Nat}{g:Option (Nat × Bool)}{op:AO}{r:List AOp}(hw:wanted g e=some false):GA C gl (⟨d,g,op⟩::r) e h x L=GA C gl r (put d .skp e) h x L:=by
 rw[GA];simp only[hw]
theorem z4E {d:Option Nat}{g:Option (Nat × Bool)}{op:AO}{r:List AOp}(hw:wanted g e=none):GA C gl (⟨d,g,op⟩::r) e h x L=False:=by
 rw[GA];simp only[hw]
theorem EX {d:Option Nat}{t:Nat}{b:Bool}{op:AO}{r:List AOp}:GA C gl (⟨d,some (t,b),op⟩::r) e h x L=kH (bA e t) b (GA C gl (⟨d,none,op⟩::r) e h x L) (GA C gl r (put d .skp e) h x L):=by
 have key:∀v,bA e t=v→GA C gl (⟨d,some (t,b),op⟩::r) e h x L=kH v b (GA C gl (⟨d,none,op⟩::r) e h x L) (GA C gl r (put d .skp e) h x L):=by
  intro v hv;unfold kH;split
  ·rename_i c
   split
   ·rename_i hcb;exact z4F (by simp [wanted,hv,hcb])
   ·rename_i hcb;exact DX (by simp [wanted,hv,hcb])
  ·exact DX (by simp [wanted,hv])
  ·rename_i h1 h2
   refine z4E ?_;simp only[wanted,hv]
 exact key _ rfl
theorem aZ {t:Bool}{A B:Prop}:NA (.p (.bool t)) A B=if t=true then A else B:=by cases t <;> simp [NA]
theorem cZ {A B:Prop}:NA (.p (.bool true)) A B=A:=(rfl)
theorem bZ {A B:Prop}:NA (.p (.bool false)) A B=B:=(rfl)
theorem z8K {v v':AV}{A B:Prop}(hv:v=v'):NA v A B=NA v' A B:=by rw[hv]
theorem rQ {X:Ctx}{f:Nat}{F:AFun}{a:List AV}{h:aA}{P:jA}(hf:X.fn f=some F)(hd:F.isDet=false):eA X f a h P=WB (eA X) X.gl F a h P:=by
 rw[propext wX];unfold IB;rw[hf];simp only[VC,hd]
theorem YX {X:Ctx}{f:Nat}{F:AFun}{a:List AV}{h:aA}{P:jA}(hf:X.fn f=some F)(hd:F.isDet=true):eA X f a h P = ∃v h' x,P v h' x∧WB (eA X) X.gl F a h fun v1 h1 x1=>v1=v∧h1=h'∧x1=x:=by
 rw[propext wX];unfold IB;rw[hf];simp only[VC,hd]
theorem XZ {A B:AV→aA→Esc→Prop}(h:∀ v h' x,A v h' x=B v h' x):(∃v h' x,A v h' x) = ∃v h' x,B v h' x:=by
 simp only[h]
theorem WL {F:AFun}{a asv:List AV}{h h1:aA}{P:jA}(hr:F.byref=false)(hp:nA h a=some (asv,h1))(hl:asv.length=F.nparams) :
 WB C gl F a h P=AW C gl F.body ⟨enter asv,h1,[]⟩ (finK F h.length P):=by
 unfold WB;rw[hr];simp only[Bool.false_eq_true,if_false,hp,hl,true_and];congr 1
theorem z64 {F:AFun}{asv:List AV}{h:aA}{P:jA}(hr:F.byref=true)(hl:asv.length=F.nparams) :
 WB C gl F asv h P=AW C gl F.body ⟨enter asv,h,[]⟩ (finK F h.length P):=by
 unfold WB;rw[hr];simp only[if_true,hl,true_and];congr 1
def doK (C:Hd)(gl:Nat→Option PV)(o:AOp)(e:List (Nat × AV))(h:aA)(R:AV→aA→Esc→Prop):Prop:=∃v h' y,ADo C gl o e h v h' y∧R v h' y
def KD (C:Hd)(f:Nat)(a:List AV)(h:aA)(R:AV→aA→Esc→Prop):Prop:=∃v h' y,C f a h (fun v1 h1 x1=>v1=v∧h1=h'∧x1=y)∧R v h' y
def qN (C:Hd)(gl:Nat→Option PV)(o:DOp)(r:List DOp)(dn:aC)(hs:List aA)(e:List (Nat × AV))(h:aA)(x:Esc)(L:List (Nat × AV)→aA→Esc→Prop)(v:AV)(h':aA)(y:Esc):Prop:=
 (o.eff=false→h'=h∧y=[])∧(∀k∈o.early,∃g,hs[k]?=some g∧ADo C gl o.op (zA (some o.rd) e) g v g []) ∧
  (∀j∈o.again,∃q,dn[j]?=some q∧ADo C gl q.1 q.2.1 h' q.2.2 h' [])∧pC C gl r (dn++[(o.op,zA (some o.rd) e,v)]) (hs++[h]) (put o.op.dst v e) h' (y++x) L
theorem xX {o:DOp}{r:List DOp}{dn:aC}{hs:List aA}:pC C gl (o::r) dn hs e h x L=doK C gl o.op (zA (some o.rd) e) h (qN C gl o r dn hs e h x L):=(rfl)
variable {R:AV→aA→Esc→Prop}
theorem ex3 {v0:AV}{h0:aA}{y0:Esc}:(∃v h y,(v=v0∧h=h0∧y=y0)∧R v h y)=R v0 h0 y0:=
 propext ⟨fun⟨_,_,_,⟨h1,h2,h3⟩,r⟩=>by subst h1;subst h2;subst h3;exact r,fun r=>⟨_,_,_,⟨rfl,rfl,rfl⟩,r⟩⟩
theorem ex3' {v0:AV}{h0:aA}{y0:Esc}:(∃v h y,(v0=v∧h0=h∧y0=y)∧R v h y)=R v0 h0 y0:=
 propext ⟨fun⟨_,_,_,⟨h1,h2,h3⟩,r⟩=>by subst h1;subst h2;subst h3;exact r,fun r=>⟨_,_,_,⟨rfl,rfl,rfl⟩,r⟩⟩
theorem z8W {d:Option Nat}{op:AO}(hp:op.plain=true):doK C gl ⟨d,none,op⟩ e h R=dH (aop op (Opd.ev gl e) h) R:=by
 have key:∀o:Option (AV×aA×Esc),(∃v h' y,o=some (v,h',y)∧R v h' y)=dH o R:=by
  intro o;cases o with
  | none=>simp [dH]
  | some z=>obtain⟨v,h',y⟩:=z;simp only[Option.some.injEq,Prod.mk.injEq,ex3'];rfl
 rw[←key];unfold doK ADo;cases op <;> first|(cases hp;done)|rfl
theorem vZ {d:Option Nat}{f:Nat}{args:List Opd}:doK C gl ⟨d,none,.call f args⟩ e h R=KD C f (args.map (Opd.ev gl e)) h R:=(rfl)
theorem yZ {d:Option Nat}{t:Nat}{b:Bool}{op:AO}:doK C gl ⟨d,some (t,b),op⟩ e h R=kH (bA e t) b (doK C gl ⟨d,none,op⟩ e h R) (R .skp h []):=by
 have h2:wanted none e=some true:=(rfl)
 have key:∀v,bA e t=v→doK C gl ⟨d,some (t,b),op⟩ e h R=kH v b (doK C gl ⟨d,none,op⟩ e h R) (R .skp h []):=by
  intro v hv;unfold kH;split
  ·rename_i c
   split
   ·rename_i hcb
    have hw:wanted (some (t,b)) e=some true:=by simp [wanted,hv,hcb]
    unfold doK ADo;simp only[hw,h2]
   ·rename_i hcb
    have hw:wanted (some (t,b)) e=some false:=by simp [wanted,hv,hcb]
    unfold doK ADo;simp only[hw,ex3]
  ·have hw:wanted (some (t,b)) e=some false:=by simp [wanted,hv]
   unfold doK ADo;simp only[hw,ex3]
  ·rename_i h3 h4
   have hw:wanted (some (t,b)) e=none:=by
    simp only[wanted,hv]
   unfold doK ADo;simp only[hw];simp
 exact key _ rfl
theorem z83 {f:Nat}{a a':List AV}{h h':aA}(ha:a=a')(hh:h=h'):KD C f a h R=KD C f a' h' R:=by rw[ha,hh]
theorem z43 {X:Ctx}{f:Nat}{a a':List AV}{h h':aA}{K:jA}(ha:a=a')(hh:h=h'):eA X f a h K=eA X f a' h' K:=by rw[ha,hh]
theorem z8Y {o:DOp}{r:List DOp}{dn:aC}{hs:List aA}{v:AV}{h':aA}{y:Esc}:qN C gl o r dn hs e h x L v h' y=((o.eff=false→h'=h∧y=[])∧(∀k∈o.early,∃g,hs[k]?=some g∧ADo C gl o.op (zA (some o.rd) e) g v g []) ∧
 (∀j∈o.again,∃q,dn[j]?=some q∧ADo C gl q.1 q.2.1 h' q.2.2 h' [])∧pC C gl r (dn++[(o.op,zA (some o.rd) e,v)]) (hs++[h]) (put o.op.dst v e) h' (y++x) L):=(rfl)
end Go.Am
end
section
/- The abstract machine,part 25: from a call that ends well here tov the model's call on a whole world. -/
set_option linter.unusedSimpArgs false
set_option linter.unusedVariables false
namespace Go.Am
variable {P:Program}
theorem zcX (W:World):HeapRel [] [] W:=⟨rfl,fun id o m h=>by simp at h,fun i j b n n' h=>by simp at h,fun i b n h=>by simp at h⟩
theorem zdo {W:World}{b:Nat}{o:Go.Obj}(hb:W.heap[b]?=some o):(imm [] [] W).b b=some o:=LF.2 ⟨fun⟨id,n,h⟩=>by simp at h,hb⟩
theorem zdp {W:World}{b o:Nat}{v:Value}(hb:W.cell? ⟨b,o,none⟩=some v):(imm [] [] W).c b o=some v:=tC.2 ⟨fun⟨id,n,h,_⟩=>by simp at h,hb⟩
theorem z6P {W W':World}{h:aA}{μ:Mu}(E:(imm [] [] W).le (imm h μ W')):RowKit.Below W.heap.size W W':=by
 have hz:zed W'=zed W:=Option.some.inj E.z
 have hb:∀b,b<W.heap.size→W'.heap[b]?=W.heap[b]?:=fun b hb=>by
  have h1:=Array.getElem?_eq_getElem hb
  rw[h1];exact(LF.1 (E.b b _ (zdo h1))).2
 refine⟨(congrArg World.os hz:(zed W').os=(zed W).os),(congrArg World.tape hz:(zed W').tape=(zed W).tape),(congrArg World.output hz:(zed W').output=(zed W).output),?_,hb⟩;rcases Nat.eq_zero_or_pos W.heap.size with h0|h0
 ·omega
 ·have h1:=hb (W.heap.size-1) (by omega)
  rw[Array.getElem?_eq_getElem (show W.heap.size-1<W.heap.size by omega)]at h1
  have:=(Array.getElem?_eq_some_iff.1 h1).1;omega
theorem z84 {X:Ctx}(HX:Fits P X){f:Nat}{F:AFun}(hF:X.fn f=some F)(args:Array Value)(w:World):(callFunc f args).run P w = .ok (.enter f args) w:=by
 have hck:=HX.fn f F hF
 unfold MR at hck;split at hck
 ·rename_i fn hfn
  split at hck
  ·rename_i c hb
   simp only[Bool.and_eq_true,bne_iff_ne,ne_eq]at hck;exact mU hfn hb hck.2 _ w
  ·cases hck
 ·cases hck
theorem HY {X:Ctx}(HX:Fits P X){f:Nat}{F:AFun}(hF:X.fn f=some F){asv:List AV}{K:jA}(H:eA X f asv [] K){W:World}{vs:List Value}(hG:fD X.gl (imm [] [] W))(hl:asv.length=vs.length)
 (hr:∀(j:Nat) (y:AV) (v:Value),asv[j]?=some y→vs[j]?=some v→RAV (imm [] [] W) [] [] y v) :
 Calls P f vs.toArray W fun
  | .returned r,W'=>(∃v h x μ,K v h x∧RAV (imm h μ W') h μ v r)∧RowKit.Below W.heap.size W W'
  | _,_=>False:=by
 rcases EY HX H [] W vs (zcX W) hG hl hr with⟨_,q⟩|⟨r,w',_,_,_,_,q,_⟩
 case inr=>rw[z84 HX hF]at q;cases q
 refine q.mono fun e W' he=>?_
 cases e with
 | returned r=>
  obtain⟨v,h',x,μ',k1,k2,k3,k4,k5⟩:=he;exact⟨⟨v,h',x,μ',k1,k2⟩,z6P k4.le⟩
 | panicked _=>exact he
 | outgrown=>exact he
def LP (zs:List Int):AV:=.p (.sl none (zs.map fun n=>.int .i64 n))
theorem z88 (W:World):RAV (imm [] [] W) [] [] (LP []) (.slice none 0 0):=.p _ _ (.nils _ _ _)
theorem z87 {W:World}{a:Addr}{len cap:Nat}{zs:List Int}(hs:a.spot=none)(hl:len≤cap)(hz:len≤zs.length)(hc:∀ i,i<zs.length→W.cell? (a.add i)=some (.int .i64 (zs.getD i 0))) :
 RAV (imm [] [] W) [] [] (LP (zs.take len)) (.slice (some a) len cap):=by
 obtain⟨b,o,s⟩:=a;simp only at hs;subst hs;refine .p _ _ ?_;have hlen:((zs.take len).map fun n=>PV.int .i64 n).length=len:=by simp [hz]
 have hfl:((zs.take len).map fun n=>PV.int .i64 n).flatMap PV.cells=(zs.take len).map fun n=>PV.int .i64 n:=by
  generalize zs.take len=l;induction l with
  | nil=>rfl
  | cons n r ih=>simp only[List.map_cons,List.flatMap_cons,ih];rfl
 by_cases h0:len=0
 ·subst h0
  simp;exact .nils _ _ _
 ·have key:=RPV.sl (M:=imm [] [] W) none ((zs.take len).map fun n=>PV.int .i64 n) b o cap (fun j=>.int .i64 (zs.getD j 0)) (fun hh=>by rw[hh]at hlen;simp at hlen;omega) (by rw[hlen];exact hl)
   (fun x hx=>by obtain⟨n,_,rfl⟩:=List.mem_map.1 hx;rfl)
   (fun j y hy=>by
    rw[hfl]at hy;have hj:j<len:=by have:=tA hy;rw[hlen]at this;exact this
    have:=hc j (by omega)
    rw[bC]at this;exact zdp this)
   (fun j y hy=>by
    rw[hfl]at hy;have hj:j<len:=by have:=tA hy;rw[hlen]at this;exact this
    have hjz:j<zs.length:=by omega
    simp [List.getElem?_take,hj,hjz]at hy;subst hy;have:zs.getD j 0=zs[j]:=by simp [List.getD,hjz]
    rw[this];exact .int _ _)
  rwa [hlen]at key
end Go.Am
end
section
/- The abstract machine,part 26: BB calls are computed. -/
set_option linter.unusedSimpArgs false
set_option linter.unusedVariables false
namespace Go.Am
mutual
def PV.same:PV→PV→Bool
 | .int k a,.int k' b=>decide (k=k')&&decide (a=b)
 | .bool a,.bool b=>decide (a=b)
 | .str a,.str b=>decide (a=b)
 | .sl s xs,.sl t ys=>decide (s=t)&&PV.sames xs ys
 | .agg xs,.agg ys=>PV.sames xs ys
 | .nilp,.nilp=>true
 | _,_=>false
def PV.sames:List PV→List PV→Bool
 | [],[]=>true
 | a::asv,b::bs=>PV.same a b&&PV.sames asv bs
 | _,_=>false
end
mutual
theorem PV.same_eq:∀ (a b:PV),PV.same a b=true→a=b
 | .int k a,b,h=>by
  cases b <;> simp [PV.same]at h
  obtain⟨h1,h2⟩:=h;subst h1;subst h2;rfl
 | .bool a,b,h=>by cases b <;> simp [PV.same]at h;subst h;rfl
 | .str a,b,h=>by cases b <;> simp [PV.same]at h;subst h;rfl
 | .sl s xs,b,h=>by
  cases b <;> simp [PV.same]at h
  obtain⟨h1,h2⟩:=h;subst h1;rw[PV.sames_eq _ _ h2]
 | .agg xs,b,h=>by
  cases b <;> simp [PV.same]at h
  rw[PV.sames_eq _ _ h]
 | .nilp,b,h=>by cases b <;> simp [PV.same]at h;rfl
theorem PV.sames_eq:∀ (a b:List PV),PV.sames a b=true→a=b
 | [],b,h=>by cases b <;> simp [PV.sames]at h;rfl
 | x::xs,b,h=>by
  cases b <;> simp [PV.sames]at h
  rw[PV.same_eq _ _ h.1,PV.sames_eq _ _ h.2]
end
mutual
def AV.same:AV→AV→Bool
 | .p a,.p b=>PV.same a b
 | .own a b c d,.own a' b' c' d'=>decide (a=a')&&decide (b=b')&&decide (c=c')&&decide (d=d')
 | .sl0 a,.sl0 b=>decide (a=b)
 | .ref a b,.ref a' b'=>decide (a=a')&&decide (b=b')
 | .rref a b c d,.rref a' b' c' d'=>decide (a=a')&&decide (b=b')&&decide (c=c')&&decide (d=d')
 | .vp a,.vp b=>PV.same a b
 | .nilp,.nilp=>true
 | .nilm,.nilm=>true
 | .nilf,.nilf=>true
 | .nili,.nili=>true
 | .ifc,.ifc=>true
 | .mp a,.mp b=>decide (a=b)
 | .it a,.it b=>decide (a=b)
 | .fn a b,.fn a' b'=>decide (a=a')&&AV.sames b b'
 | .agg a,.agg b=>AV.sames a b
 | .tup a,.tup b=>AV.sames a b
 | .anyb,.anyb=>true
 | .skp,.skp=>true
 | .und,.und=>true
 | .anyp,.anyp=>true
 | .bt a b c d,.bt a' b' c' d'=>decide (a=a')&&decide (b=b')&&decide (c=c')&&decide (d=d')
 | _,_=>false
def AV.sames:List AV→List AV→Bool
 | [],[]=>true
 | a::asv,b::bs=>AV.same a b&&AV.sames asv bs
 | _,_=>false
end
mutual
theorem AV.same_eq:∀ (a b:AV),AV.same a b=true→a=b
 | .p a,b,h=>by cases b <;> simp [AV.same]at h;rw[PV.same_eq _ _ h]
 | .own _ _ _ _,b,h=>by cases b <;> simp [AV.same]at h;simp [h]
 | .sl0 _,b,h=>by cases b <;> simp [AV.same]at h;simp [h]
 | .ref _ _,b,h=>by cases b <;> simp [AV.same]at h;simp [h]
 | .rref _ _ _ _,b,h=>by cases b <;> simp [AV.same]at h;simp [h]
 | .vp a,b,h=>by cases b <;> simp [AV.same]at h;rw[PV.same_eq _ _ h]
 | .nilp,b,h=>by cases b <;> simp [AV.same]at h;rfl
 | .nilm,b,h=>by cases b <;> simp [AV.same]at h;rfl
 | .nilf,b,h=>by cases b <;> simp [AV.same]at h;rfl
 | .nili,b,h=>by cases b <;> simp [AV.same]at h;rfl
 | .ifc,b,h=>by cases b <;> simp [AV.same]at h;rfl
 | .mp _,b,h=>by cases b <;> simp [AV.same]at h;simp [h]
 | .it _,b,h=>by cases b <;> simp [AV.same]at h;simp [h]
 | .fn _ cs,b,h=>by cases b <;> simp [AV.same]at h;rw[h.1,AV.sames_eq _ _ h.2]
 | .agg cs,b,h=>by cases b <;> simp [AV.same]at h;rw[AV.sames_eq _ _ h]
 | .tup cs,b,h=>by cases b <;> simp [AV.same]at h;rw[AV.sames_eq _ _ h]
 | .anyb,b,h=>by cases b <;> simp [AV.same]at h;rfl
 | .skp,b,h=>by cases b <;> simp [AV.same]at h;rfl
 | .und,b,h=>by cases b <;> simp [AV.same]at h;rfl
 | .anyp,b,h=>by cases b <;> simp [AV.same]at h;rfl
 | .bt _ _ _ _,b,h=>by cases b <;> simp [AV.same]at h;simp [h]
theorem AV.sames_eq:∀ (a b:List AV),AV.sames a b=true→a=b
 | [],b,h=>by cases b <;> simp [AV.sames]at h;rfl
 | x::xs,b,h=>by
  cases b <;> simp [AV.sames]at h
  rw[AV.same_eq _ _ h.1,AV.sames_eq _ _ h.2]
end
abbrev EvC:=Nat→List AV→aA→Option (AV × aA × Esc)
def FH (C:EvC)(gl:Nat→Option PV)(o:AOp)(e:List (Nat × AV))(h:aA):Option (AV×aA×Esc):=match wanted o.guard e with
 | some true=>match o.op with
  | .call f args=>C f (args.map (Opd.ev gl e)) h
  | .callv f args=>match Opd.ev gl e f with
   | .fn g caps=>C g (args.map (Opd.ev gl e)++caps) h
   | _=>none
  | .mnext _ _=>none
  | op=>aop op (Opd.ev gl e) h
 | some false=>some (.skp,h,[])
 | none=>none
def VZ (gl:Nat→Option PV)(o:AOp)(e:List (Nat × AV))(h:aA):Option (AV×aA):=match o.op with
 | .mnext sh xs=>match wanted o.guard e with
  | some true=>match zG h sh (xs.map (Opd.ev gl e)) with
   | some [y]=>some y
   | _=>none
  | _=>none
 | _=>none
def GH (C:EvC)(gl:Nat→Option PV):List AOp→List (Nat×AV)→aA→Esc→Option (List (Nat×AV)×aA×Esc)
 | [],e,h,x=>some (e,h,x)
 | o::r,e,h,x=>match FH C gl o e h with
  | some (v,h',x')=>GH C gl r (put o.dst v e) h' (x'++x)
  | none=>match VZ gl o e h with
   | some (v,h')=>GH C gl r (put o.dst v e) h' x
   | none=>none
def AO.still:AO→Bool
 | .mv _ | .pick _ _ _ | .build _ _ | .load _ _ | .nilchk _ | .bin _ _ _ | .eqa _ _ _ _ | .isnil _ _ _ | .mkif _ | .un _ _ | .mkfn _ _ | .slice _ _ _ _ _ | .slstr _ _ _ | .faddr _ _ _ | .field _ _ _ | .iaddr _ _ _
 | .iaddra _ _ _ _ | .idxa _ _ _ _ | .idxs _ _ | .look _ _ _ _ _ | .ext _ _ | .len _ | .lens _ | .lenm _ | .mx _ | .mn _=>true
 | _=>false
def AO.still2:AO→Bool
 | .conv (.i _) _=>true
 | o=>o.still
def ME.same (a b:ME):Bool:=PV.same a.key b.key&&AV.same a.val b.val&&decide (a.born=b.born)
def MEs.same:List ME→List ME→Bool
 | [],[]=>true
 | a::asv,b::bs=>ME.same a b&&MEs.same asv bs
 | _,_=>false
def Obj.same:Obj→Obj→Bool
 | .box a,.box b=>AV.sames a b
 | .row a b c,.row a' b' c'=>decide (a=a')&&PV.sames b b'&&decide (c=c')
 | .amap a b,.amap a' b'=>MEs.same a a'&&decide (b=b')
 | .iter a b c d,.iter a' b' c' d'=>decide (a=a')&&decide (b=b')&&decide (c=c')&&decide (d=d')
 | _,_=>false
def aA.same:List Obj→List Obj→Bool
 | [],[]=>true
 | a::asv,b::bs=>Obj.same a b&&aA.same asv bs
 | _,_=>false
theorem ME.same_eq {a b:ME}(h:ME.same a b=true):a=b:=by
 cases a;cases b
 simp only[ME.same,Bool.and_eq_true,decide_eq_true_eq]at h;obtain⟨⟨h1,h2⟩,h3⟩:=h;rw[PV.same_eq _ _ h1,AV.same_eq _ _ h2,h3]
theorem MEs.same_eq:∀ {a b:List ME},MEs.same a b=true→a=b
 | [],[],_=>rfl
 | [],_::_,h=>by simp [MEs.same]at h
 | _::_,[],h=>by simp [MEs.same]at h
 | a::asv,b::bs,h=>by
  simp only[MEs.same,Bool.and_eq_true]at h;rw[ME.same_eq h.1,MEs.same_eq h.2]
theorem Obj.same_eq {a b:Obj}(h:Obj.same a b=true):a=b:=by
 cases a <;> cases b <;> simp only[Obj.same,Bool.and_eq_true,decide_eq_true_eq]at h <;> first
  | (cases h;done)
  | (rw[AV.sames_eq _ _ h])
  | (obtain⟨⟨h1,h2⟩,h3⟩:=h;rw[h1,PV.sames_eq _ _ h2,h3])
  | (obtain⟨h1,h2⟩:=h;rw[MEs.same_eq h1,h2])
  | (obtain⟨⟨⟨h1,h2⟩,h3⟩,h4⟩:=h;rw[h1,h2,h3,h4])
theorem aA.same_eq:∀ {a b:List Obj},aA.same a b=true→a=b
 | [],[],_=>rfl
 | [],_::_,h=>by simp [aA.same]at h
 | _::_,[],h=>by simp [aA.same]at h
 | a::asv,b::bs,h=>by
  simp only[aA.same,Bool.and_eq_true]at h;rw[Obj.same_eq h.1,aA.same_eq h.2]
def wN (C:EvC)(gl:Nat→Option PV)(o:AOp)(e:List (Nat × AV))(g:aA)(v:AV):Bool:=match FH C gl o e g with
 | some (v',g',y)=>AV.same v' v&&y.isEmpty&&(o.op.still2||aA.same g' g)
 | none=>false
def bK (C:EvC)(gl:Nat→Option PV):List DOp→aC→List aA→List (Nat×AV)→aA→Esc→Option (List (Nat×AV)×aA×Esc)
 | [],_,_,e,h,x=>some (e,h,x)
 | o::r,dn,hs,e,h,x=>match FH C gl o.op (zA (some o.rd) e) h with
  | some (v,h',y)=>
   if(o.eff||o.op.op.still2||y.isEmpty&&aA.same h' h)&&(o.early.all fun k=>match hs[k]? with|some g=>wN C gl o.op (zA (some o.rd) e) g v|none=>false)
    && (o.again.all fun j=>match dn[j]? with|some q=>wN C gl q.1 q.2.1 h' q.2.2|none=>false) then
    bK C gl r (dn++[(o.op,zA (some o.rd) e,v)]) (hs++[h]) (put o.op.dst v e) h' (y++x)
   else none
  | none=>none
def vN (T:St→Option (Ex × St)):Nat→St→Option (Ex×St)
 | 0,_=>none
 | n+1,s=>match T s with
  | some (.normal,s')=>vN T n s'
  | r=>r
def tB (C:EvC)(gl:Nat→Option PV)(n:Nat):ACode→St→Option (Ex×St)
 | .skip,s=>some (.normal,s)
 | .reg ops keep,s=>match GH C gl ops s.env s.h s.esc with
  | some (e,h,x)=>some (.normal,⟨zA keep e,h,x⟩)
  | none=>none
 | .draw ds keep,s=>match bK C gl ds [] [] s.env s.h s.esc with
  | some (e,h,x)=>some (.normal,⟨zA keep e,h,x⟩)
  | none=>none
 | .seq a b,s=>match tB C gl n a s with
  | some (.normal,s')=>tB C gl n b s'
  | r=>r
 | .cond c a b,s=>match Opd.ev gl s.env c with
  | .p (.bool t)=>match t with
   | true=>tB C gl n a s
   | false=>tB C gl n b s
  | _=>none
 | .det b,s=>tB C gl n b s
 | .condu c a b,s=>match Opd.ev gl s.env c with
  | .p (.bool t)=>match t with
   | true=>tB C gl n a s
   | false=>tB C gl n b s
  | _=>none
 | .block id b,s=>match tB C gl n b s with
  | some (.exit i,s')=>if i=id then some (.normal,s') else some (.exit i,s')
  | r=>r
 | .loop b,s=>vN (tB C gl n b) n s
 | .scope b,s=>match tB C gl n b ⟨s.env,s.h,[]⟩ with
  | some (e,s')=>some (e,WD s.h.length s.esc s')
  | none=>none
 | .pr l b,s=>tB C gl n b ⟨zA (some l) s.env,s.h,s.esc⟩
 | .exit id,s=>some (.exit id,s)
 | .ret,s=>some (.ret,s)
 | .bad,_=>none
def sU (F:AFun)(b:Nat)(s:St):Option (AV×aA×Esc):=match mC F.results with
 | true=>none
 | false=>match lC s F.results with
 | some vs=>match F.keep with
  | true=>
   let n:=QB s.esc.length s.esc (max b (JA vs).top)
   if BB s.esc n then some (JA vs,s.h.take n,s.esc.filter fun y=>decide (y.1<n)) else some (JA vs,s.h,s.esc)
  | false=>match FA b s.h (JA vs) with
   | some v0=>
    let n:=QB s.esc.length s.esc (max b v0.top)
    if BB s.esc n then match FA n s.h (JA vs) with
     | some v=>if v.top≤n then some (v,s.h.take n,s.esc.filter fun y=>decide (y.1<n)) else none
     | none=>none
    else some (JA vs,s.h,s.esc)
   | none=>none
 | none=>none
def qU (C:EvC)(gl:Nat→Option PV)(n:Nat)(F:AFun)(args:List AV)(h:aA):Option (AV×aA×Esc):=
 match (if F.byref then some (args,h) else nA h args) with
 | some (asv,h1)=>if asv.length=F.nparams then match tB C gl n F.body ⟨enter asv,h1,[]⟩ with
  | some (.exit _,_)=>none
  | some (_,s)=>sU F h.length s
  | none=>none
  else none
 | none=>none
def pG (C':EvC)(C:Hd):Prop:=∀f a h v h' x (K:jA),C' f a h=some (v,h',x)→K v h' x→C f a h K
variable {C':EvC} {C:Hd} {gl:Nat→Option PV}
theorem RZ (hC:pG C' C){o:AOp}{e:List (Nat × AV)}{h h':aA}{v:AV}{x:Esc}(H:FH C' gl o e h=some (v,h',x)):ADo C gl o e h v h' x:=by
 unfold FH at H;unfold ADo;split at H
 ·rename_i hw
  simp only[hw];obtain⟨dst,guard,op⟩:=o;cases op;case call f args=>exact hC _ _ _ _ _ _ _ H ⟨rfl,rfl,rfl⟩
  case callv f args=>
   dsimp only at H ⊢;split at H
   ·rename_i hf
    simp only[hf];exact hC _ _ _ _ _ _ _ H ⟨rfl,rfl,rfl⟩
   ·cases H
  case mnext sh xs=>cases H
  all_goals exact H
 ·rename_i hw
  simp only[hw];injection H with H
  injection H with h1 H
  injection H with h2 h3
  exact⟨h1.symm,h2.symm,h3.symm⟩
 ·cases H
theorem tU (hC:pG C' C):∀(ops:List AOp) e h x e' h' x' (K:List (Nat×AV)→aA→Esc→Prop),GH C' gl ops e h x=some (e',h',x')→K e' h' x'→GA C gl ops e h x K
 | [],e,h,x,e',h',x',K,H,hK=>by
  simp only[GH,Option.some.injEq,Prod.mk.injEq]at H;obtain⟨rfl,rfl,rfl⟩:=H;exact hK
 | o::r,e,h,x,e',h',x',K,H,hK=>by
  unfold GH at H;split at H
  ·rename_i v h1 x1 hd
   have ih:=tU hC r _ _ _ _ _ _ K H hK
   unfold FH at hd;unfold GA;split at hd
   ·rename_i hw
    simp only[hw];obtain⟨dst,guard,op⟩:=o;cases op;case call f args=>exact hC _ _ _ _ _ _ _ hd ih
    case callv f args=>
     dsimp only at hd ⊢;split at hd
     ·rename_i hf
      simp only[hf];exact hC _ _ _ _ _ _ _ hd ih
     ·cases hd
    case mnext sh xs=>cases hd
    all_goals
     dsimp only at hd ⊢;rw[hd];exact ih
   ·rename_i hw
    simp only[hw];injection hd with hd
    injection hd with h1 hd
    injection hd with h2 h3
    subst h1;subst h2;subst h3
    exact ih
   ·cases hd
  ·split at H
   ·rename_i v h1 hd
    have ih:=tU hC r _ _ _ _ _ _ K H hK
    unfold VZ at hd;unfold GA;split at hd
    ·rename_i sh xs hop
     split at hd
     ·rename_i hw
      simp only[hw,hop];split at hd
      ·rename_i y hm
       injection hd with hd
       subst hd;simp only[hm];refine⟨by simp,fun z hz=>?_⟩
       rw[List.mem_singleton]at hz;subst hz;exact ih
      ·cases hd
     ·cases hd
    ·cases hd
   ·cases H
theorem z6D {o:AO}(hs:o.still=true){ev:Opd→AV}{h h':aA}{v:AV}{x:Esc}(H:aop o ev h=some (v,h',x)):h'=h∧x=[]:=by
 cases o <;> first|(cases hs;done)|skip
 all_goals
  unfold aop at H;dsimp only at H;repeat' split at H
  all_goals first
   | (cases H;done)
   | (simp only[Option.some.injEq,Prod.mk.injEq]at H;obtain⟨_,rfl,rfl⟩:=H;exact⟨rfl,rfl⟩)
   | (simp only[Option.map_eq_some_iff,Prod.mk.injEq]at H;obtain⟨_,_,_,rfl,rfl⟩:=H;exact⟨rfl,rfl⟩)
   | (have H2:=nilc (g:=[]) H;rename_i k neg p;cases hb:RF k (ev p) <;> rw[hb]at H <;> simp only[cond_true,cond_false,Option.map_eq_some_iff,Option.some.injEq,Prod.mk.injEq]at H <;> first|(obtain⟨_,rfl,rfl⟩:=H;exact⟨rfl,rfl⟩)|(obtain⟨_,_,_,rfl,rfl⟩:=H;exact⟨rfl,rfl⟩))
theorem z6E {o:AO}(hs:o.still2=true){ev:Opd→AV}{h h':aA}{v:AV}{x:Esc}(H:aop o ev h=some (v,h',x)):h'=h∧x=[]:=by
 unfold AO.still2 at hs;split at hs
 ·simp only[aop,ZD]at H
  split at H
  ·simp at H;exact⟨H.2.1.symm,H.2.2⟩
  ·simp at H
 ·exact z6D hs H
theorem oQ {o:AOp}(hs:o.op.still2=true){e:List (Nat × AV)}{h h':aA}{v:AV}{x:Esc}(H:ADo C gl o e h v h' x):h'=h∧x=[]:=by
 unfold ADo at H;split at H
 ·obtain⟨dst,guard,op⟩:=o
  cases op <;> first|(cases hs;done)|exact z6E hs H
 ·exact H.2
 ·exact H.elim
theorem zj6 {o:AO}(h:o.still=true):o.still2=true:=by
 cases o <;> first|exact h|(cases h;done)
theorem z4A {o:AOp}(hs:o.op.still=true){e:List (Nat × AV)}{h h':aA}{v:AV}{x:Esc}(H:ADo C gl o e h v h' x):h'=h∧x=[]:=oQ (zj6 hs) H
theorem WZ (hC:pG C' C){o:AOp}{e:List (Nat × AV)}{g:aA}{v:AV}(H:wN C' gl o e g v=true):ADo C gl o e g v g []:=by
 unfold wN at H;split at H
 ·rename_i v' g' y hd
  simp only[Bool.and_eq_true,Bool.or_eq_true,List.isEmpty_iff]at H;obtain⟨⟨h1,h2⟩,h3⟩:=H;have h1:=AV.same_eq _ _ h1
  have:=RZ (C:=C) hC hd;rcases h3 with hs|hs
  ·obtain⟨e1,e2⟩:=oQ hs this
   subst e1;subst e2;subst h1
   exact this
  ·have e1:=aA.same_eq hs
   subst e1;subst h2;subst h1
   exact this
 ·cases H
theorem SZ (hC:pG C' C):∀(ds:List DOp) dn hs e h x e' h' x' (K:List (Nat×AV)→aA→Esc→Prop),bK C' gl ds dn hs e h x=some (e',h',x')→K e' h' x'→pC C gl ds dn hs e h x K
 | [],dn,hs,e,h,x,e',h',x',K,H,hK=>by
  simp only[bK,Option.some.injEq,Prod.mk.injEq]at H;obtain⟨rfl,rfl,rfl⟩:=H;exact hK
 | o::r,dn,hs,e,h,x,e',h',x',K,H,hK=>by
  unfold bK at H;split at H
  ·rename_i v h1 y hd
   split at H
   ·rename_i hc
    simp only[Bool.and_eq_true,Bool.or_eq_true,List.all_eq_true]at hc;obtain⟨⟨c1,c2⟩,c3⟩:=hc;have hdo:=RZ (C:=C) hC hd
    refine⟨v,h1,y,hdo,fun he=>?_,fun k hk=>?_,fun j hj=>?_,SZ hC r _ _ _ _ _ _ _ _ K H hK⟩
    ·rcases c1 with(c1|c1)|⟨c1,c4⟩
     ·rw[c1]at he;cases he
     ·exact oQ c1 hdo
     ·rw[List.isEmpty_iff]at c1
      exact⟨aA.same_eq c4,c1⟩
    ·have:=c2 k hk
     split at this
     ·rename_i g hg
      exact⟨g,hg,WZ hC this⟩
     ·cases this
    ·have:=c3 j hj
     split at this
     ·rename_i q hq
      exact⟨q,hq,WZ hC this⟩
     ·cases this
   ·cases H
  ·cases H
theorem UZ {T':St→Option (Ex × St)}{T:St→(Ex→St→Prop)→Prop}(hT:∀ s e s' K,T' s=some (e,s')→K e s'→T s K):∀n s e s' K,vN T' n s=some (e,s')→K e s'→ALoop T K s
 | 0,s,e,s',K,H,hK=>by cases H
 | n+1,s,e,s',K,H,hK=>by
  unfold vN at H;split at H
  ·rename_i s1 h1
   refine .mk s (fun e2 s2=>e2 = .normal∧s2=s1) (hT _ _ _ _ h1 ⟨rfl,rfl⟩) (fun s2 ⟨_,h2⟩=>?_) (fun i s2 ⟨h2,_⟩=>by cases h2) (fun s2 ⟨h2,_⟩=>by cases h2)
   subst h2;exact UZ hT n _ _ _ K H hK
  ·rename_i hne
   have hne':e ≠ .normal:=fun he=>by subst he;exact hne _ H
   refine .mk s (fun e2 s2=>e2=e∧s2=s') (hT _ _ _ _ H ⟨rfl,rfl⟩) (fun s2 ⟨h2,_⟩=>(hne' h2.symm).elim) (fun i s2 ⟨h2,h3⟩=>by subst h3;rw[h2];exact hK) (fun s2 ⟨h2,h3⟩=>by subst h3;rw[h2];exact hK)
theorem jD (hC:pG C' C)(n:Nat):∀(c:ACode) s e s' (K:Ex→St→Prop),tB C' gl n c s=some (e,s')→K e s'→AW C gl c s K
 | .skip,s,e,s',K,H,hK=>by
  simp only[tB,Option.some.injEq,Prod.mk.injEq]at H;obtain⟨rfl,rfl⟩:=H;exact hK
 | .reg ops keep,s,e,s',K,H,hK=>by
  unfold tB at H;split at H
  ·rename_i h1
   simp only[Option.some.injEq,Prod.mk.injEq]at H;obtain⟨rfl,rfl⟩:=H;exact tU hC _ _ _ _ _ _ _ _ h1 hK
  ·cases H
 | .draw ds keep,s,e,s',K,H,hK=>by
  unfold tB at H;split at H
  ·rename_i h1
   simp only[Option.some.injEq,Prod.mk.injEq]at H;obtain⟨rfl,rfl⟩:=H;exact SZ hC _ _ _ _ _ _ _ _ _ _ h1 hK
  ·cases H
 | .seq a b,s,e,s',K,H,hK=>by
  unfold tB at H;unfold AW;split at H
  ·rename_i s1 h1
   exact jD hC n a s _ _ _ h1 (jD hC n b _ _ _ K H hK)
  ·rename_i hne
   have hne':e ≠ .normal:=fun he=>by subst he;exact hne _ H
   refine jD hC n a s _ _ _ H ?_;cases e with
   | normal=>exact(hne' rfl).elim
   | exit i=>exact hK
   | ret=>exact hK
 | .det b,s,e,s',K,H,hK=>by
  unfold tB at H;exact jD hC n b s _ _ K H hK
 | .condu c a b,s,e,s',K,H,hK=>by
  unfold tB at H;unfold AW;split at H
  ·rename_i t ht
   simp only[ht];split at H
   ·exact jD hC n a s _ _ _ H hK
   ·exact jD hC n b s _ _ _ H hK
  ·cases H
 | .cond c a b,s,e,s',K,H,hK=>by
  unfold tB at H;unfold AW;split at H
  ·rename_i t ht
   simp only[ht];split at H
   ·exact jD hC n a s _ _ _ H hK
   ·exact jD hC n b s _ _ _ H hK
  ·cases H
 | .block id b,s,e,s',K,H,hK=>by
  unfold tB at H;unfold AW;split at H
  ·rename_i i s1 h1
   refine jD hC n b s _ _ _ h1 ?_;dsimp only;split at H
   ·rw[if_pos ‹_›]
    simp only[Option.some.injEq,Prod.mk.injEq]at H;obtain⟨rfl,rfl⟩:=H;exact hK
   ·rw[if_neg ‹_›]
    simp only[Option.some.injEq,Prod.mk.injEq]at H;obtain⟨rfl,rfl⟩:=H;exact hK
  ·rename_i hne
   refine jD hC n b s _ _ _ H ?_;cases e with
   | normal=>exact hK
   | exit i=>exact(hne _ _ H).elim
   | ret=>exact hK
 | .loop b,s,e,s',K,H,hK=>by
  unfold tB at H;unfold AW;exact UZ (fun s e s' K h k=>jD hC n b s e s' K h k) n s e s' K H hK
 | .scope b,s,e,s',K,H,hK=>by
  unfold tB at H;unfold AW;split at H
  ·rename_i e1 s1 h1
   simp only[Option.some.injEq,Prod.mk.injEq]at H;obtain⟨rfl,rfl⟩:=H;exact jD hC n b _ _ _ _ h1 hK
  ·cases H
 | .pr l b,s,e,s',K,H,hK=>by
  unfold tB at H;unfold AW;exact jD hC n b _ _ _ K H hK
 | .exit id,s,e,s',K,H,hK=>by
  simp only[tB,Option.some.injEq,Prod.mk.injEq]at H;obtain⟨rfl,rfl⟩:=H;exact hK
 | .ret,s,e,s',K,H,hK=>by
  simp only[tB,Option.some.injEq,Prod.mk.injEq]at H;obtain⟨rfl,rfl⟩:=H;exact hK
 | .bad,s,e,s',K,H,hK=>by simp only[tB]at H;cases H
theorem TZ {F:AFun}{b:Nat}{s:St}{v:AV}{h:aA}{x:Esc}{K:jA}(H:sU F b s=some (v,h,x))(hK:K v h x):fin F b s K:=by
 unfold sU at H;unfold fin;split at H
 ·cases H
 rename_i h0;simp only[h0];split at H
 ·rename_i h1
  simp only[h1];split at H
  ·rename_i h2
   simp only[h2];dsimp only at H ⊢;split at H
   ·rw[if_pos ‹_›];simp only[Option.some.injEq,Prod.mk.injEq]at H;obtain⟨rfl,rfl,rfl⟩:=H;exact hK
   ·rw[if_neg ‹_›];simp only[Option.some.injEq,Prod.mk.injEq]at H;obtain⟨rfl,rfl,rfl⟩:=H;exact hK
  ·rename_i h2
   simp only[h2];split at H
   ·rename_i h3
    simp only[h3];dsimp only at H ⊢;split at H
    ·rw[if_pos ‹_›]
     split at H
     ·rename_i h4
      simp only[h4];split at H
      ·simp only[Option.some.injEq,Prod.mk.injEq]at H;obtain⟨rfl,rfl,rfl⟩:=H;exact⟨‹_›,hK⟩
      ·cases H
     ·cases H
    ·rw[if_neg ‹_›];simp only[Option.some.injEq,Prod.mk.injEq]at H;obtain⟨rfl,rfl,rfl⟩:=H;exact hK
   ·cases H
 ·cases H
theorem QZ (hC:pG C' C){n:Nat}{F:AFun}{a:List AV}{h:aA}{v:AV}{h':aA}{x:Esc}{K:jA}(H:qU C' gl n F a h=some (v,h',x))(hK:K v h' x):WB C gl F a h K:=by
 unfold qU at H;unfold WB;split at H
 ·rename_i asv h1 hp
  simp only[hp];split at H
  ·rename_i hl
   refine⟨hl,?_⟩;cases he:tB C' gl n F.body ⟨enter asv,h1,[]⟩ with
   | none=>rw[he]at H;cases H
   | some y=>
    obtain⟨e,s⟩:=y;rw[he]at H;refine jD hC n _ _ _ _ _ he ?_;cases e with
    | exit i=>cases H
    | normal=>exact TZ H hK
    | ret=>exact TZ H hK
  ·cases H
 ·cases H
def aK (X:Ctx)(o:Nat→List AV→Option AV)(n:Nat):Nat→EvC
 | 0,_,_,_=>none
 | d+1,f,a,h=>match o f a with
  | some v=>some (v,h,[])
  | none=>match X.fn f with
   | some F=>qU (aK X o n d) X.gl n F a h
   | none=>match X.ex2 f a h with
    | some r=>some r
    | none=>match nA h a with
     | some (asv,h1)=>match unp asv with
      | some vs=>match X.ext f vs with
       | some r=>some (.p r,h1,[])
       | none=>none
      | none=>none
     | none=>none
theorem rU (X:Ctx)(o:Nat→List AV→Option AV)(ho:∀ f a v,o f a=some v→∀ h (K:jA),K v h []→eA X f a h K)(n:Nat):∀d,pG (aK X o n d) (eA X)
 | 0,f,a,h,v,h',x,K,H,hK=>by cases H
 | d+1,f,a,h,v,h',x,K,H,hK=>by
  unfold aK at H;split at H
  ·rename_i v1 hv
   simp only[Option.some.injEq,Prod.mk.injEq]at H;obtain⟨rfl,rfl,rfl⟩:=H;exact ho _ _ _ hv _ _ hK
  refine eA.fold ?_;unfold IB;split at H
  ·rename_i F hF
   simp only[hF];unfold VC;cases hd:F.isDet with
   | true=>exact⟨v,h',x,hK,QZ (rU X o ho n d) H ⟨rfl,rfl,rfl⟩⟩
   | false=>exact QZ (rU X o ho n d) H hK
  ·rename_i hF
   simp only[hF];split at H
   ·rename_i hx2
    simp only[hx2];simp only[Option.some.injEq]at H;subst H;exact hK
   ·rename_i hx2
    simp only[hx2];split at H
    ·rename_i hp
     simp only[hp];split at H
     ·rename_i hu
      simp only[hu];split at H
      ·rename_i hx
       simp only[hx];simp only[Option.some.injEq,Prod.mk.injEq]at H;obtain⟨rfl,rfl,rfl⟩:=H;exact hK
      ·cases H
     ·cases H
    ·cases H
theorem z45 {X:Ctx}{f:Nat}{a:List AV}{h:aA}{v:AV}{h':aA}{x:Esc}{o:Nat→List AV→Option AV}(ho:∀ f a v,o f a=some v→∀ h (K:jA),K v h []→eA X f a h K)(n d:Nat)(H:aK X o n d f a h=some (v,h',x))(K:jA):eA X f a h K↔K v h' x:=
 eA.eq (rU X o ho n d _ _ _ _ _ _ _ H ⟨rfl,rfl,rfl⟩) K
end Go.Am
end
section
/- The abstract machine,part 27: loops,and the rules of computing asv one set. -/
set_option linter.unusedSimpArgs false
set_option linter.unusedVariables false
namespace Go.Am
variable {C:Hd} {gl:Nat→Option PV} {e:List (Nat × AV)} {h:aA} {x:Esc} {K:Ex→St→Prop} {s:St}
def TN {σ:Type}(S:σ→St)(P:σ→Prop)(m:σ→Nat)(K:Ex→St→Prop)(s:σ)(e:Ex)(s':St):Prop:=match e with
 | .normal=>∃t,s'=S t∧P t∧m t<m s
 | .exit i=>K (.exit i) s'
 | .ret=>K .ret s'
theorem z2f {σ:Type}{S:σ→St}{P:σ→Prop}{m:σ→Nat}{K:Ex→St→Prop}{t:σ}{s':St}:TN S P m K t .normal s' = ∃u,s'=S u∧P u∧m u<m t:=(rfl)
theorem z2e {σ:Type}{S:σ→St}{P:σ→Prop}{m:σ→Nat}{K:Ex→St→Prop}{t:σ}{s':St}{i:Nat}:TN S P m K t (.exit i) s'=K (.exit i) s':=(rfl)
theorem z2g {σ:Type}{S:σ→St}{P:σ→Prop}{m:σ→Nat}{K:Ex→St→Prop}{t:σ}{s':St}:TN S P m K t .ret s'=K .ret s':=(rfl)
theorem AX {T:St→(Ex→St→Prop)→Prop}{K:Ex→St→Prop}{s s':St}(h:T s=T s'):ALoop T K s=ALoop T K s':=by
 refine propext ⟨fun H=>?_,fun H=>?_⟩
 ·cases H with|mk _ R a b c d=>exact .mk _ R (h ▸ a) b c d
 ·cases H with|mk _ R a b c d=>exact .mk _ R (h.symm ▸ a) b c d
theorem z67 {l:List Nat}{e:List (Nat × AV)}{t:Nat}(ht:t∈l):bA (zA (some l) e) t=bA e t:=by
 simp only[zA];induction l with
 | nil=>cases ht
 | cons k r ih=>
  simp only[List.map_cons,bA];split
  ·rename_i hk;rw[hk]
  ·rename_i hk
   rcases List.mem_cons.1 ht with h1|h1
   ·exact absurd h1.symm hk
   ·exact ih h1
theorem z2C {l:List Nat}{e:List (Nat × AV)}:zA (some l) (zA (some l) e)=zA (some l) e:=by
 show l.map _=l.map _
 exact List.map_congr_left fun t ht=>by rw[z67 ht]
theorem sF {α:Type}(h l:List α)(n:Nat):(h++l)[h.length+n]?=l[n]?:=by
 rw[List.getElem?_append_right (by omega)];congr 1;omega
theorem DJ {α:Type}(h l:List α):(h++l)[h.length]?=l[0]?:=by
 rw[List.getElem?_append_right (by omega)];congr 1;omega
theorem EJ {α:Type}(h l:List α)(n:Nat)(o:α):(h++l).set (h.length+n) o=h++l.set n o:=by
 rw[List.set_append_right _ _ (by omega)];congr 2;omega
theorem z6H {α:Type}(h l:List α)(o:α):(h++l).set h.length o=h++l.set 0 o:=by
 rw[List.set_append_right _ _ (by omega)];congr 2;omega
theorem oY {α:Type}(h l:List α)(n:Nat):(h++l).take (h.length+n)=h++l.take n:=List.take_length_add_append ..
theorem pY {α:Type}(h l:List α):(h++l).take h.length=h:=List.take_left ..
theorem BR (h l:aA)(n k:Nat):frz (h++l) (h.length+n) k=h++frz l n k:=by
 unfold frz;rw[sF];cases l[n]? with
 | none=>rfl
 | some o=>cases o <;> first|rfl|simp only[EJ]
theorem z6F (h l:aA)(k:Nat):frz (h++l) h.length k=h++frz l 0 k:=BR h l 0 k
theorem yA (n:Int)(h1 : -9223372036854775808≤n)(h2:n≤9223372036854775807):IntKind.i64.wrap n=n:=by
 simp [IntKind.wrap,IntKind.bits,IntKind.signed];omega
def oA (rs:List ARes)(kp:Bool)(b:Nat)(P:jA)(e:Ex)(s:St):Prop:=match e with
 | .exit _=>False
 | _=>match lC s rs with
  | some vs=>match kp with
   | true=>
    let n:=QB s.esc.length s.esc (max b (JA vs).top)
    if BB s.esc n then P (JA vs) (s.h.take n) (s.esc.filter fun y=>decide (y.1<n)) else P (JA vs) s.h s.esc
   | false=>match FA b s.h (JA vs) with
    | some v0=>
     let n:=QB s.esc.length s.esc (max b v0.top)
     if BB s.esc n then match FA n s.h (JA vs) with
      | some v=>v.top≤n∧P v (s.h.take n) (s.esc.filter fun y=>decide (y.1<n))
      | none=>False
     else P (JA vs) s.h s.esc
    | none=>False
  | none=>False
theorem z0Y {F:AFun}(hO:mC F.results=false){b:Nat}{s:St}{P:jA}:fin F b s P=oA F.results F.keep b P .ret s:=by
 unfold fin;rw[hO];rfl
theorem IU {F:AFun}(hO:mC F.results=false){b:Nat}{P:jA}:finK F b P=oA F.results F.keep b P:=by
 funext e s
 cases e with
 | exit i=>rfl
 | normal=>exact z0Y hO
 | ret=>exact z0Y hO
def OK (rs:List ARes)(b:Nat)(P:jA)(e:Ex)(s:St):Prop:=match e with
 | .exit _=>False
 | _=>SD b P rs (lC s rs) s.h s.esc
theorem z0V {F:AFun}(hO:mC F.results=true){b:Nat}{P:jA}:finK F b P=OK F.results b P:=by
 funext e s
 cases e with
 | exit i=>rfl
 | normal=>show fin F b s P=_;unfold fin;rw[hO];rfl
 | ret=>show fin F b s P=_;unfold fin;rw[hO];rfl
def cD (kp:Bool)(b:Nat)(P:jA)(o:Option (List AV))(h:aA)(x:Esc):Prop:=match o with
 | some vs=>match kp with
  | true=>
   let n:=QB x.length x (max b (JA vs).top)
   if BB x n then P (JA vs) (h.take n) (x.filter fun y=>decide (y.1<n)) else P (JA vs) h x
  | false=>match FA b h (JA vs) with
   | some v0=>
    let n:=QB x.length x (max b v0.top)
    if BB x n then match FA n h (JA vs) with
     | some v=>v.top≤n∧P v (h.take n) (x.filter fun y=>decide (y.1<n))
     | none=>False
    else P (JA vs) h x
   | none=>False
 | none=>False
theorem z0W {rs:List ARes}{kp:Bool}{b:Nat}{P:jA}{e:List (Nat × AV)}{h:aA}{x:Esc}:oA rs kp b P .normal ⟨e,h,x⟩=cD kp b P (lC ⟨e,h,x⟩ rs) h x:=(rfl)
theorem z0X {rs:List ARes}{kp:Bool}{b:Nat}{P:jA}{e:List (Nat × AV)}{h:aA}{x:Esc}:oA rs kp b P .ret ⟨e,h,x⟩=cD kp b P (lC ⟨e,h,x⟩ rs) h x:=(rfl)
theorem zcC {rs:List ARes}{kp:Bool}{b:Nat}{P:jA}{ex ex':Ex}{s s':St}(he:ex=ex')(hs:s=s'):oA rs kp b P ex s=oA rs kp b P ex' s':=by rw[he,hs]
theorem LW {b:Nat}{P:jA}{vs:List AV}{h:aA}(ht:(JA vs).top≤b)(hr:∀ b,FA b h (JA vs)=some (JA vs)):cD false b P (some vs) h []=P (JA vs) (h.take b) []:=by
 simp only[cD,hr,QB,List.length_nil,BB,List.all_nil,if_true,List.filter_nil,Nat.max_eq_left ht,ht,true_and]
theorem z2O {b:Nat}{h:aA}{v:PV}:FA b h (.p v)=some (.p v):=(rfl)
theorem z2Q {b:Nat}{h:aA}:RD b h []=some []:=(rfl)
theorem ziw {b:Nat}{P:jA}{v:PV}{h:aA}:cD false b P (some [.p v]) h []=P (.p v) (h.take b) []:=LW (Nat.zero_le _) (fun _=>rfl)
theorem zix {b:Nat}{P:jA}{v u:PV}{h:aA}:cD false b P (some [.p v,.p u]) h []=P (.tup [.p v,.p u]) (h.take b) []:=LW (by simp [JA,AV.top,AV.tops]) (fun _=>rfl)
theorem ziv {b:Nat}{P:jA}{h:aA}:cD false b P (some []) h []=P (.tup []) (h.take b) []:=LW (by simp [JA,AV.top,AV.tops]) (fun _=>rfl)
theorem zjJ {h:aA}:h.take h.length=h:=List.take_length
theorem zeW {v:AV}:JA [v]=v:=(rfl)
theorem zj2 {X:Ctx}{f:Nat}{F:AFun}{a asv:List AV}{h h1:aA}{P:jA}(hf:X.fn f=some F)(hr:F.byref=false)(hp:nA h a=some (asv,h1))(hl:asv.length=F.nparams)(hd:F.isDet=false)(hO:mC F.results=false) :
 eA X f a h P=AW (eA X) X.gl F.body ⟨enter asv,h1,[]⟩ (oA F.results F.keep h.length P):=by
 rw[rQ hf hd,WL hr hp hl,IU hO]
theorem zj0 {X:Ctx}{f:Nat}{F:AFun}{asv:List AV}{h:aA}{P:jA}(hf:X.fn f=some F)(hr:F.byref=true)(hl:asv.length=F.nparams)(hd:F.isDet=false)(hO:mC F.results=false) :
 eA X f asv h P=AW (eA X) X.gl F.body ⟨enter asv,h,[]⟩ (oA F.results F.keep h.length P):=by
 rw[rQ hf hd,z64 hr hl,IU hO]
theorem zj4 {X:Ctx}{f:Nat}{F:AFun}{a asv:List AV}{h h1:aA}{P:jA}(hf:X.fn f=some F)(hr:F.byref=false)(hp:nA h a=some (asv,h1))(hl:asv.length=F.nparams)(hd:F.isDet=true)(hO:mC F.results=false) :
 eA X f a h P = ∃v h' x,P v h' x∧AW (eA X) X.gl F.body ⟨enter asv,h1,[]⟩ (oA F.results F.keep h.length fun v1 h1 x1=>v1=v∧h1=h'∧x1=x):=by
 rw[YX hf hd];simp only[WL hr hp hl,IU hO]
theorem zj3 {X:Ctx}{f:Nat}{F:AFun}{a asv:List AV}{h h1:aA}{P:jA}(hf:X.fn f=some F)(hr:F.byref=false)(hp:nA h a=some (asv,h1))(hl:asv.length=F.nparams)(hd:F.isDet=false)(hO:mC F.results=true) :
 eA X f a h P=AW (eA X) X.gl F.body ⟨enter asv,h1,[]⟩ (OK F.results h.length P):=by
 rw[rQ hf hd,WL hr hp hl,z0V hO]
theorem zj5 {X:Ctx}{f:Nat}{F:AFun}{a asv:List AV}{h h1:aA}{P:jA}(hf:X.fn f=some F)(hr:F.byref=false)(hp:nA h a=some (asv,h1))(hl:asv.length=F.nparams)(hd:F.isDet=true)(hO:mC F.results=true) :
 eA X f a h P = ∃v h' x,P v h' x∧AW (eA X) X.gl F.body ⟨enter asv,h1,[]⟩ (OK F.results h.length fun v1 h1 x1=>v1=v∧h1=h'∧x1=x):=by
 rw[YX hf hd];simp only[WL hr hp hl,z0V hO]
theorem CA {X:Ctx}{f:Nat}{a:List AV}{h:aA}{v:AV}{h':aA}{x:Esc}{K:jA}(H:eA X f a h fun v1 h1 x1=>v1=v∧h1=h'∧x1=x):eA X f a h K=K v h' x:=propext (eA.eq H K)
theorem z2o {k:IntKind}{n:Nat}:WA (.p (.int k (n:Int)))=some n:=by simp [WA]
theorem zeG {k:IntKind}{n:Nat}:WA (.p (.int k (no_index (OfNat.ofNat n:Int))))=some (OfNat.ofNat n:Nat):=z2o (n:=n)
theorem AE {k:IntKind}{n:Int}(h:0≤n):WA (.p (.int k n))=some n.toNat:=by simp [WA,h]
theorem aB {α β:Type}(f:α→β){l:List α}{k:Nat}(h:k<l.length):(l.map f)[k]?=some (f l[k]):=by simp [h]
theorem z4x {α β:Type}(f:α→β)(l:List α)(a b:Nat):win (l.map f) a b=(win l a b).map f:=by simp [win,List.map_drop,List.map_take]
attribute [go_sem] eqs PV.eq1 PV.kind ne_eq not_false_eq_true not_true_eq_false Bool.and_self Bool.or_self Bool.not_eq_true
attribute [go_sem] Nat.max_le Nat.add_le_add_iff_left Option.isSome_none Option.isSome_some false_and and_false List.length_range Nat.sub_zero Nat.le_add_right
attribute [go_sem] z2o zeG Int.ofNat_lt Int.ofNat_le List.length_map
attribute [go_sem] z0W z0X ziv ziw zix zjJ List.zipIdx_cons List.zipIdx_nil List.map_cons List.map_nil Nat.reduceAdd Nat.reduceEqDiff if_true if_false Option.map_some Option.map_none List.append_nil List.nil_append decide_eq_true_eq
def doS (C:Hd)(gl:Nat→Option PV)(q:AOp × List (Nat × AV) × AV)(h:aA):Prop:=ADo C gl q.1 q.2.1 h q.2.2 h []
def agK (C:Hd)(gl:Nat→Option PV)(h:aA)(dn:aC):List Nat→Prop
 | []=>True
 | j::r=>(match dn[j]? with|some q=>doS C gl q h|none=>False)∧agK C gl h dn r
def eaK (C:Hd)(gl:Nat→Option PV)(o:AOp)(e:List (Nat × AV))(v:AV)(hs:List aA):List Nat→Prop
 | []=>True
 | k::r=>(match hs[k]? with|some g=>doS C gl (o,e,v) g|none=>False)∧eaK C gl o e v hs r
theorem eY {C:Hd}{gl:Nat→Option PV}{h:aA}{dn:aC}:∀{l:List Nat},agK C gl h dn l↔∀j∈l,∃q,dn[j]?=some q∧ADo C gl q.1 q.2.1 h q.2.2 h []
 | []=>by simp [agK]
 | j::r=>by
  simp only[agK,List.mem_cons,forall_eq_or_imp];rw[eY (l:=r)];refine and_congr_left (fun _=>?_)
  cases hd:dn[j]? with
  | none=>simp
  | some q=>simp [doS]
theorem EZ {C:Hd}{gl:Nat→Option PV}{o:AOp}{e:List (Nat × AV)}{v:AV}{hs:List aA}:∀{l:List Nat},eaK C gl o e v hs l↔∀k∈l,∃g,hs[k]?=some g∧ADo C gl o e g v g []
 | []=>by simp [eaK]
 | j::r=>by
  simp only[eaK,List.mem_cons,forall_eq_or_imp];rw[EZ (l:=r)];refine and_congr_left (fun _=>?_)
  cases hd:hs[j]? with
  | none=>simp
  | some q=>simp [doS]
def effK (b:Bool)(h h':aA)(y:Esc):Prop:=match b with
 | true=>True
 | false=>h'=h∧y=[]
theorem BZ {C:Hd}{gl:Nat→Option PV}{e:List (Nat × AV)}{h:aA}{x:Esc}{L:List (Nat × AV)→aA→Esc→Prop}{op:AOp}{rd early again:List Nat}{eff:Bool}{r:List DOp}{dn:aC}{hs:List aA}{v:AV}{h':aA}{y:Esc} :
 qN C gl ⟨op,rd,eff,early,again⟩ r dn hs e h x L v h' y=(effK eff h h' y∧eaK C gl op (zA (some rd) e) v hs early∧agK C gl h' dn again∧pC C gl r (dn++[(op,zA (some rd) e,v)]) (hs++[h]) (put op.dst v e) h' (y++x) L):=by
 rw[z8Y,←propext EZ,←propext eY];cases eff <;> simp [effK]
theorem zZ {C:Hd}{gl:Nat→Option PV}{d:Option Nat}{g:Option (Nat × Bool)}{op:AO}{e:List (Nat × AV)}{v:AV}{h:aA}:doS C gl (⟨d,g,op⟩,e,v) h=doK C gl ⟨d,g,op⟩ e h (fun v1 h1 x1=>v1=v∧h1=h∧x1=[]):=by
 unfold doS doK;refine propext ⟨fun H=>⟨_,_,_,H,rfl,rfl,rfl⟩,fun⟨v1,h1,x1,H,a,b,c⟩=>by subst a;subst b;subst c;exact H⟩
theorem z8L {p:Prop}[Decidable p]{A B:Prop}:NA (.p (.bool (decide p))) A B=if p then A else B:=by rw[aZ];simp
def uF (C:Hd)(v:AV)(asv:List AV)(h:aA)(L:jA):Prop:=match v with
 | .fn g caps=>C g (asv++caps) h L
 | _=>False
theorem CX {C:Hd}{gl:Nat→Option PV}{e:List (Nat × AV)}{h:aA}{x:Esc}{L:List (Nat × AV)→aA→Esc→Prop}{d:Option Nat}{f:Opd}{args:List Opd}{r:List AOp} :
 GA C gl (⟨d,none,.callv f args⟩::r) e h x L=uF C (Opd.ev gl e f) (args.map (Opd.ev gl e)) h (yH C gl r d e x L):=by
 have h2:wanted none e=some true:=(rfl)
 rw[GA];simp only[h2];unfold uF;split <;> simp_all <;> rfl
def IJ (C:Hd)(v:AV)(asv:List AV)(h:aA)(R:AV→aA→Esc→Prop):Prop:=match v with
 | .fn g caps=>KD C g (asv++caps) h R
 | _=>False
theorem xZ {C:Hd}{gl:Nat→Option PV}{e:List (Nat × AV)}{h:aA}{R:AV→aA→Esc→Prop}{d:Option Nat}{f:Opd}{args:List Opd} :
 doK C gl ⟨d,none,.callv f args⟩ e h R=IJ C (Opd.ev gl e f) (args.map (Opd.ev gl e)) h R:=by
 have h2:wanted none e=some true:=(rfl)
 unfold doK ADo;simp only[h2];unfold IJ KD;split <;> simp_all
theorem z86 {C:Hd}{g:Nat}{caps asv:List AV}{h:aA}{L:jA}:uF C (.fn g caps) asv h L=C g (asv++caps) h L:=(rfl)
theorem z85 {C:Hd}{v v':AV}{asv asv':List AV}{h h':aA}{L:jA}(h1:v=v')(h2:asv=asv')(h3:h=h'):uF C v asv h L=uF C v' asv' h' L:=by rw[h1,h2,h3]
attribute [go_sem] CX xZ z86
attribute [congr] z85
theorem z8S {k:IntKind}{n:Int}:qB none 0 (.int k n)=some (.int k n):=(rfl)
theorem z8U {s:List UInt8}:qB none 0 (.str s)=some (.str s):=(rfl)
theorem z8T {v:PV}(h:v.sc=true):qB none 0 v=some v:=by cases v <;> first|rfl|cases h
attribute [go_sem] z8S z8U
theorem zcj {id:Nat}{v:PV}:GB id (.p v)=[]:=(rfl)
attribute [go_sem] List.take_succ_cons List.take_zero List.take_nil List.drop_succ_cons List.drop_zero List.drop_nil List.length_cons List.length_nil Nat.reduceLeDiff Nat.reduceLT Int.reduceLT Int.reduceLE Int.reduceAdd Int.reduceSub Int.reduceMul Int.reduceNeg Int.reduceEq Nat.reduceSub Nat.reduceMul Nat.le_refl List.append_assoc
theorem zjY {b:Nat}{x0:Esc}{e:List (Nat × AV)}{h:aA}:WD b x0 ⟨e,h,[]⟩=⟨SE b e,h.take b,x0⟩:=(rfl)
theorem z8C {n:Nat}:SE n []=[]:=(rfl)
theorem z8B {n k:Nat}{v:AV}{r:List (Nat × AV)}:SE n ((k,v)::r)=(k,if v.top≤n then v else .und)::SE n r:=(rfl)
theorem top_p {v:PV}:AV.top (.p v)=0:=(rfl)
theorem zjO {id g o l:Nat}:AV.top (.own id g o l)=id+1:=by simp [AV.top]
theorem zjP {id o:Nat}:AV.top (.ref id o)=id+1:=by simp [AV.top]
theorem zjN {f:Nat}{cs:List AV}:AV.top (.fn f cs)=AV.tops cs:=by simp [AV.top]
theorem zjM {cs:List AV}:AV.top (.agg cs)=AV.tops cs:=by simp [AV.top]
theorem zjR {cs:List AV}:AV.top (.tup cs)=AV.tops cs:=by simp [AV.top]
theorem zjQ {sh:Sh}:AV.top (.sl0 sh)=0:=(rfl)
theorem zjV:AV.tops []=0:=(rfl)
theorem zjS {v:AV}{r:List AV}:AV.tops (v::r)=max v.top (AV.tops r):=by simp [AV.tops]
theorem ziy {b:Nat}{P:jA}{vs:List AV}{h:aA}:cD false b P (some vs) h []=match FA b h (JA vs) with
 | some v0=>match FA (max b v0.top) h (JA vs) with
  | some v=>v.top≤max b v0.top∧P v (h.take (max b v0.top)) []
  | none=>False
 | none=>False:=by
 simp only[cD,QB,List.length_nil,BB,List.all_nil,if_true,List.filter_nil]
theorem z2N {b:Nat}{h:aA}{id g off len:Nat}:FA b h (.own id g off len)=if b≤id then(rd h (.own id g off len)).map fun y=>.p (.sl y.1 y.2) else some (.own id g off len):=by simp only[FA]
theorem z2L {b:Nat}{h:aA}{cs:List AV}:FA b h (.agg cs)=(RD b h cs).map mkA:=by simp only[FA]
theorem zit {b:Nat}{h:aA}{cs:List AV}:FA b h (.tup cs)=(RD b h cs).map .tup:=by simp only[FA]
theorem zis {b f:Nat}{h:aA}{cs:List AV}:FA b h (.fn f cs)=some (.fn f cs):=by simp only[FA]
theorem z2P {b:Nat}{h:aA}{v:AV}{r:List AV}:RD b h (v::r)=(match FA b h v with|some x=>(RD b h r).map (x :: ·)|none=>none):=by rw[RD];cases FA b h v <;> rfl
theorem zeX {v u:AV}{r:List AV}:JA (v::u::r) = .tup (v::u::r):=(rfl)
theorem z3H {h l:aA}{id:Nat}{o:Obj}(hid:id<h.length):(h++l).set id o=h.set id o++l:=List.set_append_left _ _ hid
theorem z1C {h l:aA}{id:Nat}(hid:id<h.length):(h++l)[id]?=h[id]?:=List.getElem?_append_left hid
theorem z36 {h l:aA}{i n:Nat}{o:Obj}:(h.set i o++l)[h.length+n]?=l[n]?:=by
 have:=sF (h.set i o) l n;rwa [List.length_set]at this
theorem zje {h l:aA}{i:Nat}{o:Obj}:(h.set i o++l)[h.length]?=l[0]?:=z36 (n:=0)
theorem z38 {h l:aA}{i n:Nat}{o q:Obj}:(h.set i o++l).set (h.length+n) q=h.set i o++l.set n q:=by
 have:=EJ (h.set i o) l n q;rwa [List.length_set]at this
theorem zjf {h l:aA}{i:Nat}{o q:Obj}:(h.set i o++l).set h.length q=h.set i o++l.set 0 q:=z38 (n:=0)
theorem zjg {h l:aA}{i n:Nat}{o:Obj}:(h.set i o++l).take (h.length+n)=h.set i o++l.take n:=by
 have:=oY (h.set i o) l n;rwa [List.length_set]at this
theorem zjh {h l:aA}{i:Nat}{o:Obj}:(h.set i o++l).take h.length=h.set i o:=by
 have:=pY (h.set i o) l;rwa [List.length_set]at this
theorem zjd {h l:aA}{i n k:Nat}{o:Obj}:frz (h.set i o++l) (h.length+n) k=h.set i o++frz l n k:=by
 have:=BR (h.set i o) l n k;rwa [List.length_set]at this
theorem ED {α:Type}{l:List α}{n:Nat}(h:l.length=n):win l 0 n=l:=by subst h;simp [win]
theorem z4w {α:Type}(l:List α):win l 0 l.length=l:=by simp [win]
attribute [go_sem] zjY z8C z8B top_p zjO zjP zjN zjM zjR zjQ zjV zjS Nat.max_zero Nat.zero_max Nat.zero_le z2O z2N z2L zit zis z2Q z2P zeX sF DJ EJ z6H oY pY BR z6F z36 zje z38 zjf zjg zjh zjd List.length_append z4w Nat.add_le_add_iff_right Nat.zero_add Nat.add_zero
attribute [go_sem] aF PV.shp List.reduceReplicate cond_true cond_false Bool.not_true Bool.not_false Bool.false_eq_true Bool.true_and Bool.and_true Bool.false_and Bool.and_false Bool.true_or Bool.or_true Bool.false_or Bool.or_false beq_self_eq_true List.all_cons List.all_nil
attribute [go_sem low] ziy
theorem zjK {h:aA}{id:Nat}{o:Obj}:(h.set id o).take h.length=h.set id o:=List.take_of_length_le (by simp)
attribute [go_sem] zjK Int.natCast_zero Int.natCast_one Int.cast_ofNat_Int
attribute [go_sem] aun ZD AJ BJ List.foldlM_cons List.foldlM_nil Option.bind_some Option.pure_def Option.bind_eq_bind List.cons_append List.nil_append Int.zero_sub List.length_singleton
attribute [go_sem] gA zcj
attribute [go_sem] xX vZ yZ KD ex3' BZ zZ List.not_mem_nil List.mem_cons List.mem_singleton forall_eq_or_imp forall_eq false_implies true_implies implies_true forall_const and_true true_and List.cons_append and_self reduceCtorEq List.getElem?_cons_zero List.getElem?_cons_succ Option.some.injEq exists_eq_left' List.set_cons_zero List.set_cons_succ List.set_set List.length_set
attribute [congr] z83 z43
attribute [congr] zcC
attribute [go_sem] z3A EX BX cZ bZ z8L decide_true decide_false z2f z2e z2g aop Opd.ev bA put zA iB cC qH lC FJ zeW enter rd rds pur eJ nA mkA unp cut AV.cells PV.cells PV.sc AV.sc splice pint pbool ZE
attribute [go_sem low] aZ
attribute [congr] z8K
end Go.Am
end
section
/- The abstract machine,part 28: where no map is ranged over,a call that ends well ends in one way. -/
set_option linter.unusedSimpArgs false
set_option linter.unusedVariables false
namespace Go.Am
def AO.noNext:AO→Bool
 | .mnext _ _=>false
 | _=>true
def ACode.noNext:ACode→Bool
 | .reg ops _=>ops.all fun o=>o.op.noNext
 | .seq a b=>a.noNext&&b.noNext
 | .cond _ a b=>a.noNext&&b.noNext
 | .condu _ _ _=>false
 | .det _=>false
 | .block _ b=>b.noNext
 | .loop b=>b.noNext
 | .scope b=>b.noNext
 | .pr _ b=>b.noNext
 | _=>true
def Dt (C D:Hd):Prop:=∀f a h K,C f a h K→∃v h' x,K v h' x∧D f a h fun v1 h1 x1=>v1=v∧h1=h'∧x1=x
variable {C D:Hd} {gl:Nat→Option PV}
theorem xJ (hD:D.Mono)(hC:Dt C D):∀(ops:List AOp) e h x K,(ops.all fun o=>o.op.noNext)=true→GA C gl ops e h x K→∃e' h' x',K e' h' x'∧GA D gl ops e h x fun e1 h1 x1=>e1=e'∧h1=h'∧x1=x'
 | [],e,h,x,K,_,H=>⟨e,h,x,H,rfl,rfl,rfl⟩
 | o::r,e,h,x,K,hn,H=>by
  obtain⟨dst,guard,op⟩:=o;simp only[List.all_cons,Bool.and_eq_true]at hn;obtain⟨hn1,hn2⟩:=hn;unfold GA at H;dsimp only at H;split at H
  ·rename_i hw
   cases op;case call f args=>
    obtain⟨v,h',x',H',G'⟩:=hC _ _ _ _ H;obtain⟨e2,h2,x2,k2,g2⟩:=xJ hD hC r _ _ _ K hn2 H';refine⟨e2,h2,x2,k2,?_⟩;unfold GA;simp only[hw]
    exact hD _ _ _ _ _ (fun v1 h1 x1 ⟨a1,a2,a3⟩=>by subst a1;subst a2;subst a3;exact g2) G'
   case callv f args=>
    dsimp only at H;split at H
    ·rename_i hf
     obtain⟨v,h',x',H',G'⟩:=hC _ _ _ _ H;obtain⟨e2,h2,x2,k2,g2⟩:=xJ hD hC r _ _ _ K hn2 H';refine⟨e2,h2,x2,k2,?_⟩;unfold GA;simp only[hw,hf]
     exact hD _ _ _ _ _ (fun v1 h1 x1 ⟨a1,a2,a3⟩=>by subst a1;subst a2;subst a3;exact g2) G'
    ·exact H.elim
   case mnext sh xs=>simp [AO.noNext]at hn1
   all_goals
    dsimp only at H;split at H
    ·rename_i ha
     obtain⟨e2,h2,x2,k2,g2⟩:=xJ hD hC r _ _ _ K hn2 H;refine⟨e2,h2,x2,k2,?_⟩;unfold GA;simp only[hw,ha]
     exact g2
    ·exact H.elim
  ·rename_i hw
   obtain⟨e2,h2,x2,k2,g2⟩:=xJ hD hC r _ _ _ K hn2 H;refine⟨e2,h2,x2,k2,?_⟩;unfold GA;simp only[hw]
   exact g2
  ·exact H.elim
theorem nQ (hD:D.Mono)(hC:Dt C D){o:AOp}{e:List (Nat × AV)}{h h':aA}{v:AV}{x:Esc}(H:ADo C gl o e h v h' x):ADo D gl o e h v h' x:=by
 have key:∀f a h,C f a h (fun v1 h1 x1=>v1=v∧h1=h'∧x1=x)→D f a h (fun v1 h1 x1=>v1=v∧h1=h'∧x1=x):=fun f a h hc=>by
  obtain⟨v2,h2,x2,⟨e1,e2,e3⟩,hd⟩:=hC _ _ _ _ hc;subst e1;subst e2;subst e3
  exact hd
 unfold ADo at H ⊢;split at H
 ·split at H
  ·exact key _ _ _ H
  ·split at H
   ·exact key _ _ _ H
   ·exact H.elim
  ·exact H.elim
  ·exact H
 ·exact H
 ·exact H.elim
theorem yX (hD:D.Mono)(hC:Dt C D):∀(ds:List DOp) dn hs e h x K,pC C gl ds dn hs e h x K→∃e' h' x',K e' h' x'∧pC D gl ds dn hs e h x fun e1 h1 x1=>e1=e'∧h1=h'∧x1=x'
 | [],dn,hs,e,h,x,K,H=>⟨e,h,x,H,rfl,rfl,rfl⟩
 | o::r,dn,hs,e,h,x,K,H=>by
  obtain⟨v,h',y,h1,h2,h3,h4,h5⟩:=H;obtain⟨e2,q2,x2,k2,g2⟩:=yX hD hC r _ _ _ _ _ K h5;exact⟨e2,q2,x2,k2,v,h',y,nQ hD hC h1,h2,fun k hk=>by obtain⟨g,a1,a2⟩:=h3 k hk;exact⟨g,a1,nQ hD hC a2⟩,
   fun j hj=>by obtain⟨q,a1,a2⟩:=h4 j hj;exact⟨q,a1,nQ hD hC a2⟩,g2⟩
theorem z4B {T U:St→(Ex→St→Prop)→Prop}(hT:∀ s K,T s K→∃ e s',K e s'∧U s fun e1 s1=>e1=e∧s1=s'){K:Ex→St→Prop}{s:St}(H:ALoop T K s):∃e s',K e s'∧ALoop U (fun e1 s1=>e1=e∧s1=s') s:=by
 induction H with
 | mk s R h hn he hr ih=>
  obtain⟨e,s',hR,hU⟩:=hT _ _ h;cases e with
  | normal=>
   obtain⟨e2,s2,k2,g2⟩:=ih s' hR;exact⟨e2,s2,k2,.mk _ _ hU (fun s1 ⟨_,h1⟩=>by subst h1;exact g2) (fun i s1 ⟨h1,_⟩=>by cases h1) (fun s1 ⟨h1,_⟩=>by cases h1)⟩
  | exit i=>exact⟨_,_,he i s' hR,.mk _ _ hU (fun s1 ⟨h1,_⟩=>by cases h1) (fun j s1 h1=>h1) (fun s1 ⟨h1,_⟩=>by cases h1)⟩
  | ret=>exact⟨_,_,hr s' hR,.mk _ _ hU (fun s1 ⟨h1,_⟩=>by cases h1) (fun j s1 ⟨h1,_⟩=>by cases h1) (fun s1 h1=>h1)⟩
theorem JE (hD:D.Mono)(hC:Dt C D):∀(c:ACode),c.noNext=true→∀s K,AW C gl c s K→∃e s',K e s'∧AW D gl c s fun e1 s1=>e1=e∧s1=s'
 | .skip,_,s,K,H=>⟨_,_,H,rfl,rfl⟩
 | .reg ops keep,hn,s,K,H=>by
  obtain⟨e,h,x,h1,h2⟩:=xJ hD hC ops _ _ _ _ hn H;refine⟨_,_,h1,?_⟩;show GA D gl ops s.env s.h s.esc fun e1 h1 x1=>_
  exact oG (C:=D) (C':=D) (fun f a h K K' hK h=>hD _ _ _ _ _ hK h) ops _ _ _ _ _ (fun e1 h1 x1 ⟨a1,a2,a3⟩=>by subst a1;subst a2;subst a3;exact⟨rfl,rfl⟩) h2
 | .draw ds keep,_,s,K,H=>by
  obtain⟨e,h,x,h1,h2⟩:=yX hD hC ds _ _ _ _ _ _ H;refine⟨_,_,h1,?_⟩;show pC D gl ds [] [] s.env s.h s.esc fun e1 h1 x1=>_
  exact pQ (C:=D) (C':=D) (fun f a h K K' hK h=>hD _ _ _ _ _ hK h) ds _ _ _ _ _ _ _ (fun e1 h1 x1 ⟨a1,a2,a3⟩=>by subst a1;subst a2;subst a3;exact⟨rfl,rfl⟩) h2
 | .seq a b,hn,s,K,H=>by
  simp only[ACode.noNext,Bool.and_eq_true]at hn;obtain⟨e,s',h1,h2⟩:=JE hD hC a hn.1 _ _ H;have mono:=fun(K K':Ex→St→Prop) (hK:∀e s,K e s→K' e s)=>kC (C:=D) (C':=D) (gl:=gl) (fun f a h K K' hK h=>hD _ _ _ _ _ hK h) a s K K' hK
  cases e with
  | normal=>
   obtain⟨e2,s2,k2,g2⟩:=JE hD hC b hn.2 _ _ h1;refine⟨e2,s2,k2,mono _ _ (fun e1 s1 ⟨a1,a2⟩=>?_) h2⟩
   subst a1;subst a2;exact g2
  | exit i=>exact⟨_,_,h1,mono _ _ (fun e1 s1 ⟨a1,a2⟩=>by subst a1;subst a2;exact⟨rfl,rfl⟩) h2⟩
  | ret=>exact⟨_,_,h1,mono _ _ (fun e1 s1 ⟨a1,a2⟩=>by subst a1;subst a2;exact⟨rfl,rfl⟩) h2⟩
 | .condu c a b,hn,s,K,H=>by cases hn
 | .det b,hn,s,K,H=>by cases hn
 | .cond c a b,hn,s,K,H=>by
  simp only[ACode.noNext,Bool.and_eq_true]at hn;unfold AW at H;split at H
  ·rename_i t ht
   split at H
   ·obtain⟨e,s',h1,h2⟩:=JE hD hC a hn.1 _ _ H
    refine⟨e,s',h1,?_⟩;unfold AW;simp only[ht];exact h2
   ·obtain⟨e,s',h1,h2⟩:=JE hD hC b hn.2 _ _ H
    refine⟨e,s',h1,?_⟩;unfold AW;simp only[ht];exact h2
  ·exact H.elim
 | .block id b,hn,s,K,H=>by
  obtain⟨e,s',h1,h2⟩:=JE hD hC b hn _ _ H;have mono:=fun(K K':Ex→St→Prop) (hK:∀e s,K e s→K' e s)=>kC (C:=D) (C':=D) (gl:=gl) (fun f a h K K' hK h=>hD _ _ _ _ _ hK h) b s K K' hK
  cases e with
  | normal=>exact⟨_,_,h1,mono _ _ (fun e1 s1 ⟨a1,a2⟩=>by subst a1;subst a2;exact⟨rfl,rfl⟩) h2⟩
  | exit i=>
   dsimp only at h1;split at h1
   ·rename_i hi
    exact⟨_,_,h1,mono _ _ (fun e1 s1 ⟨a1,a2⟩=>by subst a1;subst a2;dsimp only;rw[if_pos hi];exact⟨rfl,rfl⟩) h2⟩
   ·rename_i hi
    exact⟨_,_,h1,mono _ _ (fun e1 s1 ⟨a1,a2⟩=>by subst a1;subst a2;dsimp only;rw[if_neg hi];exact⟨rfl,rfl⟩) h2⟩
  | ret=>exact⟨_,_,h1,mono _ _ (fun e1 s1 ⟨a1,a2⟩=>by subst a1;subst a2;exact⟨rfl,rfl⟩) h2⟩
 | .loop b,hn,s,K,H=>z4B (fun s K h=>JE hD hC b hn s K h) H
 | .scope b,hn,s,K,H=>by
  obtain⟨e,s',h1,h2⟩:=JE hD hC b hn _ _ H;exact⟨_,_,h1,kC (C:=D) (C':=D) (gl:=gl) (fun f a h K K' hK h=>hD _ _ _ _ _ hK h) b _ _ _ (fun e1 s1 ⟨a1,a2⟩=>by subst a1;subst a2;exact⟨rfl,rfl⟩) h2⟩
 | .pr l b,hn,s,K,H=>JE hD hC b hn _ K H
 | .exit id,_,s,K,H=>⟨_,_,H,rfl,rfl⟩
 | .ret,_,s,K,H=>⟨_,_,H,rfl,rfl⟩
 | .bad,_,s,K,H=>H.elim
theorem z0Z {F:AFun}{b:Nat}{s:St}{K:jA}(H:fin F b s K):∃v h x,K v h x∧fin F b s fun v1 h1 x1=>v1=v∧h1=h∧x1=x:=by
 cases h0:mC F.results with
 | true=>
  unfold fin at H;rw[h0]at H;cases h1:lC s F.results with
  | none=>rw[h1]at H;exact H.elim
  | some vs=>
   rw[h1]at H;unfold SD at H;dsimp only at H;cases h2:cmpO b s.h F.results vs with
   | none=>rw[h2]at H;exact H.elim
   | some y=>
    rw[h2]at H;exact⟨_,_,_,H.2,by unfold fin;rw[h0,h1];unfold SD;dsimp only;rw[h2];exact⟨H.1,rfl,rfl,rfl⟩⟩
 | false=>
 unfold fin at H;rw[h0]at H;cases h1:lC s F.results with
 | none=>rw[h1]at H;exact H.elim
 | some vs=>
  rw[h1]at H;dsimp only at H;cases h2:F.keep with
  | true=>
   rw[h2]at H;dsimp only at H;by_cases h3:BB s.esc (QB (List.length s.esc) s.esc (max b (JA vs).top))=true
   ·rw[if_pos h3]at H
    exact⟨_,_,_,H,by unfold fin;rw[h0];dsimp only;rw[h1];dsimp only;rw[h2];dsimp only;rw[if_pos h3];exact⟨rfl,rfl,rfl⟩⟩
   ·rw[if_neg h3]at H
    exact⟨_,_,_,H,by unfold fin;rw[h0];dsimp only;rw[h1];dsimp only;rw[h2];dsimp only;rw[if_neg h3];exact⟨rfl,rfl,rfl⟩⟩
  | false=>
   rw[h2]at H;dsimp only at H;cases h4:FA b s.h (JA vs) with
   | none=>rw[h4]at H;exact H.elim
   | some v0=>
    rw[h4]at H;dsimp only at H;by_cases h3:BB s.esc (QB (List.length s.esc) s.esc (max b v0.top))=true
    ·rw[if_pos h3]at H
     cases h5:FA (QB (List.length s.esc) s.esc (max b v0.top)) s.h (JA vs) with
     | none=>rw[h5]at H;exact H.elim
     | some v=>
      rw[h5]at H;exact⟨_,_,_,H.2,by unfold fin;rw[h0];dsimp only;rw[h1];dsimp only;rw[h2];dsimp only;rw[h4];dsimp only;rw[if_pos h3,h5];exact⟨H.1,rfl,rfl,rfl⟩⟩
    ·rw[if_neg h3]at H
     exact⟨_,_,_,H,by unfold fin;rw[h0];dsimp only;rw[h1];dsimp only;rw[h2];dsimp only;rw[h4];dsimp only;rw[if_neg h3];exact⟨rfl,rfl,rfl⟩⟩
def Ctx.NoNext (X:Ctx):Prop:=∀f F,X.fn f=some F→(F.isDet||F.body.noNext)=true
theorem z63 (hD:D.Mono)(hC:Dt C D){F:AFun}{a:List AV}{h:aA}{K:jA}(hb:F.body.noNext=true)(H:WB C gl F a h K):∃v h' x,K v h' x∧WB D gl F a h fun v1 h1 x1=>v1=v∧h1=h'∧x1=x:=by
 unfold WB at H ⊢;cases hp:(if F.byref then some (a,h) else nA h a) with
 | none=>rw[hp]at H;exact H.elim
 | some q=>
  obtain⟨asv,h1⟩:=q;rw[hp]at H;obtain⟨hl,H⟩:=H;obtain⟨e,s',k1,g1⟩:=JE hD hC _ hb _ _ H;have mono:=fun(K K':Ex→St→Prop) (hK:∀e s,K e s→K' e s)=>kC (C:=D) (C':=D) (gl:=gl) (fun f a h K K' hK h=>hD _ _ _ _ _ hK h) F.body ⟨enter asv,h1,[]⟩ K K' hK
  cases e with
  | exit i=>exact k1.elim
  | normal=>
   obtain⟨v,h',x,k2,g2⟩:=z0Z k1;exact⟨v,h',x,k2,hl,mono _ _ (fun e1 s1 ⟨a1,a2⟩=>by subst a1;subst a2;exact g2) g1⟩
  | ret=>
   obtain⟨v,h',x,k2,g2⟩:=z0Z k1;exact⟨v,h',x,k2,hl,mono _ _ (fun e1 s1 ⟨a1,a2⟩=>by subst a1;subst a2;exact g2) g1⟩
theorem z44 {X:Ctx}(hX:X.NoNext):Dt (eA X) (eA X):=by
 intro f a h K H;refine H (fun f a h K=>∃v h' x,K v h' x∧eA X f a h fun v1 h1 x1=>v1=v∧h1=h'∧x1=x) ?_ ?_
 ·intro f a h K K' hK ⟨v,h',x,k,g⟩
  exact⟨v,h',x,hK _ _ _ k,g⟩
 ·intro f a h K H
  have hC:Dt (fun f a h K=>∃v h' x,K v h' x∧eA X f a h fun v1 h1 x1=>v1=v∧h1=h'∧x1=x) (eA X):=fun f a h K H=>H
  have hD:=eA.mono X
  unfold IB at H;split at H
  ·rename_i F hF
   unfold VC at H;cases hd:F.isDet with
   | true=>
    rw[hd]at H;obtain⟨v,h',x,k,H⟩:=H;refine⟨v,h',x,k,eA.fold ?_⟩;unfold IB;simp only[hF,VC,hd];exact⟨v,h',x,⟨rfl,rfl,rfl⟩,VL (fun f a h K K' hK ⟨v2,h2,x2,k2,g2⟩=>hD _ _ _ _ _ (fun v1 h1 x1 hv=>by obtain⟨rfl,rfl,rfl⟩:=hv;exact hK _ _ _ k2) g2) (fun _ _ _ h=>h) H⟩
   | false=>
    rw[hd]at H;obtain⟨v,h',x,k1,g1⟩:=z63 hD hC (by have:=hX f F hF;rw[hd]at this;simpa using this) H
    refine⟨v,h',x,k1,eA.fold ?_⟩;unfold IB;simp only[hF,VC,hd]
    exact g1
  ·rename_i hF
   split at H
   ·rename_i hx2
    refine⟨_,_,_,H,eA.fold ?_⟩;unfold IB;simp only[hF,hx2]
    exact⟨trivial,trivial,trivial⟩
   ·rename_i hx2
    split at H
    ·rename_i hp
     split at H
     ·rename_i hu
      split at H
      ·rename_i hx
       refine⟨_,_,_,H,eA.fold ?_⟩;unfold IB;simp only[hF,hx2,hp,hu,hx]
       exact⟨trivial,trivial,trivial⟩
      ·exact H.elim
     ·exact H.elim
    ·exact H.elim
theorem eA.one {X:Ctx}(hX:X.NoNext){f:Nat}{a:List AV}{h:aA}{Q:jA}(H:eA X f a h Q):∃v h' x,Q v h' x∧∀K:jA,eA X f a h K=K v h' x:=by
 obtain⟨v,h',x,k,g⟩:=z44 hX _ _ _ _ H;exact⟨v,h',x,k,fun K=>CA g⟩
end Go.Am
end
section
/- The abstract machine,part 29: its meaning once more,spelt so that a function's code can be printed asv a formula over its values (shallow),equal tov the deep one by computing. -/
set_option linter.unusedSimpArgs false
set_option linter.unusedVariables false
namespace Go.Am
def pK (o:Option AV)(k:AV→Prop):Prop:=match o with
 | some v=>k v
 | none=>False
def wK (o:Option (AV × aA × Esc))(k:AV→aA→Esc→Prop):Prop:=match o with
 | some y=>k y.1 y.2.1 y.2.2
 | none=>False
def TF (c a b:AV):Option AV:=match c with
 | .p (.bool t)=>some (bif t then a else b)
 | _=>none
def SF (x:AV)(h:aA):Option (AV×aA×Esc):=match x.cells with
 | some cs=>some (.ref h.length 0,h++[.box cs],[])
 | none=>none
def MK:List (Nat × Nat × AV)→List AV→Option (List AV)
 | [],cs=>some cs
 | (off,n,x)::r,cs=>match x.cells with
  | some vs=>if vs.length=n∧off+n≤cs.length then MK r (splice cs off vs) else none
  | none=>none
def OB (z:List AV)(ps:List (Nat × Nat × AV)):Option AV:=(MK ps z).map mkA
def NK (sh:Sh):List (Nat×AV)→aA→List PV→Option (List PV×aA)
 | [],h,xs=>some (xs,h)
 | (i,x)::r,h,xs=>match pur h x with
  | some (v,h')=>if v.shp sh∧i<xs.length then NK sh r h' (xs.set i v) else none
  | none=>none
def gE (own:Bool)(sh:Sh)(n:Nat)(z:PV)(ps:List (Nat × AV))(h:aA):Option (AV×aA×Esc):=match NK sh ps h (List.replicate n z) with
 | some (xs,h')=>if !z.shp sh then none else some (bif own then(.own h'.length n 0 n,h'++[.row sh xs 0],[]) else(.p (.sl sh xs),h',[]))
 | none=>none
def BA (sh:Sh)(a:AV)(h:aA):Option AV:=match a with
 | .ref id off=>match h[id]? with
  | some (.box cs)=>cut sh off cs
  | _=>none
 | .rref id g i off=>match h[id]? with
  | some (.row _ xs _)=>if g=xs.length then((xs[i]?).bind (qB sh off)).map .p else none
  | _=>none
 | .vp v=>(qB sh 0 v).map .p
 | .bt k off id g=>ldA sh k off id g h
 | _=>none
def FC (sh:Sh)(a x:AV)(h:aA):Option (AV×aA×Esc):=match a with
 | .ref id off=>match h[id]?,x.cells with
  | some (.box cs),some vs=>if vs.length=gA sh∧off+vs.length≤cs.length then some (.und,h.set id (.box (splice cs off vs)),BF id cs x) else none
  | _,_=>none
 | .rref id g i off=>match pur h x with
  | some (v,h1)=>match h1[id]? with
   | some (.row rsh xs fz)=>if g=xs.length∧fz≤i∧v.cells.length=gA sh∧v.cells.all PV.sc then match xs[i]? with
    | some (.agg cs)=>if off+v.cells.length≤cs.length then some (.und,h1.set id (.row rsh (xs.set i (.agg (splice cs off v.cells))) fz),[]) else none
    | some _=>if off=0∧v.sc then some (.und,h1.set id (.row rsh (xs.set i v) fz),[]) else none
    | none=>none
    else none
   | _=>none
  | none=>none
 | .bt k off id g=>stA sh k off id g x h
 | _=>none
def eL (x:AV):Option AV:=match x with
 | .ref _ _ | .rref _ _ _ _ | .vp _ | .fn _ _=>some x
 | .bt k _ _ _=>nlA k x
 | _=>none
def qA (op:BinOp)(x y:AV):Option AV:=match x,y with
 | .p a,.p b=>(iB op a b).map .p
 | _,_=>none
def ZG (ks:List Nat)(neg:Bool)(x y:AV):Option AV:=match x,y with
 | .p (.agg asv),.p (.agg bs)=>if asv.map PV.kind=ks∧bs.map PV.kind=ks∧ks≠[] then(eqs asv bs).map fun t=>pbool (bif neg then !t else t) else none
 | .p (.bool a),.p (.bool b)=>if ks=[] then some (pbool (bif neg then !decide (a=b) else decide (a=b))) else none
 | _,_=>none
def YK (k:Nat)(neg:Bool)(x:AV):Option AV:=bif RF k x then some .anyb else(VK k x).map fun r=>pbool (bif neg then !r else r)
def dO (x:AV):Option AV:=if VF x then some .ifc else none
def oUn (op:UnOp)(x:AV):Option AV:=match x with
 | .p a=>(aun op a).map .p
 | _=>none
def oD (c:Cv)(x:AV)(h:aA):Option (AV×aA×Esc):=(ZD h c x).map fun y=>(y.1,y.2,[])
def gI (k:IntKind)(x:AV):Option AV:=match x with
 | .p (.int _ n)=>some (.p (.int k (k.wrap n)))
 | _=>none
def eO (sh:Sh)(z:PV)(len cap:AV)(h:aA):Option (AV×aA×Esc):=match WA len,WA cap with
 | some n,some m=>if n≤m∧m≤IA∧z.shp sh then some (.own h.length n 0 n,h++[.row sh (List.replicate n z) 0],[]) else none
 | _,_=>none
def OC (d:Nat):Option AV→Option Nat
 | none=>some d
 | some x=>WA x
def fL (x:AV)(lo hi:Option AV):Option AV:=match x with
 | .p (.str s)=>match OC 0 lo,OC s.length hi with
  | some l,some r=>if l≤r∧r≤s.length then some (.p (.str (win s l (r-l)))) else none
  | _,_=>none
 | _=>none
def OD (sh:Sh)(x:AV)(lo hi mx:Option AV)(h:aA):Option AV:=match x with
 | .p (.sl sh' xs)=>match OC 0 lo,OC xs.length hi,OC xs.length mx with
  | some l,some r,some m=>if sh'=sh∧l≤r∧r≤m∧m≤xs.length then some (if mx.isSome∧m=l then .sl0 sh else .p (.sl sh (win xs l (r-l)))) else none
  | _,_,_=>none
 | .sl0 sh'=>match OC 0 lo,OC 0 hi,OC 0 mx with
  | some l,some r,some m=>if l=0∧r=0∧m=0 then some (.sl0 sh') else none
  | _,_,_=>none
 | .own id g off len=>match h[id]? with
  | some (.row rsh xs _)=>match OC 0 lo,OC len hi,OC len mx with
   | some l,some r,some m=>if rsh=sh∧g=xs.length∧off+len≤xs.length∧l≤r∧r≤m∧m≤len then some (if mx.isSome∧m=l then .sl0 sh else .own id g (off+l) (r-l)) else none
   | _,_,_=>none
  | _=>none
 | _=>none
def RA (off:Nat)(sh:Sh)(x:AV):Option AV:=match x with
 | .ref id o=>some (.ref id (o+off))
 | .rref id g i o=>some (.rref id g i (o+off))
 | .vp v=>(qB sh off v).map .vp
 | .bt k o id g=>faA k off o id g
 | _=>none
def aO (off:Nat)(sh:Sh)(x:AV):Option AV:=match x with
 | .p v=>match v with
  | .agg _=>(qB sh off v).map .p
  | _=>none
 | .agg cs=>cut sh off cs
 | _=>none
def vB (sh:Sh)(x i:AV)(h:aA):Option AV:=match x,WA i with
 | .p (.sl sh' xs),some k=>if sh'=sh then(xs[k]?).map .vp else none
 | .own id g off len,some k=>match h[id]? with
  | some (.row rsh xs _)=>if rsh=sh∧g=xs.length∧off+len≤xs.length∧k<len then some (.rref id g (off+k) 0) else none
  | _=>none
 | .bt kk _ id g,some k=>iaA sh kk id g k h
 | _,_=>none
def bH (n:Nat)(sh:Sh)(x i:AV):Option AV:=match x,WA i with
 | .ref id o,some k=>if k<n then some (.ref id (o+k*gA sh)) else none
 | .rref id g j o,some k=>if k<n then some (.rref id g j (o+k*gA sh)) else none
 | .vp v,some k=>if k<n then(qB sh (k*gA sh) v).map .vp else none
 | _,_=>none
def XK (n:Nat)(sh:Sh)(x i:AV):Option AV:=match x,WA i with
 | .p (.agg cs),some k=>if k<n then(qB sh (k*gA sh) (.agg cs)).map .p else none
 | _,_=>none
def iI (x i:AV):Option AV:=match x,WA i with
 | .p (.str s),some k=>(s[k]?).map fun b=>.p (.int .u8 b.toNat)
 | _,_=>none
def aH (x:AV)(i:Nat):Option AV:=match x with
 | .tup vs=>vs[i]?
 | _=>none
def YB (x:AV):Option AV:=match x with
 | .p (.sl _ xs)=>some (pint xs.length)
 | .sl0 _=>some (pint 0)
 | .own _ _ _ len=>some (pint len)
 | .bt k _ _ g=>lnA k g
 | _=>none
def aL (x:AV):Option AV:=match x with
 | .p (.str s)=>some (pint s.length)
 | _=>none
def WK (sh:Sh)(s x:AV)(h:aA):Option (AV×aA×Esc):=match rds h x with
 | some (sh',ys)=>if sh'=sh then match s with
  | .sl0 _=>if ys.length≤IA then some (.own h.length ys.length 0 ys.length,h++[.row sh ys 0],[]) else none
  | .own id g off len=>match h[id]? with
   | some (.row rsh xs fz)=>if rsh=sh∧g=xs.length∧off=0∧len=xs.length∧len+ys.length≤IA∧fz≤xs.length then some (.own id (g+ys.length) off (len+ys.length),h.set id (.row sh (xs++ys) fz),[])
    else if rsh=sh∧g=xs.length∧off+len+ys.length≤xs.length∧fz≤off+len∧1≤ys.length∧len+ys.length≤IA∧sh=none∧xs.all PV.intP=true∧ys.all PV.intP=true then
     some (.p (.sl sh (win xs off len++ys)),h.set id (.row sh (splice xs (off+len) (List.replicate ys.length .unk)) (off+len+ys.length)),[])
    else none
   | _=>none
  | _=>none
  else none
 | none=>none
def YN (sh:Sh)(d s:AV)(h:aA):Option (AV×aA×Esc):=match d,rds h s with
 | .own id g off len,some (sh',ys)=>match h[id]? with
  | some (.row rsh xs fz)=>if rsh=sh∧sh'=sh∧g=xs.length∧off+len≤xs.length∧fz≤off then
   some (pint (min ys.length len),h.set id (.row sh (splice xs off (ys.take (min ys.length len))) fz),[])
   else none
  | _=>none
 | _,_=>none
def oClr (sh:Sh)(z:PV)(x:AV)(h:aA):Option (AV×aA×Esc):=match x with
 | .sl0 _=>some (.tup [],h,[])
 | .own id g off len=>match h[id]? with
  | some (.row rsh xs fz)=>if rsh=sh∧g=xs.length∧off+len≤xs.length∧fz≤off then
   some (.tup [],h.set id (.row sh (splice xs off (List.replicate len z)) fz),[])
   else none
  | _=>none
 | _=>none
def oMx (xs:List AV):Option AV:=match xs with
 | .p a::r=>((unp r).bind fun l=>l.foldlM AJ a).map .p
 | _=>none
def oMn (xs:List AV):Option AV:=match xs with
 | .p a::r=>((unp r).bind fun l=>l.foldlM BJ a).map .p
 | _=>none
def BD (kk:Sh × List Nat)(ok:Bool)(z x k:AV)(h:aA):Option AV:=match EC kk k with
 | some key=>match (match x with | .nilm=>some []|m=>(JB h m).map fun y=>y.2.1) with
  | some es=>match NB key es with
   | some r=>
    let v:=((r.bind (es[·]?)).map ME.val)
    some (bif ok then .tup [v.getD z,pbool v.isSome] else v.getD z)
   | none=>none
  | none=>none
 | none=>none
def BE (kk:Sh × List Nat)(m k x:AV)(h:aA):Option (AV×aA×Esc):=match EC kk k,JB h m,VF x with
 | some key,some (id,es,c),true=>match NB key es with
  | some (some i)=>some (.und,h.set id (.amap (es.modify i fun e=>{ e with val:=x }) c),GB id x)
  | some none=>some (.und,h.set id (.amap (es++[⟨key,x,c⟩]) (c+1)),GB id x)
  | none=>none
 | _,_,_=>none
def cO (kk:Sh × List Nat)(z m k:AV)(h:aA):Option (AV×aA×Esc):=match EC kk k,JB h m with
 | some key,some (id,es,c)=>match NB key es with
  | some (some i)=>(es[i]?).map fun e=>(.tup [e.val,pint e.born],h,[])
  | some none=>some (.tup [z,pint c],h.set id (.amap (es++[⟨key,z,c⟩]) (c+1)),[])
  | none=>none
 | _,_=>none
def ZN (m s x:AV)(h:aA):Option (AV×aA×Esc):=match JB h m,WA s,VF x with
 | some (id,es,c),some b,true=>match es.findIdx? (fun e=>e.born==b) with
  | some i=>some (.und,h.set id (.amap (es.modify i fun e=>{ e with val:=x }) c),GB id x)
  | none=>none
 | _,_,_=>none
def bO (kk:Sh × List Nat)(m k:AV)(h:aA):Option (AV×aA×Esc):=match EC kk k,JB h m with
 | some key,some (id,es,c)=>match NB key es with
  | some (some i)=>some (.und,h.set id (.amap (es.eraseIdx i) c),[])
  | some none=>some (.und,h,[])
  | none=>none
 | _,_=>none
def ZK (x:AV)(h:aA):Option AV:=match x with
 | .nilm=>some (pint 0)
 | .mp id=>(JB h (.mp id)).map fun y=>pint y.2.1.length
 | _=>none
def dL (x:AV)(h:aA):Option (AV×aA×Esc):=match JB h x with
 | some (id,_,c)=>some (.it h.length,h++[.iter (some id) c [] c],[])
 | none=>match x with
  | .nilm=>some (.it h.length,h++[.iter none 0 [] 0],[])
  | _=>none
def bL (i:AV)(h:aA):Option (AV×aA×Esc):=match i with
 | .it id=>match h[id]? with
  | some (.iter (some m) _ seen last)=>match JB h (.mp m),seen.getLast? with
   | some (_,es,c),some b=>if c=last then(es.find? (fun e=>e.born==b)).map fun e=>(.tup [.p e.key,e.val],h,[]) else none
   | _,_=>none
  | _=>none
 | _=>none
def alK (z:List AV)(h:aA)(k:AV→aA→Esc→Prop):Prop:=k (.ref h.length 0) (h++[.box z]) []
def nwK (sh:Sh)(h:aA)(k:AV→aA→Esc→Prop):Prop:=k (.own h.length 0 0 0) (h++[.row sh [] 0]) []
def mmK (h:aA)(k:AV→aA→Esc→Prop):Prop:=k (.mp h.length) (h++[.amap [] 0]) []
def ev3 (ev:Opd→AV):List (Nat×Nat×Opd)→List (Nat×Nat×AV)
 | []=>[]
 | (a,b,x)::r=>(a,b,ev x)::ev3 ev r
def ev2 (ev:Opd→AV):List (Nat×Opd)→List (Nat×AV)
 | []=>[]
 | (a,x)::r=>(a,ev x)::ev2 ev r
def evO (ev:Opd→AV):Option Opd→Option AV
 | none=>none
 | some x=>some (ev x)
def ev1 (ev:Opd→AV):List Opd→List AV
 | []=>[]
 | x::r=>ev x::ev1 ev r
def opN (o:AO)(ev:Opd→AV)(h:aA)(k:AV→aA→Esc→Prop):Prop:=match o with
 | .mv x=>k (ev x) h []
 | .pick c a b=>pK (TF (ev c) (ev a) (ev b)) fun v=>k v h []
 | .alloc z=>alK z h k
 | .box x=>wK (SF (ev x) h) k
 | .build z ps=>pK (OB z (ev3 ev ps)) fun v=>k v h []
 | .bsl own sh n z ps=>wK (gE own sh n z (ev2 ev ps) h) k
 | .load sh a=>pK (BA sh (ev a) h) fun v=>k v h []
 | .store sh a x=>wK (FC sh (ev a) (ev x) h) k
 | .nilchk x=>pK (eL (ev x)) fun v=>k v h []
 | .bin op x y=>pK (qA op (ev x) (ev y)) fun v=>k v h []
 | .eqa ks neg x y=>pK (ZG ks neg (ev x) (ev y)) fun v=>k v h []
 | .isnil n neg x=>pK (YK n neg (ev x)) fun v=>k v h []
 | .mkif x=>pK (dO (ev x)) fun v=>k v h []
 | .un op x=>pK (oUn op (ev x)) fun v=>k v h []
 | .conv (.i c) x=>pK (gI c (ev x)) fun v=>k v h []
 | .mkfn f caps=>k (.fn f (ev1 ev caps)) h []
 | .slice sh x lo hi mx=>pK (OD sh (ev x) (evO ev lo) (evO ev hi) (evO ev mx) h) fun v=>k v h []
 | .slstr x lo hi=>pK (fL (ev x) (evO ev lo) (evO ev hi)) fun v=>k v h []
 | .mksl sh z len cap=>wK (eO sh z (ev len) (ev cap) h) k
 | .faddr off sh x=>pK (RA off sh (ev x)) fun v=>k v h []
 | .field off sh x=>pK (aO off sh (ev x)) fun v=>k v h []
 | .iaddr sh x i=>pK (vB sh (ev x) (ev i) h) fun v=>k v h []
 | .iaddra n sh x i=>pK (bH n sh (ev x) (ev i)) fun v=>k v h []
 | .idxa n sh x i=>pK (XK n sh (ev x) (ev i)) fun v=>k v h []
 | .idxs x i=>pK (iI (ev x) (ev i)) fun v=>k v h []
 | .ext x i=>pK (aH (ev x) i) fun v=>k v h []
 | .len x=>pK (YB (ev x)) fun v=>k v h []
 | .lens x=>pK (aL (ev x)) fun v=>k v h []
 | .app sh s x=>wK (WK sh (ev s) (ev x) h) k
 | .copy sh d s=>wK (YN sh (ev d) (ev s) h) k
 | .uns m t xs=>wK (nF m t (ev1 ev xs) h) k
 | .clr sh z x=>wK (oClr sh z (ev x) h) k
 | .mx xs=>pK (oMx (ev1 ev xs)) fun v=>k v h []
 | .mn xs=>pK (oMn (ev1 ev xs)) fun v=>k v h []
 | .new0 sh=>nwK sh h k
 | .conv .s2b x=>wK (oD .s2b (ev x) h) k
 | .conv .b2s x=>wK (oD .b2s (ev x) h) k
 | .conv .r2s x=>wK (oD .r2s (ev x) h) k
 | .conv .same x=>wK (oD .same (ev x) h) k
 | .mkmap=>mmK h k
 | .look kk ok z x key=>pK (BD kk ok z (ev x) (ev key) h) fun v=>k v h []
 | .mupd kk m key x=>wK (BE kk (ev m) (ev key) (ev x) h) k
 | .ment kk z m key=>wK (cO kk z (ev m) (ev key) h) k
 | .estore m s x=>wK (ZN (ev m) (ev s) (ev x) h) k
 | .mdel kk m key=>wK (bO kk (ev m) (ev key) h) k
 | .lenm x=>pK (ZK (ev x) h) fun v=>k v h []
 | .mrange x=>wK (dL (ev x) h) k
 | .mentry i=>wK (bL (ev i) h) k
 | .call _ _ | .callv _ _ | .mnext _ _=>False
theorem z4p {o:Option (AV × aA × Esc)}{k:AV→aA→Esc→Prop}:dH o k=wK o k:=rfl
theorem DE {o:Option AV}{h:aA}{k:AV→aA→Esc→Prop}:wK (o.map fun v=>(v,h,[])) k=pK o fun v=>k v h []:=by cases o <;> rfl
theorem z0S (ev:Opd→AV):∀(ps:List (Nat×Nat×Opd)) (z:List AV),ZE ev ps z=MK (ev3 ev ps) z
 | [],z=>rfl
 | (off,n,x)::r,z=>by
  simp only[ZE,ev3,MK];cases (ev x).cells with
  | none=>rfl
  | some vs=>simp only[z0S ev r]
theorem z0T (ev:Opd→AV)(sh:Sh):∀(ps:List (Nat×Opd)) (h:aA) (z:List PV),aF ev sh ps h z=NK sh (ev2 ev ps) h z
 | [],h,z=>rfl
 | (i,x)::r,h,z=>by
  simp only[aF,ev2,NK];cases pur h (ev x) with
  | none=>rfl
  | some y=>simp only[z0T ev sh r]
theorem zY (ev:Opd→AV)(d:Nat)(o:Option Opd):bnd ev d o=OC d (evO ev o):=by cases o <;> rfl
theorem zcn (ev:Opd→AV)(o:Option Opd):(evO ev o).isSome=o.isSome:=by cases o <;> rfl
theorem WE (ev:Opd→AV)(l:List Opd):l.map ev=ev1 ev l:=by
 induction l with
 | nil=>rfl
 | cons x r ih=>simp only[List.map_cons,ev1,ih]
theorem z6K (sh:Sh)(ev:Opd→AV)(h:aA)(x:AV)(lo hi mx:Option Opd):asl sh ev h x lo hi mx=OD sh x (evO ev lo) (evO ev hi) (evO ev mx) h:=by
 unfold asl OD;simp only[zY,zcn];rfl
theorem wJ {p:Prop}[Decidable p]{a:AV}{h:aA}{k:AV→aA→Esc→Prop}:wK (if p then some (a,h,[]) else none) k=pK (if p then some a else none) fun v=>k v h []:=by split <;> rfl
theorem oE {α:Type}{o:Option α}{f:α→AV}{h:aA}{k:AV→aA→Esc→Prop}:wK (o.map fun v=>(f v,h,[])) k=pK (o.map f) fun v=>k v h []:=by cases o <;> rfl
theorem BL {α:Type}{p:Prop}[Decidable p]{o:Option α}{f:α→AV}{h:aA}{k:AV→aA→Esc→Prop}:wK (if p then o.map (fun v=>(f v,h,[])) else none) k=pK (if p then o.map f else none) fun v=>k v h []:=by
 split
 ·exact oE
 ·rfl
theorem z2y {o:AO}(hp:o.plain=true){ev:Opd→AV}{h:aA}{k:AV→aA→Esc→Prop}:dH (aop o ev h) k=opN o ev h k:=by
 rw[z4p];cases o <;> first|(cases hp;done)|skip
 case mv=>rfl
 case pick c a b=>
  simp only[aop,opN,TF];generalize ev c=v;cases v <;> try rfl
  rename_i p;cases p <;> rfl
 case alloc=>rfl
 case box=>rfl
 case build z ps=>simp only[aop,opN];rw[←DE,OB,z0S,Option.map_map];rfl
 case bsl=>simp only[aop,opN,gE,z0T];rfl
 case load sh a=>
  simp only[aop,opN,BA];generalize ev a=v;cases v with
  | ref id off=>dsimp only;cases h[id]? with
   | none=>rfl
   | some o=>cases o <;> first|rfl|exact DE
  | rref id g i off=>dsimp only;cases h[id]? with
   | none=>rfl
   | some o=>cases o <;> first|rfl|exact BL
  | vp v=>exact oE
  | p v=>cases v <;> rfl
  | bt _ _ _ _=>exact DE
  | _=>rfl
 case store=>simp only[aop,opN];rfl
 case nilchk x=>
  simp only[aop,opN,eL];generalize ev x=v;cases v <;> try rfl
  exact DE
 case bin op x y=>
  simp only[aop,opN,qA];generalize ev x=v;generalize ev y=u;cases v <;> try rfl
  cases u <;> try rfl
  exact oE
 case eqa ks neg x y=>
  simp only[aop,opN,ZG];generalize ev x=v;generalize ev y=u;cases v <;> try rfl
  rename_i p;cases p <;> try rfl
  all_goals (cases u <;> try rfl)
  all_goals (rename_i q;cases q <;> try rfl)
  ·exact wJ
  ·exact BL
 case isnil k neg p=>
  simp only[aop,opN,YK];cases RF k (ev p) with
  | true=>rfl
  | false=>exact oE
 case mkif=>exact wJ
 case un op x=>
  simp only[aop,opN,oUn];generalize ev x=v;cases v <;> try rfl
  exact oE
 case conv c x=>
  cases c;case i k'=>
   simp only[aop,opN,gI,ZD];generalize ev x=v;cases v <;> try rfl
   rename_i p;cases p <;> rfl
  all_goals rfl
 case mkfn f caps=>simp only[aop,opN,WE];rfl
 case slice=>simp only[aop,opN,z6K];exact DE
 case slstr x lo hi=>
  simp only[aop,opN,fL,zY];generalize ev x=v;cases v <;> try rfl
  rename_i p;cases p <;> try rfl
  rename_i s;dsimp only;generalize OC 0 _=o1;generalize OC s.length _=o2;cases o1 <;> try rfl
  cases o2 <;> try rfl
  exact wJ
 case mksl=>simp only[aop,opN];rfl
 case faddr off sh x=>
  simp only[aop,opN,RA];generalize ev x=v;cases v <;> try rfl
  ·exact oE
  ·exact DE
 case field off sh x=>
  simp only[aop,opN,aO];generalize ev x=v;cases v <;> try rfl
  ·rename_i p;cases p <;> try rfl
   exact oE
  ·exact DE
 case iaddr sh x i=>
  simp only[aop,opN,vB];generalize ev x=v;generalize WA (ev i)=n;cases v <;> try rfl
  ·rename_i p;cases p <;> try rfl
   cases n <;> try rfl
   exact BL
  ·cases n <;> try rfl
   rename_i id g off len k;dsimp only;cases h[id]? with
   | none=>rfl
   | some o=>cases o <;> first|rfl|exact wJ
  ·cases n <;> try rfl
   exact DE
 case iaddra m sh x i=>
  simp only[aop,opN,bH];generalize ev x=v;generalize WA (ev i)=n;cases v <;> try rfl
  all_goals (cases n <;> try rfl)
  ·exact wJ
  ·exact wJ
  ·exact BL
 case idxa m sh x i=>
  simp only[aop,opN,XK];generalize ev x=v;generalize WA (ev i)=n;cases v <;> try rfl
  rename_i p;cases p <;> try rfl
  cases n <;> try rfl
  exact BL
 case idxs x i=>
  simp only[aop,opN,iI];generalize ev x=v;generalize WA (ev i)=n;cases v <;> try rfl
  rename_i p;cases p <;> try rfl
  cases n <;> try rfl
  exact oE
 case ext x i=>
  simp only[aop,opN,aH];generalize ev x=v;cases v <;> try rfl
  exact DE
 case len x=>
  simp only[aop,opN,YB];generalize ev x=v;cases v <;> try rfl
  ·rename_i p;cases p <;> rfl
  ·exact DE
 case lens x=>
  simp only[aop,opN,aL];generalize ev x=v;cases v <;> try rfl
  rename_i p;cases p <;> rfl
 case app=>simp only[aop,opN];rfl
 case copy=>simp only[aop,opN];rfl
 case uns=>simp only[aop,opN,WE,z4p]
 case clr=>simp only[aop,opN];rfl
 case mx xs=>
  simp only[aop,opN,WE,oMx];generalize ev1 ev xs=l;cases l <;> try rfl
  rename_i v r;cases v <;> try rfl
  exact oE
 case mn xs=>
  simp only[aop,opN,WE,oMn];generalize ev1 ev xs=l;cases l <;> try rfl
  rename_i v r;cases v <;> try rfl
  exact oE
 case new0=>rfl
 case look kk ok z x key=>
  simp only[aop,opN,BD];cases EC kk (ev key) <;> try rfl
  rename_i kk;generalize ev x=v;cases v <;> try rfl
  rename_i id;dsimp only;cases JB h (.mp id) <;> try rfl
  rename_i y;dsimp only[Option.map_some];cases NB kk y.2.1 <;> rfl
 case lenm x=>
  simp only[aop,opN,ZK];generalize ev x=v;cases v <;> try rfl
  exact oE
 all_goals rfl
end Go.Am
end
