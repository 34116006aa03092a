/- Texts of the proof, laid together: SpGenA2, SpDelF, SpGenF2, SpDet, SpPath, SpReady, SpKeep, SpLawSA, SpLawFO, SpSeen, SpSeen2, SpRed1, PRed3, SpRed2, SpRed3, PCnt, SpRed5, SpRed6, SpDel, SpRed7, SpRed8, SpRed9, SpRed4, SpFaulted, SpLawVR, Bridge, AmL2, AmL4. -/
import Derived.KernelRfl
import Derived.ProofKit
import Derived.Shelf.Strconv.Itoa3
import Derived.Lib.LaidTab
import Derived.Shelf.Strings.Repeat
import Derived.Shelf.Strings.SlTrimAscii
import Derived.Shelf.Spec.TrailingZeros
import Derived.Test.YtahgfbhabpiplaaGreatDoorlawVR6
set_option linter.all false
section
/- What is drawn: faults. -/
open Go
set_option linter.all false
namespace Go.Am
variable {L:List Int} {a:Int} {h l:aA} {id:Nat} {K:jA}
def PJ (f:Flt):Prop:=f.nets.length≤8∧(∀x∈f.nets,-1152921504606846976≤x∧x≤1152921504606846976) ∧ -1152921504606846976≤f.kind∧f.kind≤1152921504606846976
theorem z5q {α:Type}(xs:List α)(n:Nat):win xs 0 n=xs.take n:=by simp [win]
theorem gT {kd:Int}{w:AV}{ns:List Int}{b2:Int}{t:aA}{x:Esc}{K0:jA}(hw:MA h.length (h.set id (xA L b2)++t) w=some (.p (.sl none (ns.map eI))))(hx:∀ y∈x,h.length≤y.1)
 (hK:K0 (.p (Flt.pv ⟨kd,ns⟩)) (h.set id (xA L b2)) []):QC false h.length K0 (some [.agg [AI kd,w]]) (h.set id (xA L b2)++t) x:=by
 have hr:MA h.length (h.set id (xA L b2)++t) (UA [.agg [AI kd,w]])=some (.p (Flt.pv ⟨kd,ns⟩)):=by
  simp only[UA,z3I,z3M,z3L,hw,z3N];rfl
 rw[z3R hx hr (Nat.zero_le _),BZ];exact hK
theorem iT {v:PV}{b2:Int}{t:aA}{x:Esc}{K0:jA}(hx:∀ y∈x,h.length≤y.1)
 (hK:K0 (.p v) (h.set id (xA L b2)) []):QC false h.length K0 (some [.p v]) (h.set id (xA L b2)++t) x:=by
 rw[z3R hx (v:=.p v) (by rfl) (Nat.zero_le _),BZ]
 exact hK
theorem fZ {b2:Int}{t:aA}{j n m:Nat}{R:List PV}{fz:Nat}(ht:t[j]?=some (.row none R fz))(hR:R.length=n)(hm:m≤n):MA h.length (h.set id (xA L b2)++t) (.own (h.length+j) n 0 m)=some (.p (.sl none (R.take m))):=by
 have:(h.set id (xA L b2)++t)[h.length+j]?=some (.row none R fz):=by
  have e:h.length=(h.set id (xA L b2)).length:=by simp
  rw[e,tF];exact ht
 simp [z3K,rd,this,hR,hm,z5q]
theorem IC {n m:Nat}{x:Esc}{p:Prop}[Decidable p](hn:n≤m)(hx:∀ y∈x,n≤y.1){t:Nat}:∀y∈(if p then [(m,t)] else [])++x,n≤y.1:=by
 intro y hy;rcases List.mem_append.1 hy with hy|hy
 ·split at hy
  ·rw[List.mem_singleton.1 hy];exact hn
  ·cases hy
 ·exact hx y hy
theorem fT (kd:Int)(hkd:1≤kd∧kd≤6)(R:List Int)(n m:Nat)(hR:R.length=n)(hm1:1≤m)(hmn:m≤n)(hm3:m≤3)(hx:∀ x∈R,0≤x∧x≤1000)(v1:Int)(hv1 : -1000≤v1∧v1≤1000)(b:Int)(hp:RA 20 b)(hid:id<h.length)(x:Esc)(hxe:∀ y∈x,h.length≤y.1)(K0:jA)
 (hK:∀(f:Flt) (b2:Int),PJ f→b≤b2→b2≤b+6→K0 (.p f.pv) (h.set id (xA L b2)) []) :
 BD (eA X) X.gl cM (.ref id 0) (AI v1) (.ref h.length 0) (.ref (h.length+1) 0)
  (h.set id (xA L b)++[.box [AI 0,.sl0 none],.box [AI kd,.own (h.length+2) n 0 m],.row none (R.map eI) 0]) x (nA [.cell 4 (some 2)] false h.length K0):=by
 have hid':id≤h.length:=by omega
 have P:=zJ (PC hp (Int.le_refl b) (by omega))
 have hRl:(R.map eI).length=n:=by rw[List.length_map,hR]
 by_cases f1:iB L b 30=0
 ·by_cases f2:iB L (b+1) 4=0
  ·obtain⟨kv,a3,o1,o2,o3,o4,O⟩:=g_Odd (L:=L) (a:=b+1+1) (PC hp (by omega) (by omega)) 1 6 (by omega) (by omega) (by omega)
   have O':=fun l K=>O.app (h:=h) (id:=id) (l:=l) (K:=K) hid
   simp only[BD,go_sem,hid,hid',P,f1,f2,↓O',O',hRl,hmn,BB];refine gT (ns:=R.take m) (by rw[fZ (j:=2) (fz:=0) rfl hRl hmn,List.map_take]) (IC (Nat.le_refl _) (IC (by omega) hxe)) ?_
   exact hK ⟨kv,R.take m⟩ a3 ⟨by simp;omega,fun z hz=>by have:=hx z (List.mem_of_mem_take hz);omega,by dsimp only;omega,by dsimp only;omega⟩ (by omega) (by omega)
  ·by_cases f3:iB L (b+1) 4=1
   ·have hR0:0<R.length:=by omega
    have g0:=EL hR0
    have hhd:R.headD 0∈R:=by
     cases R with
     | nil=>cases hR0
     | cons z r=>simp
    have hb0:=hx _ hhd
    have pm:=KQ (l:=[0,1,-1,v1,R.headD 0]) (L:=L) (a:=b+1+1) (by simp) (by simp)
    obtain⟨c,hc⟩:∃c,eE [0,1,-1,v1,R.headD 0] L (b+1+1)=c:=⟨_,rfl⟩;rw[hc]at pm;have hcb : -1000≤c∧c≤1000:=by simp only[List.mem_cons,List.not_mem_nil,or_false]at pm;omega
    have hms:m+1≤DA:=by unfold DA;omega
    have hall:(R.map eI).all PV.intP=true:=by rw[List.all_eq_true];intro z hz;obtain⟨q,_,rfl⟩:=List.mem_map.1 hz;rfl
    by_cases hmn2:m=n
    ·simp only[BD,go_sem,hid,hid',P,f1,f2,f3,hc,hRl,hmn,hmn2,g0,hm1,BB,hms]
     have hns:n+1≤DA:=by unfold DA;omega
     rw[if_pos (by omega),if_pos hns]
     refine gT (ns:=R++[c]) ?_ (IC (Nat.le_refl _) (IC (by omega) hxe)) ?_
     ·rw[fZ (j:=2) (fz:=0) rfl (by simp [hR]) (Nat.le_refl _),List.take_of_length_le (by simp [hR]),List.map_append];rfl
     ·refine hK ⟨kd,R++[c]⟩ (b+1+1+1) ⟨by simp;omega,fun z hz=>?_,by dsimp only;omega,by dsimp only;omega⟩ (by omega) (by omega)
      rcases List.mem_append.1 hz with hz|hz
      ·have:=hx z hz;omega
      ·rw[List.mem_singleton.1 hz];omega
    ·simp only[BD,go_sem,hid,hid',P,f1,f2,f3,hc,hRl,hmn,hmn2,g0,hm1,BB,hms,hall]
     rw[if_pos (by omega),if_pos ⟨by omega,rfl⟩]
     refine iT (IC (Nat.le_refl _) (IC (by omega) hxe)) ?_
     have hw:win (R.map eI) 0 m++[PV.int IntKind.i64 c]=(R.take m++[c]).map eI:=by rw[z5q,List.map_append,List.map_take];rfl
     rw[hw];refine hK ⟨kd,R.take m++[c]⟩ (b+1+1+1) ⟨by simp;omega,fun z hz=>?_,by dsimp only;omega,by dsimp only;omega⟩ (by omega) (by omega)
     rcases List.mem_append.1 hz with hz|hz
     ·have:=hx z (List.mem_of_mem_take hz);omega
     ·rw[List.mem_singleton.1 hz];omega
   ·by_cases f4:iB L (b+1) 4=2
    ·simp only[BD,go_sem,hid,hid',P,f1,f2,f3,f4,hRl,hmn,BB]
     refine iT (IC (Nat.le_refl _) (IC (by omega) hxe)) ?_
     exact hK ⟨kd,[]⟩ (b+1+1) ⟨by simp,fun z hz=>by simp at hz,by dsimp only;omega,by dsimp only;omega⟩ (by omega) (by omega)
    ·obtain⟨r1,r2⟩:=XF (u:=5) (v:=7) L (b+1+1) (by omega) (by omega)
     obtain⟨c,hc⟩:=Int.eq_ofNat_of_zero_le (show 0≤bD 5 7 L (b+1+1) by omega)
     rw[hc]at r1 r2;have hc7:c≤7:=by omega
     simp only[BD,go_sem,hid,hid',P,f1,f2,f3,f4,hc,hc7,hRl,hmn,BB];refine iT (IC (Nat.le_refl _) (IC (by omega) hxe)) ?_
     have hw:win [PV.int IntKind.i64 0,PV.int IntKind.i64 1,PV.int IntKind.i64 2,PV.int IntKind.i64 3,PV.int IntKind.i64 4,PV.int IntKind.i64 5,PV.int IntKind.i64 6] 0 c=(([0,1,2,3,4,5,6]:List Int).take c).map eI:=by rw[List.map_take];rfl
     rw[hw];refine hK ⟨kd,([0,1,2,3,4,5,6]:List Int).take c⟩ (b+1+1+1) ⟨by simp;omega,fun z hz=>?_,by dsimp only;omega,by dsimp only;omega⟩ (by omega) (by omega)
     have:=List.mem_of_mem_take hz;simp only[List.mem_cons,List.not_mem_nil,or_false]at this;omega
 ·simp only[BD,go_sem,hid,hid',P,f1,hRl,hmn,BB]
  refine gT (ns:=R.take m) (by rw[fZ (j:=2) (fz:=0) rfl hRl hmn,List.map_take]) (IC (Nat.le_refl _) hxe) ?_
  exact hK ⟨kd,R.take m⟩ (b+1) ⟨by simp;omega,fun z hz=>by have:=hx z (List.mem_of_mem_take hz);omega,by dsimp only;omega,by dsimp only;omega⟩ (by omega) (by omega)
attribute [-go_sem] BD
theorem zeo (l:List Int):XA ltP (l.map eI)=(XA ltI l).map eI:=z2P eI (fun a b=>rfl) l
theorem iO {n m:Nat}{p:Prop}[Decidable p](hn:n≤m){t:Nat}:∀y∈(if p then [(m,t)] else([]:Esc)),n≤y.1:=by
 intro y hy;split at hy
 ·rw[List.mem_singleton.1 hy];exact hn
 ·cases hy
theorem GZ {l0:List Int}(o m N:Nat)(hl:l0.length=N)(hom:o+m≤N)(hm:m≤12)(x y:Obj)(b:Int):∃R:List Int,R.length=N∧(∀z∈R,z∈l0)∧∀K:jA,eA X ED [.own (h.length+2) N o m] (h.set id (xA L b)++[x,y,.row none (l0.map eI) 0]) K=K (.tup []) (h.set id (xA L b)++[x,y,.row none (R.map eI) 0]) []:=by
 have hsp:l0=l0.take o++((l0.drop o).take m++l0.drop (o+m)):=by
  rw[←List.drop_drop,List.take_append_drop,List.take_append_drop]
 have hl1:((l0.drop o).take m).length=m:=by simp;omega
 have hg:(h.set id (xA L b)++[x,y,.row none (l0.map eI) 0])[h.length+2]?=some (.row none (((l0.take o).map eI)++(((l0.drop o).take m).map eI++(l0.drop (o+m)).map eI)) 0):=by
  have e:h.length=(h.set id (xA L b)).length:=by simp
  rw[e,tF];show some (Obj.row none (l0.map eI) 0)=_
  rw[←List.map_append,←List.map_append,←hsp]
 refine⟨l0.take o++(XA ltI ((l0.drop o).take m)++l0.drop (o+m)),?_,fun z hz=>?_,fun K=>?_⟩
 ·rw[List.length_append,List.length_append,JL,hl1];simp;omega
 ·rw[hsp]
  rcases List.mem_append.1 hz with hz|hz
  ·exact List.mem_append_left _ hz
  ·rcases List.mem_append.1 hz with hz|hz
   ·exact List.mem_append_right _ (List.mem_append_left _ (vE.1 hz))
   ·exact List.mem_append_right _ (List.mem_append_right _ hz)
 ·have:=z6e (K:=K) (h.length+2) N o ((l0.take o).map eI) (((l0.drop o).take m).map eI) ((l0.drop (o+m)).map eI) (by simp;omega) (by rw[List.length_map,hl1];simp;omega) iH (by rw[List.length_map,hl1];exact hm) hg (lt:=ltP) z2X
  rw[List.length_map,hl1]at this;rw[this,zeo,←List.map_append,←List.map_append];congr 1
  have e:h.length+2=(h.set id (xA L b)).length+2:=by simp
  rw[e,VJ];rfl
theorem zdH (n:Nat)(hn:n≤100)(hp:RA 3000 a):tD SK [AI n] L a (fun v a2=>a≤a2∧a2≤a+120∧∃f:Flt,PJ f∧v = .p f.pv):=by
 refine tD.of fun h id hid=>?_
 rw[z7E rfl];have hid':id≤h.length:=by omega
 have p0:=PC (n:=0) hp (Int.le_refl a) (by omega)
 obtain⟨k1,k2⟩:=XF (u:=1) (v:=6) L a (by omega) (by omega)
 obtain⟨kd,hkd⟩:∃k,bD 1 6 L a=k:=⟨_,rfl⟩;rw[hkd]at k1 k2;obtain⟨N,hN⟩:∃N:Nat,max (n:Int) 1=(N:Int):=⟨max n 1,by omega⟩
 have hN1:1≤N∧N≤100:=by omega
 have hg:∀t:aA,(h.set id (xA L (a+1))++t)[id]?=some (xA L (a+1)):=fun t=>AZ hid _
 obtain⟨xs,a3,⟨d1,d2,l,hl,rfl⟩,V⟩:=zdK (L:=L) (a:=a+1) N (by omega) (PC hp (by omega) (by omega)) (h.set id (xA L (a+1))++[.box [AI 0,.sl0 none],.box [AI kd,.sl0 none]]) id (hg _)
 have hll:l.length=N:=by rw[hl.length_eq,MZ]
 have hb2:(h.set id (xA L (a+1))++[Obj.box [AI 0,.sl0 none],.box [AI kd,.sl0 none]]).length=h.length+2:=by simp
 rw[List.length_map,hll,hb2]at V;simp only[z4N hid,List.append_assoc,List.cons_append,List.nil_append]at V;have hlm:∀x∈l,0≤x∧x≤1000:=fun x hx=>by have:=zi6.1 (hl.mem_iff.1 hx);omega
 have P3:=zJ (PC hp (show a≤a3 by omega) (show a3+14≤a+3000 by omega))
 by_cases hk:3≤kd∧kd≤5
 ·have pm:=KQ (l:=[2,2,3]) (L:=L) (a:=a3) (by simp) (by simp)
  obtain⟨c,hc⟩:∃c,eE [2,2,3] L a3=c:=⟨_,rfl⟩;rw[hc]at pm;have hc3:2≤c∧c≤3:=by simp only[List.mem_cons,List.not_mem_nil,or_false]at pm;omega
  obtain⟨m,hm⟩:∃m:Nat,min c (N:Int)=(m:Int):=⟨(min c (N:Int)).toNat,by omega⟩
  have hm2:1≤m∧m≤N∧m≤3:=by omega
  have hm0:¬m=0:=by omega
  have hpos:RA 20 (a3+1):=PC hp (by omega) (by omega)
  by_cases h5:kd=5
  ·subst h5
   simp only[zG,go_sem,hid,hid',p0,hkd,hN,V,P3,hk.1,hk.2,hc,hm,hll,hm2,hm0,BB];obtain⟨R,r1,r2,r3⟩:=GZ (h:=h) (id:=id) (L:=L) (l0:=l) 1 (m-1) N hll (by omega) (by omega) (.box [AI 0,AV.sl0 none]) (.box [AI 5,AV.own (h.length+2) N 0 m]) (a3+1)
   rw[r3];refine fT 5 (by omega) R N m r1 (by omega) (by omega) (by omega) (fun z hz=>hlm z (r2 z hz)) n (by omega) (a3+1) hpos hid _ ?_ _ ?_
   ·rw[List.nil_append]
    exact IC (by omega) (iO (by omega))
   ·intro f b2 q1 q2 q3
    exact⟨b2,⟨by omega,by omega,f,q1,rfl⟩,rfl,rfl⟩
  ·have h5':¬(kd=5):=h5
   simp only[zG,go_sem,hid,hid',p0,hkd,hN,V,P3,hk.1,hk.2,hc,hm,h5',hll,hm2,hm0,BB];obtain⟨R,r1,r2,r3⟩:=GZ (h:=h) (id:=id) (L:=L) (l0:=l) 0 m N hll (by omega) (by omega) (.box [AI 0,AV.sl0 none]) (.box [AI kd,AV.own (h.length+2) N 0 m]) (a3+1)
   rw[r3];refine fT kd (by omega) R N m r1 (by omega) (by omega) (by omega) (fun z hz=>hlm z (r2 z hz)) n (by omega) (a3+1) hpos hid _ ?_ _ ?_
   ·rw[List.nil_append]
    exact IC (by omega) (iO (by omega))
   ·intro f b2 q1 q2 q3
    exact⟨b2,⟨by omega,by omega,f,q1,rfl⟩,rfl,rfl⟩
 ·have h5:¬kd=5:=by omega
  have hpos:RA 20 a3:=PC hp (by omega) (by omega)
  have fin:∀(y:Esc),(∀z∈y,h.length≤z.1)→(eA X ED [.own (h.length+2) N 0 1] (h.set id (xA L a3)++[.box [AI 0,AV.sl0 none],.box [AI kd,AV.own (h.length+2) N 0 1],.row none (l.map eI) 0])
   fun t12 h13 y14=>BD (eA X) X.gl cM (.ref id 0) (AI n) (.ref h.length 0) (.ref (h.length+1) 0) h13 (y14++y)
    (nA [.cell 4 (some 2)] false h.length fun v1 h1 x1=>∃a2,(a≤a2∧a2≤a+120∧∃f:Flt,PJ f∧v1 = .p f.pv)∧h1=h.set id (xA L a2)∧x1=[])):=by
   intro y hy;obtain⟨R,r1,r2,r3⟩:=GZ (h:=h) (id:=id) (L:=L) (l0:=l) 0 1 N hll (by omega) (by omega) (.box [AI 0,AV.sl0 none]) (.box [AI kd,AV.own (h.length+2) N 0 1]) a3
   rw[r3];refine fT kd (by omega) R N 1 r1 (by omega) (by omega) (by omega) (fun z hz=>hlm z (r2 z hz)) n (by omega) a3 hpos hid _ ?_ _ ?_
   ·rw[List.nil_append];exact hy
   ·intro f b2 q1 q2 q3
    exact⟨b2,⟨by omega,by omega,f,q1,rfl⟩,rfl,rfl⟩
  by_cases h3:3≤kd
  ·have h6:¬kd≤5:=by omega
   simp only[zG,go_sem,hid,hid',p0,hkd,hN,V,h3,h6,h5,hll,hN1.1,BB];refine fin _ ?_;exact IC (by omega) (iO (by omega))
  ·simp only[zG,go_sem,hid,hid',p0,hkd,hN,V,h3,h5,hll,hN1.1,BB]
   refine fin _ ?_;exact IC (by omega) (iO (by omega))
end Go.Am
end
section
/- Deleting faults: printed by program. -/
open Go
set_option linter.unusedSimpArgs false
namespace Go.Am
attribute [-go_sem] PV.cells splice
variable {h:aA} {K:jA}
attribute [-go_sem] AV.cells cut
attribute [go_sem] AV.cells cut
end Go.Am
end
section
/- What is drawn: lists of faults. -/
open Go
set_option linter.all false
namespace Go.Am
variable {L:List Int} {a:Int} {h l:aA} {id:Nat} {K:jA}
theorem z4p (l:List PV)(hl:l.length≤1000000):eA X JF [.p (.sl none l)] h K=K (.own h.length l.length 0 l.length) (h++[.row none l 0]) []:=by
 refine tA ?_;rw[z8g rfl];simp only[MN];refine⟨_,_,_,⟨rfl,rfl,rfl⟩,?_⟩;cases l with
 | nil=>
  simp only[List.length_nil,go_sem];exact List.take_of_length_le (by simp)
 | cons x r=>
  have hm:r.length+1≤DA:=by simp only[List.length_cons]at hl;unfold DA;omega
  simp only[List.length_cons,go_sem,hm];exact List.take_of_length_le (by simp)
theorem zgJ (l:List PV)(hl:l.length≤1000000):eA X dL [.p (.sl none l)] h K=K (.own h.length l.length 0 l.length) (h++[.row none l 0]) []:=by
 refine tA ?_;rw[z8h rfl];simp only[NN];refine⟨_,_,_,⟨rfl,rfl,rfl⟩,?_⟩;cases l with
 | nil=>
  simp only[List.length_nil,go_sem];exact List.take_of_length_le (by simp)
 | cons x r=>
  have hm:r.length+1≤DA:=by simp only[List.length_cons]at hl;unfold DA;omega
  simp only[List.length_cons,go_sem,hm];exact List.take_of_length_le (by simp)
theorem frzB {o0 o1:Obj}{sh:Sh}{xs:List PV}{fz k:Nat}:frz [o0,o1,.row sh xs fz] 2 k=[o0,o1,.row sh xs (max fz k)]:=rfl
theorem zdJ (n:Nat)(hn:n≤100)(hp:RA 4000 a):lH UK [AI n] L a (some 2) (fun xs a2=>a≤a2∧a2≤a+721∧∃fs:List Flt,fs.length≤6∧(∀f∈fs,PJ f)∧xs=fs.map Flt.pv):=by
 refine lH.of fun h id hid=>?_
 rw[z7G rfl];have hid':id≤h.length:=by omega
 have p0:=PC (n:=0) hp (Int.le_refl a) (by omega)
 obtain⟨n1,n2⟩:=XF (u:=0) (v:=6) L a (by omega) (by omega)
 obtain⟨m,hm⟩:=Int.eq_ofNat_of_zero_le n1;rw[hm]at n2;simp only[rN,go_sem,hid,p0,hm];refine FA (fun t:List Flt×Int=>⟨[(0,.ref id 0),(1,AI n),(5,.own h.length t.1.length 0 t.1.length),(8,AI m),(9,AI t.1.length)],h.set id (xA L t.2)++[.row (some 2) (t.1.map Flt.pv) 0],[]⟩)
  (fun t=>t.1.length≤m∧(∀f∈t.1,PJ f)∧a+1≤t.2∧t.2≤a+1+120*t.1.length) (fun t=>m-t.1.length) ([],a+1) rfl ⟨by simp,by simp,by simp,by simp⟩ ?_
 rintro⟨fs,b⟩ ⟨q1,q2,q3,q4⟩
 dsimp only at q1 q2 q3 q4 ⊢;rcases Nat.lt_or_ge fs.length m with hlt|hge
 ·have w2:IntKind.i64.wrap ((fs.length:Int)+1)=((fs.length+1:Nat):Int):=qA _ (by omega) (by omega)
  obtain⟨_,a3,⟨d1,d2,f,hf,rfl⟩,V⟩:=(zdH (L:=L) (a:=b) n hn (PC hp (by omega) (by omega))).app (h:=h) (l:=[.row (some 2) (fs.map Flt.pv) 0]) hid
  have C:=fun h K=>z4p (h:=h) (K:=K) (f.nets.map eI) (by have:=hf.1;simp;omega)
  rw[List.length_map]at C;have hmx:fs.length+1≤DA:=by unfold DA;omega
  have hwf:win (f.nets.map eI) 0 f.nets.length=f.nets.map eI:=EB (by simp)
  have hz:PV.shp (some 2) (.agg [.int .i64 0,.sl none []])=true:=rfl
  have hz2:PV.shp (some 2) (.agg [eI f.kind,.sl none (f.nets.map eI)])=true:=rfl
  simp only[Flt.pv]at V;simp only[go_sem,hid,hid',hlt,V,C,BB,hmx,hwf,hz,hz2,w2,frzB];rw[ziz (by simp)]
  simp only[go_sem,hid'];refine⟨(fs++[f],a3),by simp [Flt.pv],⟨by simp;omega,fun g hg=>?_,by dsimp only;omega,by simp;omega⟩,by simp;omega⟩
  rcases List.mem_append.1 hg with hg|hg
  ·exact q2 g hg
  ·rw[List.mem_singleton.1 hg];exact hf
 ·have hge':¬fs.length<m:=by omega
  simp only[go_sem,hid,hid',hge'];refine⟨fs.map Flt.pv,b,⟨by omega,by omega,fs,by omega,q2,rfl⟩,by rw[List.length_map],?_⟩
  exact List.take_of_length_le (by simp)
end Go.Am
end
section
/- Faults detected,asv the program computes it. -/
open Go
set_option linter.all false
namespace Go.Am
variable {h:aA} {K:jA}
theorem z4q (l m:List (List UInt8))(hl:l.length≤1000000000):eA X lL [EA l,EA m] h K=K (AB (decide (l=m))) h []:=by
 refine tA ?_;rw[z8r rfl];by_cases hlen:l.length=m.length
 ·simp only[CK,go_sem,hlen]
  refine FA (fun k:Nat=>⟨[(0,EA l),(1,EA m),(12,AI m.length),(13,AI k)],h,[]⟩) (fun k=>k≤m.length∧l.take k=m.take k) (fun k=>m.length-k) 0 rfl (by simp) ?_
  rintro k ⟨hk,hp⟩
  rcases Nat.lt_or_ge k m.length with hlt|hge
  ·have hg1:=PA PV.str (show k<l.length by omega)
   have hg2:=PA PV.str hlt
   have w2:IntKind.i64.wrap ((k:Int)+1)=((k+1:Nat):Int):=qA _ (by omega) (by omega)
   by_cases he:l[k]=m[k]
   ·simp only[go_sem,hlt,hg1,hg2,w2,he]
    exact⟨k+1,rfl,⟨by omega,by rw[List.take_succ_eq_append_getElem (by omega),List.take_succ_eq_append_getElem hlt,hp,he]⟩,by omega⟩
   ·simp only[go_sem,hlt,hg1,hg2,w2,he]
    have:¬l=m:=fun h=>he (by simp only[h])
    simp [this]
  ·have e1:k=m.length:=by omega
   have e2:l=m:=by rw[←List.take_length (l:=l),←List.take_length (l:=m),hlen,←e1,hp]
   subst e1;simp only[go_sem,Nat.lt_irrefl];simp [e2]
 ·have e1:((l.length:Int)=m.length)=False:=by simp only[eq_iff_iff,iff_false];omega
  simp only[CK,go_sem,e1];have:¬l=m:=fun h=>hlen (by rw[h])
  simp [this]
theorem zhs (r:List Nat)(f:Flt)(lg:Nat)(hl:lg≤64)(hf:FE f.nets r.length)(hr:r.length≤1000000)(hb:∀ x∈r,x<18446744073709551616) :
 eA X OK [.p (.sl none (r.map eU)),.p f.pv,AI lg] h K=K (.p (.sl none ((UB r f (2^lg-1)).map eU))) h []:=by
 refine tA ?_;rw[z7x rfl];have C:=fun h K=>zgJ (h:=h) (K:=K) (r.map eU) (by simpa using hr)
 rw[List.length_map]at C;have wh:=fun h K=>cR (h:=h) (K:=K) lg hl
 have W:=fun(K:jA)=>z49 (h:=h++[.box [AI f.kind,AL f.nets],.row none (r.map eU) 0]) (K:=K) f r hf (id:=h.length+1) (by rw[tF];rfl) hr hb (2^lg-1)
 have hw:win ((UB r f (2^lg-1)).map eU) 0 r.length=(UB r f (2^lg-1)).map eU:=EB (by rw[List.length_map,BL])
 have hl2:((UB r f (2^lg-1)).map eU).length=r.length:=by rw[List.length_map,BL]
 have hl3:(UB r f (2^lg-1)).length=r.length:=BL _ _ _
 simp only[Flt.pv]at W;simp only[eN,Flt.pv,go_sem,C,wh,W,hw,hl3]
theorem zhk (r:List Nat)(f:Flt)(lg:Nat)(hl:lg≤64)(hf:FE f.nets r.length)(hr:r.length≤1000000)(hb:∀ x∈r,x<2^lg) :
 eA X EG [.p (.sl none (r.map eU)),.p f.pv,AI lg] h K=K (.p (eU (AG lg r f))) h []:=by
 refine tA ?_;rw[z7q rfl];have l64:=le64 hl
 have R:=fun h K=>zhs (h:=h) (K:=K) r f lg hl hf hr (fun x hx=>Nat.lt_of_lt_of_le (hb x hx) l64)
 have hl3:(UB r f (2^lg-1)).length=r.length:=BL _ _ _
 have hb2:=RW (f:=f) hb (z3u lg)
 simp only[Flt.pv]at R;simp only[ZM,Flt.pv,go_sem,R,hl3];unfold AG;generalize UB r f (2^lg-1)=r2 at *;refine FA (fun k:Nat=>⟨[(0,.p (.sl none (r.map eU))),(7,.p (eU (dtK r2 r k))),(13,.p (.sl none (r2.map eU))),(14,AI r.length),(15,AI k)],h++[.box [AI f.kind,AL f.nets]],[]⟩) (fun k=>k≤r.length) (fun k=>r.length-k) 0 rfl (by omega) ?_
 intro k hk;rcases Nat.lt_or_ge k r.length with hlt|hge
 ·have g1:=PA eU hlt
  have g2:=PA eU (show k<r2.length by omega)
  have w2:IntKind.i64.wrap ((k:Int)+1)=((k+1:Nat):Int):=qA _ (by omega) (by omega)
  have b1:=Nat.lt_of_lt_of_le (hb _ (List.getElem_mem hlt)) l64
  have b2:=Nat.lt_of_lt_of_le (hb2 _ (List.getElem_mem (show k<r2.length by omega))) l64
  have b3:=Nat.lt_of_lt_of_le (CW hb2 hb k) l64
  have e1:=z2R b2 b1
  have e2:=sO b3 (b:=r2[k] ^^^ r[k]) (by rw[←WB]at *;exact Nat.xor_lt_two_pow b2 b1)
  have e3:dtK r2 r (k+1)=dtK r2 r k ||| (r2[k] ^^^ r[k]):=by
   rw[dtK];simp [List.getD_eq_getElem?_getD,List.getElem?_eq_getElem hlt,List.getElem?_eq_getElem (show k<r2.length by omega)]
  simp only[go_sem,hlt,g1,g2,e1,e2,w2];exact⟨k+1,by rw[e3],by omega,by omega⟩
 ·have ek:k=r.length:=by omega
  subst ek;simp only[go_sem,Nat.lt_irrefl]
def mD (t:List (List UInt8))(f:Flt):Nat:=AG (t.headD []).length (t.map zA) f
end Go.Am
end
section
/- The shortest way between two states of a test access port: a search over a queue. -/
open Go
set_option linter.all false
namespace Go.Am
variable {h:aA} {K:jA}
attribute [-go_sem] pI WL UL VL
end Go.Am
end
section
/- ready: a vB call,computed. -/
open Go
set_option linter.all false
namespace Go.Am
end Go.Am
end
section
/- What all laws of the keep package use. -/
open Go
set_option linter.all false
namespace Go.Am
variable {h:aA} {K:jA}
end Go.Am
end
section
/- ShortsAreAlike returns true. -/
open Go
set_option linter.all false
namespace Go.Am
variable {h:aA} {K:jA}
theorem z1p {t:List (List UInt8)}{lg:Nat}{f:Flt}(e:(t.headD []).length=lg)(hf:FE f.nets t.length):xG t [f]=(List.range t.length).map fun i=>eB lg (pC (t.map zA) (2^lg-1) f i):=by
 unfold xG;rw[e];apply List.ext_getElem?
 intro i;rw[List.getElem?_map,List.getElem?_map];show Option.map (eB lg) (UB (t.map zA) f (2^lg-1))[i]?=_
 unfold UB;rw[yZ _ _ _ _ (fun n hn=>(hf.2.2 n hn).1),List.length_map]
 by_cases hi:i<t.length
 ·rw[List.getElem?_range hi,Option.map_some]
  unfold pC;by_cases hm:(i:Int)∈f.nets
  ·rw[if_pos ⟨hm,hi⟩,if_pos hm];rfl
  ·rw[if_neg (fun q=>hm q.1),if_neg hm,List.getElem?_eq_getElem (by simpa using hi),List.getD_eq_getElem?_getD,List.getElem?_eq_getElem (by simpa using hi)];rfl
 ·rw[if_neg (fun q=>hi q.2),List.getElem?_eq_none (by simpa using hi),List.getElem?_eq_none (by simpa using hi)];rfl
end Go.Am
end
section
/- FaultsAreOnes returns true. -/
open Go
set_option linter.all false
namespace Go.Am
variable {h:aA} {K:jA}
end Go.Am
end
section
/- Responses,the reference's way. -/
open Go
set_option linter.all false
namespace Go.Am
variable {h:aA} {K:jA}
theorem z3V {t:List (List UInt8)}{n:Int}(h0:0≤n)(h1:n<t.length):dB (t.map zA) n=zA (t[n.toNat]'(by omega)):=by
 unfold dB;simp [List.getD_eq_getElem?_getD,List.getElem?_eq_getElem (show n.toNat<t.length by omega)]
theorem zht (t:List (List UInt8))(f:Flt)(lg:Nat)(T:TestOk t lg)(hf:NB t.length f=0)(n v:Nat)(hn:n<t.length)(hv:v<lg) :
 eA X bL [EA t,.p f.pv,AI n,AI v] h K=K (.p (.int .u8 (BC ((pC (t.map zA) (2^lg-1) f n).testBit v)).toNat)) h []:=by
 refine tA ?_;rw[z8e rfl];have ok:=z2k hf
 have hni:=bI hf
 have CO:=fun h K=>bR (h:=h) (K:=K) f.nets n (by have:=ok.2.1;omega)
 have gt:=PA PV.str hn
 have te:=T.e _ (List.getElem_mem hn)
 have tb:=T.b _ (List.getElem_mem hn)
 unfold pC;cases hc:f.nets.contains (n:Int) with
 | false=>
  have hc':¬(n:Int)∈f.nets:=fun hm=>by rw[List.contains_iff_mem.2 hm]at hc;cases hc
  have hr:(t.map zA).getD n 0=zA t[n]:=by simp [List.getD_eq_getElem?_getD,List.getElem?_eq_getElem hn]
  have gc:=UQ (v:=v) tb (by omega)
  rw[if_neg hc',hr];simp only[yK,Flt.pv,go_sem,CO,hc,gt,gc]
 | true=>
  have hc':(n:Int)∈f.nets:=List.contains_iff_mem.1 hc
  rw[if_pos hc',zh3 hni.1 ⟨ok.2.2.2.1,ok.2.2.2.2.1⟩ hv];have h0:0<f.nets.length:=List.length_pos_iff.2 hni.1
  simp only[yK,Flt.pv,go_sem,CO,hc];refine FA (fun k:Nat=>⟨[(0,EA t),(3,AI v),(5,.ref h.length 0),(9,AI (oC (t.map zA) v (f.nets.take k):Nat)),(25,AL f.nets),(26,AI f.nets.length),(27,AI k)],h++[.box [AI f.kind,AL f.nets]],[]⟩) (fun k=>k≤f.nets.length) (fun k=>f.nets.length-k) 0 rfl (by omega) ?_
  intro k hk;have hon:oC (t.map zA) v (f.nets.take k)≤k:=Nat.le_trans List.countP_le_length (by simp;omega)
  rcases Nat.lt_or_ge k f.nets.length with hlt|hge
  ·have hg:=PA eI hlt
   have hnk:=hni.2.2 _ (List.getElem_mem hlt)
   have e5:=KD (k:=.i64) hnk.1
   have hlt4:(f.nets[k]).toNat<t.length:=by omega
   have g2:=PA PV.str hlt4
   have hra:=z3V hnk.1 hnk.2
   have gc:=UQ (v:=v) (T.b _ (List.getElem_mem hlt4)) (by rw[T.e _ (List.getElem_mem hlt4)];exact hv)
   have hon2:=zfZ (r:=t.map zA) (v:=v) hlt
   rw[hra]at hon2;have w2:IntKind.i64.wrap ((k:Int)+1)=((k+1:Nat):Int):=qA _ (by have:=ok.2.1;omega) (by have:=ok.2.1;omega)
   have e1:∀b:Bool,IntKind.u8.wrap (((BC b).toNat:Int)-48)=((if b=true then 1 else 0:Nat):Int):=fun b=>by cases b <;> rfl
   have e2:∀b:Bool,IntKind.i64.wrap ((if b=true then 1 else 0:Nat):Int)=((if b=true then 1 else 0:Nat):Int):=fun b=>by cases b <;> rfl
   generalize f.nets[k]=m at *;generalize (zA t[m.toNat]).testBit v=b at *;have e3:IntKind.i64.wrap ((oC (t.map zA) v (f.nets.take k):Nat)+((if b=true then 1 else 0:Nat):Int))=((oC (t.map zA) v (f.nets.take (k+1)):Nat):Int):=by
    rw[hon2,qA _ (by split <;> omega) (by have:=ok.2.1;split <;> omega)]
    exact(Int.natCast_add _ _).symm
   simp only[go_sem,hlt,hg,e5,g2,gc,e1,e2,e3,w2];exact⟨k+1,rfl,by omega,by omega⟩
  ·have ek:k=f.nets.length:=by omega
   subst ek;rw[List.take_length]at hon ⊢;have g0:=EL h0
   have hhd:=hni.2.2 _ (z2J hni.1)
   have e5:=KD (k:=.i64) hhd.1
   have hlt4:(f.nets.headD 0).toNat<t.length:=by omega
   have g2:=PA PV.str hlt4
   have hra:=z3V hhd.1 hhd.2
   have gc:=UQ (v:=v) (T.b _ (List.getElem_mem hlt4)) (by rw[T.e _ (List.getElem_mem hlt4)];exact hv)
   have ei:((oC (t.map zA) v f.nets:Nat):Int)=(f.nets.length:Int)↔oC (t.map zA) v f.nets=f.nets.length:=by omega
   have ep:(0:Int)<((oC (t.map zA) v f.nets:Nat):Int)↔0<oC (t.map zA) v f.nets:=by omega
   unfold vZ;by_cases k2:f.kind=2
   ·simp only[go_sem,Nat.lt_irrefl,k2]
    rfl
   by_cases k6:f.kind=6
   ·simp only[go_sem,Nat.lt_irrefl,k6]
    rfl
   by_cases k3:f.kind=3
   ·by_cases hq:oC (t.map zA) v f.nets=f.nets.length
    ·simp only[go_sem,Nat.lt_irrefl,k3,ei,hq]
     rfl
    ·simp only[go_sem,Nat.lt_irrefl,k3,ei,hq]
     rfl
   by_cases k4:f.kind=4
   ·by_cases hq:0<oC (t.map zA) v f.nets
    ·simp only[go_sem,Nat.lt_irrefl,k4,ep,hq]
     rfl
    ·simp only[go_sem,Nat.lt_irrefl,k4,ep,hq]
     rfl
   by_cases k5:f.kind=5
   ·simp only[go_sem,Nat.lt_irrefl,k5,g0,e5,g2,gc,hra]
    rfl
   ·simp only[go_sem,Nat.lt_irrefl,k2,k3,k4,k5,k6]
    rfl
end Go.Am
end
section
/- Responses of tests,the reference's way. -/
open Go
set_option linter.all false
namespace Go.Am
variable {h:aA} {K:jA}
def OD (t:List (List UInt8))(f:Flt)(lg n:Nat):List UInt8:=eB lg (pC (t.map zA) (2^lg-1) f n)
theorem zgv {α:Type}(g:Nat→α)(k:Nat):(List.range (k+1)).map g=(List.range k).map g++[g k]:=by rw[List.range_succ,List.map_append];rfl
theorem zgZ (t:List (List UInt8))(f:Flt)(lg:Nat)(T:TestOk t lg)(hlg:(t.headD []).length=lg)(hf:NB t.length f=0) :
 eA X YK [EA t,.p f.pv] h K=K (EA (xG t [f])) h []:=by
 refine tA ?_;rw[z7U rfl];have hce:=z1p hlg (bI hf)
 have hce':xG t [f]=(List.range t.length).map (OD t f lg):=hce
 rw[hce'];have hn:=T.n1
 have hl:=T.l
 simp only[DN,Flt.pv,go_sem];refine FA (fun k:Nat=>⟨[(0,EA t),(3,.ref h.length 0),(5,.own (h.length+1) k 0 k),(10,AI t.length),(11,AI k)],h++[.box [AI f.kind,AL f.nets],.row none (((List.range k).map (OD t f lg)).map PV.str) 0],[]⟩) (fun k=>k≤t.length) (fun k=>t.length-k) 0 rfl (by omega) ?_
 intro k hk;have hkl:(((List.range k).map (OD t f lg)).map PV.str).length=k:=by simp
 have hsn:=zgv (OD t f lg) k
 rcases Nat.lt_or_ge k t.length with hlt|hge
 ·have gt:=PA PV.str hlt
  have te:=T.e _ (List.getElem_mem hlt)
  have w2:IntKind.i64.wrap ((k:Int)+1)=((k+1:Nat):Int):=qA _ (by omega) (by omega)
  generalize (List.range k).map (OD t f lg)=R at *;have hmk:k+1≤DA:=by unfold DA;omega
  simp only[go_sem,hlt,gt,te];refine FA (fun v:Nat=>⟨[(0,EA t),(3,.ref h.length 0),(5,.own (h.length+1) k 0 k),(6,AI k),(7,.own (h.length+2) v 0 v),(10,AI t.length),(11,AI k),(18,AI lg),(19,AI v)],h++[.box [AI f.kind,AL f.nets],.row none (R.map PV.str) 0,.row none (JA (eB v (pC (t.map zA) (2^lg-1) f k))) 0],[]⟩) (fun v=>v≤lg) (fun v=>lg-v) 0 rfl (by omega) ?_
  intro v hv;have hbl:(JA (eB v (pC (t.map zA) (2^lg-1) f k))).length=v:=by simp [JA,eB]
  rcases Nat.lt_or_ge v lg with hlt2|hge2
  ·have S:=fun h K=>zht (h:=h) (K:=K) t f lg T hf k v hlt hlt2
   simp only[Flt.pv]at S;have w3:IntKind.i64.wrap ((v:Int)+1)=((v+1:Nat):Int):=qA _ (by omega) (by omega)
   have hmv:v+1≤DA:=by unfold DA;omega
   have ets:=z4Z v lg (pC (t.map zA) (2^lg-1) f k)
   have hps:PV.shp none (.int .u8 0)=true:=rfl
   simp only[go_sem,hlt2,S,w3,hmv,hbl,hps];refine⟨v+1,?_,by omega,by omega⟩
   rw[ets];simp [JA]
  ·have ev:v=lg:=by omega
   subst ev;have hwf:win (JA (eB v (pC (t.map zA) (2^v-1) f k))) 0 v=JA (eB v (pC (t.map zA) (2^v-1) f k)):=EB (by omega)
   have tb:=rM (eB v (pC (t.map zA) (2^v-1) f k))
   simp only[go_sem,Nat.lt_irrefl,rd,rds,hbl,hwf,tb,UC,hmk,hkl,w2];refine⟨k+1,?_,by omega,by omega⟩
   rw[hsn];simp [OD]
 ·have ek:k=t.length:=by omega
  subst ek;simp only[go_sem,Nat.lt_irrefl];rw[EB (by simp)]
theorem zg1 {t:List (List UInt8)}{f:Flt}{lg n:Nat}(v:Nat)(hv:v<lg):(OD t f lg n)[v]?=some (BC ((pC (t.map zA) (2^lg-1) f n).testBit v)):=zik hv
theorem z0C {a b:Bool}:((BC a).toNat:Int)=((BC b).toNat:Int)↔a=b:=by cases a <;> cases b <;> simp [BC]
theorem z9c {t:List (List UInt8)}{f:Flt}{lg:Nat}(e:(t.headD []).length=lg)(hf:FE f.nets t.length)(v:Nat):(mD t f).testBit v=true↔∃n,n<t.length∧(pC (t.map zA) (2^lg-1) f n).testBit v≠(zA (t.getD n [])).testBit v:=by
 unfold mD AG;rw[e,z1I,List.length_map];have hq:∀n,n<t.length→(UB (t.map zA) f (2^lg-1)).getD n 0=pC (t.map zA) (2^lg-1) f n:=by
  intro k hk;unfold UB pC;rw[List.getD_eq_getElem?_getD,yZ _ _ _ _ (fun n hn=>(hf.2.2 n hn).1),List.length_map]
  by_cases hm:(k:Int)∈f.nets
  ·rw[if_pos ⟨hm,hk⟩,if_pos hm];rfl
  ·rw[if_neg (fun q=>hm q.1),if_neg hm,List.getD_eq_getElem?_getD]
 have hr:∀n,n<t.length→(t.map zA).getD n 0=zA (t.getD n []):=fun n hn=>by simp [List.getD_eq_getElem?_getD,List.getElem?_eq_getElem hn]
 constructor
 ·rintro⟨n,h1,h2⟩;exact⟨n,h1,by rw[←hq n h1,←hr n h1];exact h2⟩
 ·rintro⟨n,h1,h2⟩;exact⟨n,h1,by rw[hq n h1,hr n h1];exact h2⟩
def oT (t:List (List UInt8))(f:Flt)(lg:Nat):List Int:=(kA lg (mD t f)).map fun(n:Nat)=>(n:Int)
theorem ZJ (k d:Nat):kA (k+1) d=kA k d++if d.testBit k=true then [k] else []:=by
 unfold kA;rw[List.range_succ,List.filter_append];cases hq:d.testBit k <;> simp [hq]
theorem z42 (t:List (List UInt8))(f:Flt)(lg:Nat)(T:TestOk t lg)(hlg:(t.headD []).length=lg)(hf:NB t.length f=0) :
 eA X TH [EA t,.p f.pv] h K=K (AL (oT t f lg)) h []:=by
 refine tA ?_;rw[z7Y rfl];have R:=fun h K=>zgZ (h:=h) (K:=K) t f lg T hlg hf
 have hce':xG t [f]=(List.range t.length).map (OD t f lg):=z1p hlg (bI hf)
 rw[hce']at R;have hn:=T.n1
 have hl:=T.l
 have hz:=MF T.n0
 have hdb:=z9c (lg:=lg) hlg (bI hf)
 simp only[Flt.pv]at R;simp only[GN,Flt.pv,go_sem,R,hz,hlg];have rg:∀i,i<t.length→(((List.range t.length).map (OD t f lg)).map PV.str)[i]?=some (.str (OD t f lg i)):=fun i hi=>by
  rw[List.getElem?_map,List.getElem?_map,List.getElem?_range hi];rfl
 unfold oT;generalize mD t f=d at *;refine FA (fun v:Nat=>⟨[(0,EA t),(5,EA ((List.range t.length).map (OD t f lg))),(6,.own (h.length+1) (kA v d).length 0 (kA v d).length),(15,AI lg),(16,AI v)],h++[.box [AI f.kind,AL f.nets],.row none (((kA v d).map fun(n:Nat)=>(n:Int)).map eI) 0],[]⟩) (fun v=>v≤lg) (fun v=>lg-v) 0 rfl (by omega) ?_
 intro v hv;have hcl:(kA v d).length≤v:=Nat.le_trans (List.length_filter_le _ _) (by simp)
 have hsc:=ZJ v d
 rcases Nat.lt_or_ge v lg with hlt|hge
 ·have w2:IntKind.i64.wrap ((v:Int)+1)=((v+1:Nat):Int):=qA _ (by omega) (by omega)
  generalize hC:kA v d=C at *;have hmx:C.length+1≤DA:=by unfold DA;omega
  simp only[go_sem,hlt];refine FA (fun n:Nat=>⟨[(0,EA t),(5,EA ((List.range t.length).map (OD t f lg))),(6,.own (h.length+1) C.length 0 C.length),(7,AI v),(15,AI lg),(16,AI v),(20,AI t.length),(21,AI n)],h++[.box [AI f.kind,AL f.nets],.row none ((C.map fun(n:Nat)=>(n:Int)).map eI) 0],[]⟩)
   (fun n=>n≤t.length∧∀i,i<n→(pC (t.map zA) (2^lg-1) f i).testBit v=(zA (t.getD i [])).testBit v) (fun n=>t.length-n) 0 rfl ⟨by omega,fun i hi=>by omega⟩ ?_
  rintro n ⟨hn1,hn2⟩
  rcases Nat.lt_or_ge n t.length with hlt2|hge2
  ·have w3:IntKind.i64.wrap ((n:Int)+1)=((n+1:Nat):Int):=qA _ (by omega) (by omega)
   have gr:=rg n hlt2
   have gb:=zg1 (t:=t) (f:=f) (n:=n) v hlt
   have gt:=PA PV.str hlt2
   have gc:=UQ (v:=v) (T.b _ (List.getElem_mem hlt2)) (by rw[T.e _ (List.getElem_mem hlt2)];exact hlt)
   have hgd:t.getD n []=t[n]:=by simp [List.getD_eq_getElem?_getD,List.getElem?_eq_getElem hlt2]
   by_cases hq:(pC (t.map zA) (2^lg-1) f n).testBit v=(zA t[n]).testBit v
   ·simp only[go_sem,hlt2,gr,gb,gt,gc,z0C,hq,w3]
    refine⟨n+1,rfl,⟨by omega,fun i hi=>?_⟩,by omega⟩
    by_cases hin:i=n
    ·subst hin;rw[hgd];exact hq
    ·exact hn2 i (by omega)
   ·have hdt:d.testBit v=true:=(hdb v).2 ⟨n,hlt2,by rw[hgd];exact hq⟩
    rw[if_pos hdt]at hsc;simp only[go_sem,hlt2,gr,gb,gt,gc,z0C,hq,hmx,w2];refine⟨v+1,?_,by omega,by omega⟩
    rw[hsc];simp
  ·have en:n=t.length:=by omega
   subst en;have hdt:¬d.testBit v=true:=fun hd=>by
    obtain⟨i,h1,h2⟩:=(hdb v).1 hd;exact h2 (hn2 i h1)
   rw[if_neg hdt,List.append_nil]at hsc;simp only[go_sem,Nat.lt_irrefl,w2];exact⟨v+1,by rw[hsc],by omega,by omega⟩
 ·have ev:v=lg:=by omega
  subst ev;simp only[go_sem,Nat.lt_irrefl];rw[EB (by simp)]
end Go.Am
end
section
/- How many bits;which vectors detect each fault;are some enough: the program. -/
open Go
set_option linter.all false
namespace Go.Am
variable {h:aA} {K:jA}
theorem SG {a b:Nat}(h:a+b<18446744073709551616):IntKind.u64.wrap ((a:Int)+(b:Int))=((a+b:Nat):Int):=by
 have:=iG (a+b) h;rw[←this];congr 1
theorem z2K {a b:Nat}(ha:a<9223372036854775808)(hb:b<9223372036854775808):uC .i64 (a:Int) (b:Int)=((a &&& b:Nat):Int):=by
 show IntKind.i64.wrap ((BitVec.ofInt 64 (a:Int) &&& BitVec.ofInt 64 (b:Int)).toNat:Int)=_
 rw[bvN,bvN,BitVec.toNat_and,BitVec.toNat_ofNat,BitVec.toNat_ofNat,Nat.mod_eq_of_lt (by rw[WB];omega),Nat.mod_eq_of_lt (by rw[WB];omega)]
 have h:a &&& b≤a:=Nat.and_le_left
 exact qA _ (by omega) (by omega)
theorem z6Y (n:Nat):WA n≤12297829382473034410∧qB (WA n)≤7378697629483820646∧LB (qB (WA n))≤1085102592571150095:=by
 refine⟨?_,?_,?_⟩
 ·have h1:n / 2 &&& 6148914691236517205≤6148914691236517205:=Nat.and_le_right
  have h2:n &&& 6148914691236517205≤6148914691236517205:=Nat.and_le_right
  unfold WA;omega
 ·generalize WA n=m
  have h1:m / 4 &&& 3689348814741910323≤3689348814741910323:=Nat.and_le_right
  have h2:m &&& 3689348814741910323≤3689348814741910323:=Nat.and_le_right
  unfold qB;omega
 ·exact Nat.and_le_right
theorem qZ (n:Nat)(hn:n<18446744073709551616):eA X JG [.p (eU n)] h K=K (AI (oA 64 n:Nat)) h []:=by
 refine tA ?_;rw[z79 rfl];obtain⟨b1,b2,b3⟩:=z6Y n;have e1:MC .u64 (n:Int) 1=((n / 2:Nat):Int):=NF (a:=n) (i:=1) (by omega)
 have e2:uC .u64 ((n / 2:Nat):Int) 6148914691236517205=((n / 2 &&& 6148914691236517205:Nat):Int):=aE (a:=n / 2) (b:=6148914691236517205) (by omega) (by omega)
 have e3:uC .u64 (n:Int) 6148914691236517205=((n &&& 6148914691236517205:Nat):Int):=aE (a:=n) (b:=6148914691236517205) hn (by omega)
 have e4:IntKind.u64.wrap (((n / 2 &&& 6148914691236517205:Nat):Int)+((n &&& 6148914691236517205:Nat):Int))=((WA n:Nat):Int):=SG (by have:=b1;unfold WA at this;omega)
 have e5:MC .u64 ((WA n:Nat):Int) 2=((WA n / 4:Nat):Int):=NF (a:=WA n) (i:=2) (by omega)
 have e6:uC .u64 ((WA n / 4:Nat):Int) 3689348814741910323=((WA n / 4 &&& 3689348814741910323:Nat):Int):=aE (a:=WA n / 4) (b:=3689348814741910323) (by omega) (by omega)
 have e7:uC .u64 ((WA n:Nat):Int) 3689348814741910323=((WA n &&& 3689348814741910323:Nat):Int):=aE (a:=WA n) (b:=3689348814741910323) (by omega) (by omega)
 have e8:IntKind.u64.wrap (((WA n / 4 &&& 3689348814741910323:Nat):Int)+((WA n &&& 3689348814741910323:Nat):Int))=((qB (WA n):Nat):Int):=SG (by have:=b2;unfold qB at this;omega)
 have d2:(popL n)=(((LB (qB (WA n))+LB (qB (WA n)) / 256)+(LB (qB (WA n))+LB (qB (WA n)) / 256) / 65536)+((LB (qB (WA n))+LB (qB (WA n)) / 256)+(LB (qB (WA n))+LB (qB (WA n)) / 256) / 65536) / 4294967296)%128:=rfl
 have d3:LB (qB (WA n))=(qB (WA n) / 16+qB (WA n)) &&& 1085102592571150095:=rfl
 rw[←zgl hn,d2];generalize qB (WA n)=m at *;have e9:MC .u64 (m:Int) 4=((m / 16:Nat):Int):=NF (a:=m) (i:=4) (by omega)
 have e10:IntKind.u64.wrap (((m / 16:Nat):Int)+(m:Int))=((m / 16+m:Nat):Int):=SG (by omega)
 have e11:uC .u64 ((m / 16+m:Nat):Int) 1085102592571150095=((LB m:Nat):Int):=by rw[d3];exact aE (a:=m / 16+m) (b:=1085102592571150095) (by omega) (by omega)
 clear d3;generalize LB m=y at *;have e12:MC .u64 (y:Int) 8=((y / 256:Nat):Int):=NF (a:=y) (i:=8) (by omega)
 have e13:IntKind.u64.wrap ((y:Int)+((y / 256:Nat):Int))=((y+y / 256:Nat):Int):=SG (by omega)
 obtain⟨a,ha⟩:∃a,a=y+y / 256:=⟨_,rfl⟩;have ba:a≤1100000000000000000:=by omega
 rw[←ha]at e13 ⊢;have e14:MC .u64 (a:Int) 16=((a / 65536:Nat):Int):=NF (a:=a) (i:=16) (by omega)
 have e15:IntKind.u64.wrap ((a:Int)+((a / 65536:Nat):Int))=((a+a / 65536:Nat):Int):=SG (by omega)
 obtain⟨b,hb⟩:∃b,b=a+a / 65536:=⟨_,rfl⟩;have bb:b≤1200000000000000000:=by omega
 rw[←hb]at e15 ⊢;have e16:MC .u64 (b:Int) 32=((b / 4294967296:Nat):Int):=NF (a:=b) (i:=32) (by omega)
 have e17:IntKind.u64.wrap ((b:Int)+((b / 4294967296:Nat):Int))=((b+b / 4294967296:Nat):Int):=SG (by omega)
 obtain⟨c,hc⟩:∃c,c=b+b / 4294967296:=⟨_,rfl⟩;have bc:c≤1300000000000000000:=by omega
 rw[←hc]at e17 ⊢;have e18:IntKind.i64.wrap (c:Int)=(c:Int):=qA _ (by omega) (by omega)
 have e19:uC .i64 (c:Int) 127=((c%128:Nat):Int):=by
  rw[show(127:Int)=((127:Nat):Int) from rfl,z2K (by omega) (by omega)]
  congr 1
  exact Nat.and_two_pow_sub_one_eq_mod c 7
 simp only[nN,go_sem,e1,e2,e3,e4,e5,e6,e7,e8,e9,e10,e11,e12,e13,e14,e15,e16,e17,e18,e19]
theorem zhj (r:List Nat)(f:Flt)(lg:Nat)(hl:lg≤64)(hf:FE f.nets r.length)(hr:r.length≤1000000)(hb:∀ x∈r,x<2^lg){id n fz:Nat}(hn:n=r.length)(hh:h[id]?=some (.row none (r.map eU) fz)) :
 eA X EG [.own id n 0 n,.p f.pv,AI lg] h K=K (.p (eU (AG lg r f))) (frz h id n) []:=by
 subst hn;have e:=pG (X:=X) (f:=EG) (F:=wM) (a:=[.own id r.length 0 r.length,.p f.pv,AI lg]) (vs:=[.sl none (r.map eU),f.pv,.int .i64 lg]) (h:=h) (h1:=frz h id r.length) (P:=K) z5s rfl
  (by
   have:win (r.map eU) 0 r.length=r.map eU:=EB (by simp)
   simp [mA,pur,rd,hh,this]) rfl rfl sE
 rw[e];exact zhk r f lg hl hf hr hb
def LA (t:List (List UInt8))(l:List Flt):List Nat:=l.map (mD t)
theorem lI {t:List (List UInt8)}{l:List Flt}{lg:Nat}(T:TestOk t lg)(hlg:(t.headD []).length=lg):∀m∈LA t l,m<2^lg:=by
 intro m hm;obtain⟨f,_,rfl⟩:=List.mem_map.1 hm;unfold mD;rw[hlg];exact z9b (kZ T)
set_option maxHeartbeats 1000000 in
theorem tZ (t:List (List UInt8))(l:List Flt)(lg:Nat)(T:TestOk t lg)(hlg:(t.headD []).length=lg)(hf:∀ f∈l,NB t.length f=0)(hn:l.length≤20000) :
 eA X GG [EA t,MB l] h K=K (.p (.sl none ((LA t l).map eU))) h []:=by
 refine tA ?_;rw[z7w rfl];have R:=fun h K=>z48 (h:=h) (K:=K) t T.b (fun s hs=>by rw[T.e s hs];exact T.l) (by have:=T.n1;omega)
 have r0:=kZ T
 have hz:=MF T.n0
 have htl:=T.n1
 simp only[dN,go_sem,R];refine FA (fun k:Nat=>⟨[(0,EA t),(5,.own h.length t.length 0 t.length),(6,.own (h.length+1) k 0 k),(11,MB l),(12,AI l.length),(13,AI k)],h++[.row none ((t.map zA).map eU) (if k=0 then 0 else t.length),.row none ((LA t (l.take k)).map eU) 0],[]⟩) (fun k=>k≤l.length) (fun k=>l.length-k) 0 rfl (by omega) ?_
 intro k hk;rw[wD];have ml:((LA t (l.take k)).map eU).length=k:=by unfold LA;rw[List.length_map,List.length_map,List.length_take];omega
 rcases Nat.lt_or_ge k l.length with hlt|hge
 ·have hlt':(k:Int)<(l.length:Int):=by omega
  have hg:=PA Flt.pv hlt
  have cx:=dI (f:=l[k])
  have w2:IntKind.i64.wrap ((k:Int)+1)=((k+1:Nat):Int):=qA _ (by omega) (by omega)
  have hfk:=hf _ (List.getElem_mem hlt)
  have et:LA t (l.take (k+1))=LA t (l.take k)++[mD t l[k]]:=by
   unfold LA;rw[List.take_succ_eq_append_getElem hlt,List.map_append];rfl
  have ed:mD t l[k]=AG lg (t.map zA) l[k]:=by unfold mD;rw[hlg]
  generalize l[k]=f at *;generalize LA t (l.take k)=M at *;have D:=fun(o:Obj) (fz:Nat) (g:aA) (K:jA)=>zhj (h:=h++(.row none ((t.map zA).map eU) fz::o::g)) (K:=K) (t.map zA) f lg T.l (by rw[List.length_map];exact bI hfk) (by simp;omega) r0 (id:=h.length) (n:=t.length) (fz:=fz) (by simp) (by rw[oG];rfl)
  rw[←ed]at D;simp only[Flt.pv]at D hg cx;have ms:k+1≤DA:=by unfold DA;omega
  have fz:∀(n:Nat) (o:Obj) (g:aA),frz (.row none ((t.map zA).map eU) n::o::g) 0 t.length = .row none ((t.map zA).map eU) (max n t.length)::o::g:=fun n o g=>by simp [frz]
  have em:max (if k=0 then 0 else t.length) t.length=t.length:=by split <;> omega
  simp only[go_sem,hlt',hlt,hg,cx,splice,hz,hlg,D,fz,em,ml,ms,w2];exact⟨k+1,by rw[et,if_neg (by omega),List.map_append];rfl,by omega,by omega⟩
 ·have ek:k=l.length:=by omega
  have hlt':¬(k:Int)<(l.length:Int):=by omega
  have wf:win ((LA t (l.take k)).map eU) 0 k=(LA t (l.take k)).map eU:=EB ml
  have et:l.take k=l:=List.take_of_length_le (by omega)
  rw[et]at ml wf ⊢;simp only[go_sem,hlt',ml,wf]
theorem sZ (t:List (List UInt8))(l:List Flt)(hb:∀ s∈t,s.length≤1000000)(ht:t.length≤1000000)(hf:∀ f∈l,f.nets.length≤1000000)(hn:l.length≤20000):eA X FG [EA t,MB l] h K=K (AI (yB t l)) h []:=by
 refine tA ?_;rw[z7v rfl];have c1:=fun h K=>z4o (h:=h) (K:=K) t hb ht
 have c2:=fun h K=>z45 (h:=h) (K:=K) t l hb ht hf (by omega)
 have h1:¬(20000:Int)<l.length:=by omega
 by_cases h0:RC t=0
 ·simp only[oK,go_sem,c1,c2,h0,h1]
 ·have e:yB t l=RC t:=by unfold yB;rw[if_pos h0]
  simp only[oK,go_sem,c1,c2,h0,e]
theorem zhl (m s:Nat)(hm:m<18446744073709551616)(hs:s<18446744073709551616){id:Nat}(hh:h[id]?=some (.box [.p (eU s)])):eA X HH [.p (eU m),.ref id 0] h K=K (AB (!(decide (m=0)||decide (m &&& s≠0)))) h []:=by
 refine tA ?_;rw[z7s rfl];have e:=aE hm hs
 by_cases h0:m=0
 ·have h0':((m:Nat):Int)=0:=by omega
  simp only[BH,go_sem,h0',h0]
 ·have h0':¬((m:Nat):Int)=0:=by omega
  by_cases h1:m &&& s=0
  ·have h1':(((m &&& s:Nat)):Int)=0:=by omega
   simp only[BH,go_sem,h0',h0,hh,e,h1',h1]
  ·have h1':¬(((m &&& s:Nat)):Int)=0:=by omega
   simp only[BH,go_sem,h0',h0,hh,e,h1',h1]
theorem z44 (D:List Nat)(s:Nat)(hD:∀ m∈D,m<18446744073709551616)(hs:s<18446744073709551616)(hl:D.length≤1000000):eA X GF [.p (.sl none (D.map eU)),.p (eU s)] h K=K (AB (kB D s)) h []:=by
 refine tA ?_;rw[z7r rfl];have C:=fun(K:jA)=>z5J (h:=h++[.box [.p (eU s)]]) (K:=K) (g:=HH) (caps:=[.ref h.length 0]) (p:=fun v=>match v with | .int _ m=>!(decide (m.toNat=0)||decide (m.toNat &&& s≠0))|_=>false) (xs:=D.map eU) (fun v hv K=>by
  obtain⟨m,hm,rfl⟩:=List.mem_map.1 hv;exact zhl m s (hD m hm) hs (by simp)) (fun x hx=>by obtain⟨n,_,rfl⟩:=List.mem_map.1 hx;rfl) (by simp;omega)
 have e:(D.map eU).any (fun v=>match v with | .int _ m=>!(decide (m.toNat=0)||decide (m.toNat &&& s≠0))|_=>false) = !kB D s:=by
  unfold kB;rw[List.any_map,List.not_all_eq_any_not];rfl
 rw[e]at C;simp only[aN,go_sem,C,Bool.not_not]
end Go.Am
end
section
/- Needed vectors;the smallest choice is zO;what a test says of some vectors alone: in plain Lean. -/
set_option linter.all false
namespace Go.Am
def dC (D:List Nat):Nat:=D.foldl (fun a m=>if oA 64 m=1 then a ||| m else a) 0
theorem z3n (v:Nat):∀(D:List Nat) (a:Nat),(D.foldl (fun a m=>if oA 64 m=1 then a ||| m else a) a).testBit v=true↔a.testBit v=true∨∃m∈D,oA 64 m=1∧m.testBit v=true
 | [],a=>by simp
 | m::D,a=>by
  rw[List.foldl_cons,z3n v D];by_cases h:oA 64 m=1
  ·rw[if_pos h,Nat.testBit_or,Bool.or_eq_true]
   constructor
   ·rintro ((h1|h1)|⟨x,h1,h2⟩)
    ·exact .inl h1
    ·exact .inr ⟨m,by simp,h,h1⟩
    ·exact .inr ⟨x,by simp [h1],h2⟩
   ·rintro (h1|⟨x,h1,h2⟩)
    ·exact .inl (.inl h1)
    ·rcases List.mem_cons.1 h1 with e|e
     ·subst e;exact .inl (.inr h2.2)
     ·exact .inr ⟨x,e,h2⟩
  ·rw[if_neg h]
   constructor
   ·rintro (h1|⟨x,h1,h2⟩)
    ·exact .inl h1
    ·exact .inr ⟨x,by simp [h1],h2⟩
   ·rintro (h1|⟨x,h1,h2⟩)
    ·exact .inl h1
    ·rcases List.mem_cons.1 h1 with e|e
     ·subst e;exact absurd h2.1 h
     ·exact .inr ⟨x,e,h2⟩
theorem zfJ (D:List Nat)(v:Nat):(dC D).testBit v=true↔∃m∈D,oA 64 m=1∧m.testBit v=true:=by
 unfold dC;rw[z3n,Nat.zero_testBit];simp
theorem z2n {lg:Nat}:∀(D:List Nat) (a:Nat),a<2^lg→(∀m∈D,m<2^lg)→D.foldl (fun a m=>if oA 64 m=1 then a ||| m else a) a<2^lg
 | [],a,ha,_=>ha
 | m::D,a,ha,h=>by
  rw[List.foldl_cons];refine z2n D _ ?_ fun x hx=>h x (by simp [hx])
  split
  ·exact Nat.or_lt_two_pow ha (h m (by simp))
  ·exact ha
theorem z3o {D:List Nat}{lg:Nat}(h:∀ m∈D,m<2^lg):dC D<2^lg:=z2n D 0 (Nat.two_pow_pos lg) h
def oD (lg:Nat)(D:List Nat):List Nat:=D.flatMap fun m=>if(kA lg m).length=1 then kA lg m else []
theorem z3m {lg:Nat}(hl:lg≤64){D:List Nat}(hD:∀ m∈D,m<2^lg)(v:Nat):v∈oD lg D↔v∈kA lg (dC D):=by
 unfold oD;rw[List.mem_flatMap,gF,zfJ];constructor
 ·rintro⟨m,hm,hv⟩
  split at hv
  ·rename_i h1
   rw[fE,←MQ hl (hD m hm)]at h1;have:=gF.1 hv;exact⟨this.1,m,hm,h1,this.2⟩
  ·cases hv
 ·rintro⟨h0,m,hm,h1,h2⟩
  refine⟨m,hm,?_⟩;rw[if_pos (by rw[fE,←MQ hl (hD m hm)];exact h1)]
  exact gF.2 ⟨h0,h2⟩
theorem z8B (lg d:Nat):(kA lg d).Pairwise (· < ·):=by
 unfold kA;exact List.Pairwise.filter _ List.pairwise_lt_range
def ZA (L:List Nat)(s:List UInt8):List UInt8:=L.map fun v=>s.getD v 48
theorem XY (L:List Nat)(s:List UInt8):(ZA L s).length=L.length:=List.length_map ..
end Go.Am
end
section
/- Needed vectors,reduced tests: the program. -/
open Go
set_option linter.all false
namespace Go.Am
variable {h:aA} {K:jA}
theorem zfL (D:List Nat)(k:Nat)(hk:k<D.length):dC (D.take (k+1))=if oA 64 D[k]=1 then dC (D.take k) ||| D[k] else dC (D.take k):=by
 unfold dC;rw[List.take_succ_eq_append_getElem hk,List.foldl_append,List.foldl_cons,List.foldl_nil]
theorem FM {t:List (List UInt8)}{l:List Flt}(h:yB t l=0):RC t=0∧∀f∈l,NB t.length f=0:=by
 have hT:RC t=0:=by unfold yB at h;split at h <;> simp_all
 refine⟨hT,?_⟩;unfold yB at h;rw[if_neg (by simp [hT])]at h
 exact OW h
theorem eF {d lg:Nat}(hl:lg≤64)(h:d<2^lg):d<18446744073709551616:=Nat.lt_of_lt_of_le h (le64 hl)
theorem lT {N i:Nat}(hi:i≤64)(hN:N<18446744073709551616):MC .u64 (N:Int) (i:Int)=((N / 2^i:Nat):Int)∧uC .u64 ((N / 2^i:Nat):Int) 1=if N.testBit i=true then 1 else 0:=by
 refine⟨NF hi,?_⟩;have h1:N / 2^i<18446744073709551616:=Nat.lt_of_le_of_lt (Nat.div_le_self _ _) hN
 have h2:=aE (a:=N / 2^i) (b:=1) h1 (by omega)
 rw[jT]at h2;refine h2.trans ?_;split <;> rfl
theorem zgT (t:List (List UInt8))(l:List Flt)(hb:∀ s∈t,s.length≤1000000)(ht:t.length≤1000000)(hf:∀ f∈l,f.nets.length≤1000000)(hn:l.length≤20000) :
 eA X CG [EA t,MB l] h K=K (if yB t l≠0 then .tup [.p (.sl none []),AI (yB t l)] else .tup [AL (iL (kA (t.headD []).length (dC (LA t l)))),AI 0]) h []:=by
 refine tA ?_;rw[z7m rfl];have c:=fun h K=>sZ (h:=h) (K:=K) t l hb ht hf hn
 by_cases h1:yB t l=0
 case neg=>simp only[lK,go_sem,c,h1]
 obtain⟨hT,hF⟩:=FM h1;have T:=qM hT
 obtain⟨lg,hlg⟩:∃n,(t.headD []).length=n:=⟨_,rfl⟩;rw[hlg]at T ⊢;have hl:=T.l
 have hz:=MF T.n0
 have M:=fun h K=>tZ (h:=h) (K:=K) t l lg T hlg hF hn
 have hD:=lI (l:=l) T hlg
 have hDl:(LA t l).length=l.length:=by unfold LA;rw[List.length_map]
 have hN:=z3o hD
 simp only[lK,go_sem,c,h1,M];generalize LA t l=D at *;refine FA (fun k:Nat=>⟨[(0,EA t),(7,.p (eU (dC (D.take k)))),(20,.p (.sl none (D.map eU))),(21,AI D.length),(22,AI k)],h,[]⟩) (fun k=>k≤D.length) (fun k=>D.length-k) 0 (by simp [dC]) (by omega) ?_
 intro k hk;have w2:IntKind.i64.wrap ((k:Int)+1)=((k+1:Nat):Int):=qA _ (by omega) (by omega)
 rcases Nat.lt_or_ge k D.length with hlt|hge
 ·have hlt':(k:Int)<(D.length:Int):=by omega
  have hg:=PA eU hlt
  have hm:=hD _ (List.getElem_mem hlt)
  have et:=zfL D k hlt
  have hNk:=z3o (D:=D.take k) (lg:=lg) fun m hm=>hD m (List.mem_of_mem_take hm)
  generalize D[k]=m at *;generalize dC (D.take k)=N at *;have O:=fun h K=>qZ (h:=h) (K:=K) m (eF hl hm)
  have e1:=sO (eF hl hNk) (eF hl hm)
  by_cases hp:oA 64 m=1
  ·have hp':((oA 64 m:Nat):Int)=1:=by omega
   rw[if_pos hp]at et;simp only[go_sem,hlt',hlt,hg,O,eq_true hp',e1,w2];exact⟨k+1,by rw[et],by omega,by omega⟩
  ·have hp':¬((oA 64 m:Nat):Int)=1:=by omega
   rw[if_neg hp]at et;simp only[go_sem,hlt',hlt,hg,O,hp',w2];exact⟨k+1,by rw[et],by omega,by omega⟩
 ·have ek:k=D.length:=by omega
  have hlt':¬(k:Int)<(D.length:Int):=by omega
  have et:D.take k=D:=List.take_of_length_le (by omega)
  rw[et];generalize dC D=N at *;have hN64:=eF hl hN
  simp only[go_sem,hlt',hz,hlg];refine FA (fun i:Nat=>⟨[(7,.p (eU N)),(10,.own h.length (kA i N).length 0 (kA i N).length),(36,AI lg),(37,AI i)],h++[.row none ((iL (kA i N)).map eI) 0],[]⟩) (fun i=>i≤lg) (fun i=>lg-i) 0 rfl (by omega) ?_
  intro i hi;rw[wD];have w3:IntKind.i64.wrap ((i:Int)+1)=((i+1:Nat):Int):=qA _ (by omega) (by omega)
  have hcl:(kA i N).length≤i:=Nat.le_trans (List.length_filter_le _ _) (by simp)
  have hsc:=ZJ i N
  rcases Nat.lt_or_ge i lg with ilt|ige
  ·have ilt':(i:Int)<(lg:Int):=by omega
   obtain⟨f1,f2⟩:=lT (N:=N) (i:=i) (by omega) hN64
   generalize kA i N=C at *;have cml:((iL C).map eI).length=C.length:=by unfold iL;rw[List.length_map,List.length_map]
   have ms:C.length+1≤DA:=by unfold DA;omega
   cases hb:N.testBit i with
   | true=>
    rw[hb,if_pos rfl]at hsc f2;simp only[go_sem,ilt',f1,f2,cml,ms,w3,splice];refine⟨i+1,?_,by omega,by omega⟩
    rw[hsc];simp [iL]
   | false=>
    rw[hb,if_neg (by simp),List.append_nil]at hsc
    rw[hb,if_neg (by simp)]at f2
    simp only[go_sem,ilt',f1,f2,w3];exact⟨i+1,by rw[hsc],by omega,by omega⟩
  ·have ei:i=lg:=by omega
   have ilt':¬(i:Int)<(lg:Int):=by omega
   subst ei;have cml:((iL (kA i N)).map eI).length=(kA i N).length:=by unfold iL;rw[List.length_map,List.length_map]
   have wf:win ((iL (kA i N)).map eI) 0 (kA i N).length=(iL (kA i N)).map eI:=EB cml
   simp only[go_sem,ilt',cml,wf]
theorem zdW {s v:Nat}(hs:s<18446744073709551616)(hv:v<64):TG .u64 (s:Int) ((2^v:Nat):Int)=((PB s v:Nat):Int):=by
 have hp:2^v<18446744073709551616:=by rw[←WB];exact Nat.pow_lt_pow_right (by omega) hv
 show IntKind.u64.wrap ((BitVec.ofInt 64 (s:Int) &&& ~~~ BitVec.ofInt 64 ((2^v:Nat):Int)).toNat:Int)=_
 rw[bvN,bvN,BitVec.toNat_and,BitVec.toNat_not,BitVec.toNat_ofNat,BitVec.toNat_ofNat,Nat.mod_eq_of_lt (by rw[WB];exact hs),Nat.mod_eq_of_lt (by rw[WB];exact hp)]
 exact iG _ (Nat.lt_of_le_of_lt (QO s v) hs)
def YF (t:List (List UInt8))(D:List Nat)(lg:Nat):List (List UInt8):=t.map (ZA (kA lg (rB D lg lg)))
theorem z35 (C:List Nat)(i:Nat)(s:List UInt8)(hi:i<s.length):ZA (C++[i]) s=ZA C s++[s[i]]:=by
 unfold ZA;rw[List.map_append,List.map_cons,List.map_nil,List.getD_eq_getElem?_getD,List.getElem?_eq_getElem hi];rfl
set_option maxHeartbeats 1000000 in
theorem zgW (t:List (List UInt8))(l:List Flt)(hb:∀ s∈t,s.length≤1000000)(ht:t.length≤1000000)(hf:∀ f∈l,f.nets.length≤1000000)(hn:l.length≤20000) :
 eA X DG [EA t,MB l] h K=K (if yB t l≠0 then .tup [.p (.sl none []),AI (yB t l)] else .tup [EA (YF t (LA t l) (t.headD []).length),AI 0]) h []:=by
 refine tA ?_;rw[z7n rfl];have c:=fun h K=>sZ (h:=h) (K:=K) t l hb ht hf hn
 by_cases h1:yB t l=0
 case neg=>simp only[mK,go_sem,c,h1]
 obtain⟨hT,hF⟩:=FM h1;have T:=qM hT
 obtain⟨lg,hlg⟩:∃n,(t.headD []).length=n:=⟨_,rfl⟩;rw[hlg]at T ⊢;have hl:=T.l
 have hz:=MF T.n0
 have M:=fun h K=>tZ (h:=h) (K:=K) t l lg T hlg hF hn
 have W:=fun h K=>cR (h:=h) (K:=K) lg hl
 have hD:=lI (l:=l) T hlg
 have hDl:(LA t l).length=l.length:=by unfold LA;rw[List.length_map]
 generalize LA t l=D at *;have w0:IntKind.i64.wrap ((lg:Int)-1)=(lg:Int)-1:=qA _ (by omega) (by omega)
 have h2:=Nat.two_pow_pos lg
 simp only[mK,go_sem,c,h1,M,hz,hlg,W,w0];unfold YF;refine FA (fun k:Nat=>⟨[(0,EA t),(7,.p (.sl none (D.map eU))),(8,.p (eU (rB D lg k))),(9,AI ((lg:Int)-1-k))],h,[]⟩) (fun k=>k≤lg) (fun k=>lg-k) 0 (by simp [rB]) (by omega) ?_
 intro k hk;have hrk:=eZ D lg k
 have w2:IntKind.i64.wrap ((lg:Int)-1-k-1)=(lg:Int)-1-((k+1:Nat):Int):=by rw[qA _ (by omega) (by omega)];omega
 rcases Nat.lt_or_ge k lg with hlt|hge
 ·have hge':(0:Int)≤(lg:Int)-1-k:=by omega
  obtain⟨i,hi⟩:∃i:Nat,(lg:Int)-1-k=i:=⟨lg-1-k,by omega⟩
  have hi2:lg-1-k=i:=by omega
  have et:rB D lg (k+1)=if kB D (PB (rB D lg k) i) then PB (rB D lg k) i else rB D lg k:=by rw[rB,hi2]
  rw[hi]at hge' w2 ⊢;have s1:uE .u64 1 (i:Int)=((2^i:Nat):Int):=by
   have:=YW (a:=1) (i:=i) (by omega) (by rw[Nat.one_mul,←WB];exact Nat.pow_lt_pow_right (by omega) (by omega))
   rw[Nat.one_mul]at this;exact this
  generalize rB D lg k=s at *;have hs64:s<18446744073709551616:=eF hl (by omega)
  have s2:=zdW (s:=s) (v:=i) hs64 (by omega)
  have ol:=QO s i
  have E:=fun h K=>z44 (h:=h) (K:=K) D (PB s i) (fun m hm=>eF hl (hD m hm)) (by omega) (by omega)
  cases hcv:kB D (PB s i) with
  | true=>
   rw[hcv,if_pos rfl]at et;rw[hcv]at E;simp only[go_sem,hge',s1,s2,E,w2];exact⟨k+1,by rw[et],by omega,by omega⟩
  | false=>
   rw[hcv,if_neg (by simp)]at et
   rw[hcv]at E;simp only[go_sem,hge',s1,s2,E,w2];exact⟨k+1,by rw[et],by omega,by omega⟩
 ·have ek:k=lg:=by omega
  subst ek;have hge':¬(0:Int)≤(k:Int)-1-k:=by omega
  generalize rB D k k=s at *;have hs64:s<18446744073709551616:=eF hl (by omega)
  simp only[go_sem,hge'];refine FA (fun j:Nat=>⟨[(8,.p (eU s)),(11,.own h.length j 0 j),(47,EA t),(48,AI t.length),(49,AI j)],h++[.row none (((t.take j).map (ZA (kA k s))).map PV.str) 0],[]⟩) (fun j=>j≤t.length) (fun j=>t.length-j) 0 rfl (by omega) ?_
  intro j hj;rw[wD];have jml:(((t.take j).map (ZA (kA k s))).map PV.str).length=j:=by rw[List.length_map,List.length_map,List.length_take];omega
  have w4:IntKind.i64.wrap ((j:Int)+1)=((j+1:Nat):Int):=qA _ (by omega) (by omega)
  rcases Nat.lt_or_ge j t.length with jlt|jge
  ·have jlt':(j:Int)<(t.length:Int):=by omega
   have hg:=PA PV.str jlt
   have hsl:=T.e _ (List.getElem_mem jlt)
   have et:(t.take (j+1)).map (ZA (kA k s))=(t.take j).map (ZA (kA k s))++[ZA (kA k s) t[j]]:=by rw[List.take_succ_eq_append_getElem jlt,List.map_append];rfl
   generalize t[j]=r at *;generalize (t.take j).map (ZA (kA k s))=R at *;simp only[go_sem,jlt',jlt,hg,hsl];refine FA (fun i:Nat=>⟨[(8,.p (eU s)),(11,.own h.length j 0 j),(13,AS r),(14,.own (h.length+1) (kA i s).length 0 (kA i s).length),(47,EA t),(48,AI t.length),(49,AI j),(54,AI k),(55,AI i)],h++[.row none (R.map PV.str) 0,.row none (JA (ZA (kA i s) r)) 0],[]⟩) (fun i=>i≤k) (fun i=>k-i) 0 rfl (by omega) ?_
   intro i hi;rw[wD];have w3:IntKind.i64.wrap ((i:Int)+1)=((i+1:Nat):Int):=qA _ (by omega) (by omega)
   have hcl:(kA i s).length≤i:=Nat.le_trans (List.length_filter_le _ _) (by simp)
   have hsc:=ZJ i s
   rcases Nat.lt_or_ge i k with ilt|ige
   ·have ilt':(i:Int)<(k:Int):=by omega
    obtain⟨f1,f2⟩:=lT (N:=s) (i:=i) (by omega) hs64
    have gc:r[i]?=some r[i]:=List.getElem?_eq_getElem (by omega)
    have ps:=z35 (kA i s) i r (by omega)
    generalize kA i s=C at *;have cml:(JA (ZA C r)).length=C.length:=by unfold JA;rw[List.length_map,XY]
    have ms:C.length+1≤DA:=by unfold DA;omega
    cases hb:s.testBit i with
    | true=>
     rw[hb,if_pos rfl]at hsc f2;simp only[go_sem,ilt',f1,f2,gc,cml,ms,w3,splice];refine⟨i+1,?_,by omega,by omega⟩
     rw[hsc,ps];simp [JA]
    | false=>
     rw[hb,if_neg (by simp),List.append_nil]at hsc
     rw[hb,if_neg (by simp)]at f2
     simp only[go_sem,ilt',f1,f2,w3];exact⟨i+1,by rw[hsc],by omega,by omega⟩
   ·have ei:i=k:=by omega
    have ilt':¬(i:Int)<(k:Int):=by omega
    subst ei;have cml:(JA (ZA (kA i s) r)).length=(kA i s).length:=by unfold JA;rw[List.length_map,XY]
    have wf:win (JA (ZA (kA i s) r)) 0 (kA i s).length=JA (ZA (kA i s) r):=EB cml
    have tb:=rM (ZA (kA i s) r)
    have ms:j+1≤DA:=by unfold DA;have:=T.n1;omega
    simp only[go_sem,ilt',cml,wf,rd,rds,tb,UC,ms,jml,w4,splice];refine⟨j+1,?_,by omega,by omega⟩
    rw[et];simp
  ·have ej:j=t.length:=by omega
   have jlt':¬(j:Int)<(t.length:Int):=by omega
   have et:t.take j=t:=List.take_of_length_le (by omega)
   rw[et]at jml ⊢;have wf:win ((t.map (ZA (kA k s))).map PV.str) 0 j=(t.map (ZA (kA k s))).map PV.str:=EB jml
   simp only[go_sem,jlt',jml,wf]
end Go.Am
end
section
/- The smallest choice of vectors: the program. -/
open Go
set_option linter.all false
set_option maxRecDepth 100000
namespace Go.Am
variable {h:aA} {K:jA}
attribute [-go_sem] PV.cells
theorem z47 (a:Nat):eA X FH [.p (eU a)] h K=K (AB false) h []:=by
 refine tA ?_;rw[z7i rfl];simp only[XM,go_sem]
def ltU (x y:PV):Bool:=decide (unI x<unI y)
theorem zgS (a b:Nat):eA X EF [.p (eU a),.p (eU b)] h K=K (AB (ltU (eU a) (eU b))) h []:=by
 refine tA ?_;rw[z7h rfl];have n1:=fun h K=>z47 (h:=h) (K:=K) a
 have n2:=fun h K=>z47 (h:=h) (K:=K) b
 have e:ltU (eU a) (eU b)=decide ((a:Int)<(b:Int)):=rfl
 rw[e];simp only[WM,go_sem,n1,n2];first|done|simp
theorem zhf (xs:List PV):eA X rL [.p (.sl none xs)] h K=K (.fn ZH [.ref h.length 0]) (h++[.box [.p (.sl none xs)]]) []:=by
 refine tA ?_;rw[z8y rfl];simp only[aO,go_sem];rw[Nat.max_eq_right (by omega)]
 exact⟨by omega,List.take_of_length_le (by simp)⟩
theorem zgL (xs:List PV){q:Nat}(hq:h[q]?=some (.box [.p (.sl none xs)]))(h1:xs.all iI=true)(h2:xs.length≤1000000) :
 eA X nO [.fn ZH [.ref q 0]] h K=K (.own h.length xs.length 0 xs.length) (h++[.row none xs 0]) []:=by
 refine gX (X:=X) (by kernel_rfl) ?_
 show jI CRL [] GRL PRL nO [.fn ZH [.ref q 0]] h=_
 exact zf2 (by kernel_rfl) hq h1 h2
theorem zhc (D:List Nat)(hl:D.length≤12){q:Nat}(hq:h[q]?=some (.box [.p (.sl none (D.map eU))])) :
 eA X qL [.fn ZH [.ref q 0]] h K=K (.own h.length D.length 0 D.length) (h++[.row none (XA ltU (D.map eU)) 0]) []:=by
 refine tA ?_;rw[z8x rfl];have C:=fun(K:jA)=>zgL (h:=h) (K:=K) (D.map eU) hq (by rw[List.all_map,List.all_eq_true];exact fun _ _=>rfl) (by simp;omega)
 have S:=fun(K:jA)=>z6g (h:=h++[.row none (D.map eU) 0]) (K:=K) h.length D.length (D.map eU) [] (by simp) (fun x hx=>by obtain⟨n,_,rfl⟩:=List.mem_map.1 hx;rfl) (by simpa using hl) (by simp) (lt:=ltU) (fun x hx y hy h K=>by
  obtain⟨n,_,rfl⟩:=List.mem_map.1 hx;obtain⟨m,_,rfl⟩:=List.mem_map.1 hy;exact zgS n m)
 rw[List.length_map]at C;simp only[List.append_nil,List.length_map]at S;simp only[ZN,go_sem,C,S];have e2:∀o o':Obj,(h++[o]).set h.length o'=h++[o']:=fun o o'=>by simp
 have e3:∀o:Obj,(h++[o]).take (max h.length (h.length+1))=h++[o]:=fun o=>List.take_of_length_le (by simp)
 first|rw[e3]|skip
theorem z8M (D:List Nat):∃E:List Nat,OA (fun x y=>decide (unI x=unI y)) (XA ltU (D.map eU))=E.map eU∧(∀m,m∈E↔m∈D)∧E.length≤D.length:=by
 obtain⟨S,hS⟩:∃S:List Nat,XA ltU (D.map eU)=S.map eU:=by
  have:∀l:List PV,(∀x∈l,∃n:Nat,x=eU n)→∃S:List Nat,l=S.map eU:=by
   intro l;induction l with
   | nil=>intro _;exact⟨[],rfl⟩
   | cons x r ih=>
    intro hx;obtain⟨n,rfl⟩:=hx x (by simp)
    obtain⟨S,rfl⟩:=ih fun y hy=>hx y (by simp [hy])
    exact⟨n::S,rfl⟩
  refine this _ fun x hx=>?_
  obtain⟨n,_,rfl⟩:=List.mem_map.1 (vE.1 hx);exact⟨n,rfl⟩
 have hm:∀m,m∈S↔m∈D:=fun m=>by
  have h1:eU m∈XA ltU (D.map eU)↔eU m∈D.map eU:=vE
  have key:∀L:List Nat,eU m∈L.map eU↔m∈L:=fun L=>by
   rw[List.mem_map];constructor
   ·rintro⟨n,hn,e⟩
    have:(n:Int)=m:=by injection e
    have:n=m:=by omega
    subst this;exact hn
   ·intro h;exact⟨m,h,rfl⟩
  rw[hS,key,key]at h1;exact h1
 have hl:S.length=D.length:=by
  have:=congrArg List.length hS;rw[JL]at this;simpa using this.symm
 rw[hS];refine⟨OA (fun a b=>decide (a=b)) S,z1r eU (fun a b=>?_) S,fun m=>?_,?_⟩
 ·show decide ((a:Int)=(b:Int))=decide (a=b)
  rw[Bool.eq_iff_iff,decide_eq_true_eq,decide_eq_true_eq];omega
 ·rw[←hm]
  exact⟨z1s,fun h=>z1t (fun a b e=>by simpa using e) h⟩
 ·rw[←hl];exact z1q _ _
theorem zhm (E:List Nat)(z:List PV)(s:Nat)(hD:∀ m∈E,m<18446744073709551616)(hs:s<18446744073709551616)(hl:E.length≤1000000){id n fz:Nat}(hn:(E.map eU++z).length=n)(hh:h[id]?=some (.row none (E.map eU++z) fz)) :
 eA X GF [.own id n 0 E.length,.p (eU s)] h K=K (AB (kB E s)) (frz h id E.length) []:=by
 subst hn;have e:=pG (X:=X) (f:=GF) (F:=xM) (a:=[.own id (E.map eU++z).length 0 E.length,.p (eU s)]) (vs:=[.sl none (E.map eU),eU s]) (h:=h) (h1:=frz h id E.length) (P:=K) z5t rfl
  (by
   have h1:win (E.map eU++z) 0 E.length=E.map eU:=by unfold win;simp
   have h2:0+E.length≤(E.map eU++z).length:=by simp
   simp [mA,pur,rd,hh,h1]) rfl rfl sE
 rw[e];exact z44 E s hD hs hl
theorem z4R (D:List Nat)(lg:Nat):∀s,lB D lg s=2^lg-1∨lB D lg s<s
 | 0=>.inl rfl
 | s+1=>by
  rw[lB];have:=z4R D lg s;split
  ·omega
  ·split
   ·exact .inr (by omega)
   ·omega
theorem zfM {d:Nat}(h0:d≠0)(hd:d<18446744073709551616):IntKind.u64.wrap (-(d:Int))=((18446744073709551616-d:Nat):Int):=by
 simp [IntKind.wrap,IntKind.bits,IntKind.signed];omega
end Go.Am
end
section
/- Units counted: bins,tests,recovered units,sites;both ways yield the same. Plain lists. -/
set_option linter.all false
namespace Go.Am
end Go.Am
end
section
/- Needed vectors,sets of vectors that are enough: the reference. -/
open Go
set_option linter.all false
set_option maxRecDepth 100000
namespace Go.Am
variable {h:aA} {K:jA}
theorem ordZ:Ordr (fun a b:Int=>a-b):=⟨fun a b=>by omega,fun a b d h1 h2=>by omega⟩
theorem zhG (us:List Int):mH (fun a b:Int=>a-b) (OA (fun a b=>decide (a=b)) (XA ltI us)):=by
 have e:ltI=ltO (fun a b:Int=>a-b):=by
  funext a b
  unfold ltI ltO;rw[Bool.eq_iff_iff,decide_eq_true_eq,decide_eq_true_eq];show a<b↔a-b<0
  omega
 rw[e];have hq:∀x y:Int,(fun a b=>decide (a=b)) x y=true↔x=y:=fun x y=>by simp
 refine z6o ordZ ?_ fun i h=>?_
 ·refine(List.Pairwise.sublist (z8O _ _) (zep ordZ.weak _)).imp fun {x y} h=>?_
  simp only[ltO,decide_eq_false_iff_not]at h;show x-y≤0
  omega
 ·intro hc
  exact z8N hq _ i h (by have:(OA (fun a b=>decide (a=b)) (XA (ltO fun a b:Int=>a-b) us))[i+1]-(OA (fun a b=>decide (a=b)) (XA (ltO fun a b:Int=>a-b) us))[i]=0:=hc;omega)
theorem zfK {lg:Nat}(hl:lg≤64){D:List Nat}(hD:∀ m∈D,m<2^lg):OA (fun a b=>decide (a=b)) (XA ltI (iL (oD lg D)))=iL (kA lg (dC D)):=by
 refine z4X ordZ (zhG _) ?_ fun x=>?_
 ·unfold iL mH
  rw[List.pairwise_map];exact(z8B lg _).imp fun {a b} h=>by show(a:Int)-(b:Int)<0;omega
 ·constructor
  ·intro h
   have h1:=vE.1 (z1s h)
   unfold iL at h1 ⊢;obtain⟨n,hn,rfl⟩:=List.mem_map.1 h1;exact List.mem_map.2 ⟨n,(z3m hl hD n).1 hn,rfl⟩
  ·intro h
   refine z1t (fun a b e=>by simpa using e) (vE.2 ?_)
   unfold iL at h ⊢;obtain⟨n,hn,rfl⟩:=List.mem_map.1 h;exact List.mem_map.2 ⟨n,(z3m hl hD n).2 hn,rfl⟩
theorem z0W (t:List (List UInt8))(f:Flt)(lg:Nat):oT t f lg=iL (kA lg (mD t f)):=rfl
theorem zfI (lg:Nat)(D:List Nat)(k:Nat)(hk:k<D.length):oD lg (D.take (k+1))=oD lg (D.take k)++if(kA lg D[k]).length=1 then kA lg D[k] else []:=by
 unfold oD;rw[List.take_succ_eq_append_getElem hk,List.flatMap_append,List.flatMap_cons,List.flatMap_nil,List.append_nil]
theorem z3l (lg:Nat):∀D:List Nat,(oD lg D).length≤D.length
 | []=>Nat.le_refl _
 | m::D=>by
  have ih:=z3l lg D
  unfold oD at *;rw[List.flatMap_cons,List.length_append,List.length_cons];split <;> simp_all <;> omega
set_option maxHeartbeats 1000000 in
theorem zgU (t:List (List UInt8))(l:List Flt)(lg:Nat)(T:TestOk t lg)(hlg:(t.headD []).length=lg)(hf:∀ f∈l,NB t.length f=0)(hn:l.length≤12) :
 eA X PH [EA t,MB l] h K=K (AL (iL (kA lg (dC (LA t l))))) h []:=by
 refine tA ?_;rw[z7R rfl];have hD:=lI (l:=l) T hlg
 have hDl:(LA t l).length=l.length:=by unfold LA;rw[List.length_map]
 rw[←zfK T.l hD];simp only[AN,go_sem];refine FA (fun k:Nat=>⟨[(0,EA t),(5,.own h.length (oD lg ((LA t l).take k)).length 0 (oD lg ((LA t l).take k)).length),(9,MB l),(10,AI l.length),(11,AI k)],h++[.row none ((iL (oD lg ((LA t l).take k))).map eI) 0],[]⟩) (fun k=>k≤l.length) (fun k=>l.length-k) 0 rfl (by omega) ?_
 intro k hk;rw[wD];have w2:IntKind.i64.wrap ((k:Int)+1)=((k+1:Nat):Int):=qA _ (by omega) (by omega)
 have hql:=z3l lg ((LA t l).take k)
 rw[List.length_take]at hql;rcases Nat.lt_or_ge k l.length with hlt|hge
 ·have hlt':(k:Int)<(l.length:Int):=by omega
  have hg:=PA Flt.pv hlt
  have cx:=dI (f:=l[k])
  have C:=fun h K=>z42 (h:=h) (K:=K) t l[k] lg T hlg (hf _ (List.getElem_mem hlt))
  rw[z0W]at C;have et:=zfI lg (LA t l) k (by omega)
  have em:(LA t l)[k]'(by omega)=mD t l[k]:=by unfold LA;rw[List.getElem_map]
  rw[em]at et;generalize oD lg ((LA t l).take k)=Q at *;have qml:((iL Q).map eI).length=Q.length:=by unfold iL;rw[List.length_map,List.length_map]
  have ms:Q.length+1≤DA:=by unfold DA;omega
  generalize l[k]=f at *;generalize kA lg (mD t f)=c at *;have cl:((iL c).map eI).length=c.length:=by unfold iL;rw[List.length_map,List.length_map]
  simp only[Flt.pv]at C hg cx;by_cases h1:c.length=1
  ·obtain⟨v,rfl⟩:=List.length_eq_one_iff.1 h1
   rw[if_pos h1]at et;have g0:((iL [v]).map eI)[0]?=some (eI (v:Int)):=rfl
   have l1:(iL [v]).length=1:=rfl
   simp only[go_sem,hlt',hlt,hg,cx,splice,C,l1,g0,qml,ms,w2];refine⟨k+1,?_,by omega,by omega⟩
   rw[et];simp [iL]
  ·rw[if_neg h1,List.append_nil]at et
   have l1:¬(((iL c).length:Nat):Int)=1:=by unfold iL;rw[List.length_map];omega
   simp only[go_sem,hlt',hlt,hg,cx,splice,C,l1,w2];exact⟨k+1,by rw[et],by omega,by omega⟩
 ·have ek:k=l.length:=by omega
  have hlt':¬(k:Int)<(l.length:Int):=by omega
  have et:(LA t l).take k=LA t l:=List.take_of_length_le (by omega)
  rw[et]at hql ⊢;generalize oD lg (LA t l)=Q at *;have qml:((iL Q).map eI).length=Q.length:=by unfold iL;rw[List.length_map,List.length_map]
  have S:=fun(K:jA)=>z6f (h:=h++[.row none ((iL Q).map eI) 0]) (K:=K) h.length Q.length ((iL Q).map eI) [] (by simp [qml]) iH (by omega) (by simp) (lt:=ltP) z2X
  have es:XA ltP ((iL Q).map eI)=(XA ltI (iL Q)).map eI:=z2P eI (fun a b=>rfl) _
  simp only[List.append_nil,qml,es]at S;have sl:((XA ltI (iL Q)).map eI).length=Q.length:=by rw[List.length_map,JL];unfold iL;rw[List.length_map]
  have C:=fun(K:jA)=>z5G (h:=h++[.row none ((XA ltI (iL Q)).map eI) 0]) (K:=K) h.length ((XA ltI (iL Q)).map eI) iH (by omega) (by simp) (q:=fun x y=>decide (unI x=unI y)) (fun x hx y hy=>by
   obtain⟨n,_,rfl⟩:=List.mem_map.1 hx;obtain⟨m,_,rfl⟩:=List.mem_map.1 hy;rfl) (fun x hx y hy=>by
   obtain⟨n,_,rfl⟩:=List.mem_map.1 hx;obtain⟨m,_,rfl⟩:=List.mem_map.1 hy;rfl)
  have ec:OA (fun x y=>decide (unI x=unI y)) ((XA ltI (iL Q)).map eI)=(OA (fun a b=>decide (a=b)) (XA ltI (iL Q))).map eI:=z1r eI (fun a b=>rfl) _
  simp only[sl,ec]at C;have cl:=z1q (fun a b:Int=>decide (a=b)) (XA ltI (iL Q))
  generalize OA (fun a b=>decide (a=b)) (XA ltI (iL Q))=Z at *
  have st:∀(a o:Obj),(h++[a]).set h.length o=h++[o]:=fun a o=>by simp
  have wf:∀z:List PV,win (Z.map eI++z) 0 Z.length=Z.map eI:=fun z=>by unfold win;simp
  rw[JL]at cl;have il:(iL Q).length=Q.length:=by unfold iL;rw[List.length_map]
  have rl:(Q.length=Z.length+(List.replicate (Q.length-Z.length) (PV.int IntKind.i64 0)).length)=True:=eq_true (by rw[List.length_replicate];omega)
  simp only[go_sem,hlt',S,C,st,wf,rl]
end Go.Am
end
section
/- Sets of vectors that are enough,and what each fault's vectors are: the reference. -/
open Go
set_option linter.all false
set_option maxRecDepth 100000
namespace Go.Am
variable {h:aA} {K:jA}
abbrev slN (c:List Nat):PV:=.sl none ((iL c).map eI)
theorem ID (c:List Nat):((iL c).map eI).length=c.length:=by unfold iL;rw[List.length_map,List.length_map]
theorem zdP (w:List Nat)(v:Nat):(iL w).contains (v:Int)=w.contains v:=by
 unfold iL;rw[Bool.eq_iff_iff,List.contains_iff_mem,List.contains_iff_mem,List.mem_map];constructor
 ·rintro⟨n,hn,e⟩
  have:n=v:=by omega
  subst this;exact hn
 ·intro h;exact⟨v,h,rfl⟩
theorem zhh (w:List Nat)(v:Nat)(hw:w.length≤1000000){id:Nat}(hh:h[id]?=some (.box [AL (iL w)])):eA X VH [AI v,.ref id 0] h K=K (AB (w.contains v)) h []:=by
 refine tA ?_;rw[z8b rfl];have C:=fun h K=>bR (h:=h) (K:=K) (iL w) (v:Int) (by unfold iL;rw[List.length_map];exact hw)
 rw[zdP]at C;simp only[IN,go_sem,hh,C]
theorem zhg (c w:List Nat)(hc:c.length≤1000000)(hw:w.length≤1000000){id:Nat}(hh:h[id]?=some (.box [AL (iL w)])):eA X UH [.p (slN c),.ref id 0] h K=K (AB (decide (0<c.length) && !(c.any fun v=>w.contains v))) h []:=by
 refine tA ?_;rw[z8a rfl];have C:=fun(K:jA)=>z0d (h:=h) (K:=K) (g:=VH) (caps:=[.ref id 0]) (p:=fun x=>w.contains (unI x).toNat) (xs:=(iL c).map eI) (fun x hx K=>by
  unfold iL at hx;rw[List.map_map]at hx;obtain⟨v,_,rfl⟩:=List.mem_map.1 hx;exact zhh w v hw hh) iH (by rw[ID];omega)
 have e:((iL c).map eI).any (fun x=>w.contains (unI x).toNat)=c.any fun v=>w.contains v:=by
  unfold iL;rw[List.any_map,List.any_map];rfl
 rw[e]at C;have il:(iL c).length=c.length:=by unfold iL;rw[List.length_map]
 by_cases h0:0<c.length
 ·have h0':(0:Int)<(c.length:Int):=by omega
  simp only[xK,go_sem,il,h0',h0,C]
 ·have h0':¬(0:Int)<(c.length:Int):=by omega
  simp only[xK,go_sem,il,h0',h0]
theorem zhi (A:List (List Nat))(w:List Nat)(hA:∀ c∈A,c.length≤1000000)(hl:A.length≤1000000)(hw:w.length≤1000000):eA X IF [.p (.sl none (A.map slN)),AL (iL w)] h K=K (AB (iK A w)) h []:=by
 refine tA ?_;rw[z7Z rfl];have C:=fun(K:jA)=>z5I (h:=h++[.box [AL (iL w)]]) (K:=K) (g:=UH) (caps:=[.ref h.length 0]) (p:=fun x=>match x with | .sl _ xs=>decide (0<xs.length) && !(xs.any fun y=>w.contains (unI y).toNat)|_=>false) (xs:=A.map slN) (fun x hx K=>by
  obtain⟨c,hc,rfl⟩:=List.mem_map.1 hx;have:=zhg (h:=h++[.box [AL (iL w)]]) (K:=K) c w (hA c hc) hw (id:=h.length) (by simp)
  rw[this];congr 2
  show _=(decide (0<((iL c).map eI).length) && !(((iL c).map eI).any fun y=>w.contains (unI y).toNat))
  rw[ID];congr 2
  unfold iL;rw[List.any_map,List.any_map];rfl) (fun x hx=>by obtain⟨n,_,rfl⟩:=List.mem_map.1 hx;rfl) (by simp;omega)
 have e:(A.map slN).any (fun x=>match x with | .sl _ xs=>decide (0<xs.length) && !(xs.any fun y=>w.contains (unI y).toNat)|_=>false)=A.any fun c=>decide (0<c.length) && !(c.any fun v=>w.contains v):=by
  rw[List.any_map];congr 1
  funext c
  show(decide (0<((iL c).map eI).length) && !(((iL c).map eI).any fun y=>w.contains (unI y).toNat))=_
  rw[ID];congr 2
  unfold iL;rw[List.any_map,List.any_map];rfl
 rw[e]at C;unfold iK;simp only[HN,go_sem,C]
theorem z43 (A:List (List Nat))(w:List Nat)(z:List PV)(hA:∀ c∈A,c.length≤1000000)(hl:A.length≤1000000)(hw:w.length≤1000000){id n m fz:Nat}(hn:((iL w).map eI++z).length=n)(hm:w.length=m)(hh:h[id]?=some (.row none ((iL w).map eI++z) fz)) :
 eA X IF [.p (.sl none (A.map slN)),.own id n 0 m] h K=K (AB (iK A w)) (frz h id m) []:=by
 subst hn;subst hm;have e:=pG (X:=X) (f:=IF) (F:=zM) (a:=[.p (.sl none (A.map slN)),.own id ((iL w).map eI++z).length 0 w.length]) (vs:=[.sl none (A.map slN),.sl none ((iL w).map eI)]) (h:=h) (h1:=frz h id w.length) (P:=K) z5x rfl
  (by
   have h1:win ((iL w).map eI++z) 0 w.length=(iL w).map eI:=by unfold win iL;simp
   have h2:0+w.length≤((iL w).map eI++z).length:=by unfold iL;simp
   have h3:(iL w).length=w.length:=by unfold iL;simp
   simp [mA,pur,rd,hh,h1,h3]) rfl rfl sE
 rw[e];exact zhi A w hA hl hw
def xD (t:List (List UInt8))(l:List Flt)(lg:Nat):List (List Nat):=(LA t l).map (kA lg)
set_option maxHeartbeats 1000000 in
theorem z41 (t:List (List UInt8))(l:List Flt)(lg:Nat)(T:TestOk t lg)(hlg:(t.headD []).length=lg)(hf:∀ f∈l,NB t.length f=0)(hn:l.length≤1000000) :
 eA X SH [EA t,MB l] h K=K (.p (.sl none ((xD t l lg).map slN))) h []:=by
 refine tA ?_;rw[z7X rfl];simp only[FN,go_sem];refine FA (fun k:Nat=>⟨[(0,EA t),(5,.own h.length k 0 k),(8,MB l),(9,AI l.length),(10,AI k)],h++[.row none ((xD t (l.take k) lg).map slN) 0],[]⟩) (fun k=>k≤l.length) (fun k=>l.length-k) 0 rfl (by omega) ?_
 intro k hk;rw[wD];have w2:IntKind.i64.wrap ((k:Int)+1)=((k+1:Nat):Int):=qA _ (by omega) (by omega)
 have ml:((xD t (l.take k) lg).map slN).length=k:=by unfold xD LA;rw[List.length_map,List.length_map,List.length_map,List.length_take];omega
 rcases Nat.lt_or_ge k l.length with hlt|hge
 ·have hlt':(k:Int)<(l.length:Int):=by omega
  have hg:=PA Flt.pv hlt
  have cx:=dI (f:=l[k])
  have C:=fun h K=>z42 (h:=h) (K:=K) t l[k] lg T hlg (hf _ (List.getElem_mem hlt))
  rw[z0W]at C;have et:xD t (l.take (k+1)) lg=xD t (l.take k) lg++[kA lg (mD t l[k])]:=by unfold xD LA;rw[List.take_succ_eq_append_getElem hlt,List.map_append,List.map_append];rfl
  generalize xD t (l.take k) lg=Q at *;have ms:k+1≤DA:=by unfold DA;omega
  generalize l[k]=f at *;simp only[Flt.pv]at C hg cx;simp only[go_sem,hlt',hlt,hg,cx,splice,C,ml,ms,w2];exact⟨k+1,by rw[et,List.map_append];rfl,by omega,by omega⟩
 ·have ek:k=l.length:=by omega
  have hlt':¬(k:Int)<(l.length:Int):=by omega
  have et:l.take k=l:=List.take_of_length_le (by omega)
  rw[et]at ml ⊢;have wf:win ((xD t l lg).map slN) 0 k=(xD t l lg).map slN:=EB ml
  simp only[go_sem,hlt',ml,wf]
end Go.Am
end
section
/- Deleting values: printed by program. -/
open Go
set_option linter.unusedSimpArgs false
namespace Go.Am
attribute [-go_sem] PV.cells splice
variable {h:aA} {K:jA}
theorem z5L (id:Nat)(l:List PV)(hs:XB none l)(hl:l.length≤100000)(hh:h[id]?=some (.row none l 0)){g:Nat}{caps:List AV}{p:PV→Bool}(hp:z6i g caps p l id h) :
 eA X kL [.own id l.length 0 l.length,.fn g caps] h K=K (.own id l.length 0 (l.filter fun x=>!p x).length) (h.set id (.row none ((l.filter fun x=>!p x)++List.replicate (l.length-(l.filter fun x=>!p x).length) (PV.int .i64 0)) 0)) []:=by
 refine tA ?_;rw[z8p];have hid:=YD hh
 have hst:∀o,(h.set id o)[id]?=some o:=fun o=>QD hid
 have hi:=fun K=>z0f (h:=h) (K:=K) (zh7 hs hh) (fun x hx K=>by have:=hp (.row none l 0) x hx K;rwa [dD hh]at this) (by omega)
 simp only[TN,go_sem,hi];by_cases hf:l.findIdx p<l.length
 ·have e1:LC p l=(l.findIdx p:Int):=by simp [LC,hf]
  have e2:¬((l.findIdx p:Int) = -1):=by omega
  have w0:IntKind.i64.wrap ((l.findIdx p:Int)+1)=((l.findIdx p+1:Nat):Int):=qA _ (by omega) (by omega)
  simp only[go_sem,e1,e2,w0];have hF0:((l.take (l.findIdx p+1)).filter fun x=>!p x)=l.take (l.findIdx p):=by
   rw[List.take_succ_eq_append_getElem hf,List.filter_append];have q1:(l.take (l.findIdx p)).filter (fun x=>!p x)=l.take (l.findIdx p):=by
    rw[List.filter_eq_self];intro x hx;obtain⟨j,hj,rfl⟩:=List.mem_take_iff_getElem.1 hx;have:=List.not_of_lt_findIdx (show j<l.findIdx p by omega)
    simpa using this
   rw[q1];have:p l[l.findIdx p]=true:=List.findIdx_getElem (w:=hf)
   simp [this]
  refine FA (fun t:List PV×Nat×Nat=>⟨[(0,.own id l.length 0 l.length),(1,.fn g caps),(5,AI t.2.1),(6,AI t.2.2)],h.set id (.row none t.1 0),[]⟩)
   (fun t=>t.1.length=l.length∧XB none t.1∧t.2.1<t.2.2∧t.2.2≤l.length∧t.1.take t.2.1=((l.take t.2.2).filter fun x=>!p x)∧t.1.drop t.2.2=l.drop t.2.2) (fun t=>l.length-t.2.2)
   (l,l.findIdx p,l.findIdx p+1) (by rw[dD hh]) ⟨rfl,hs,by simp,hf,by rw[hF0],rfl⟩ ?_
  rintro⟨row,i,j⟩ ⟨r1,r2,r3,r4,r5,r6⟩
  dsimp only at r1 r2 r3 r4 r5 r6;have w1:IntKind.i64.wrap ((j:Int)+1)=((j+1:Nat):Int):=qA _ (by omega) (by omega)
  have w2:IntKind.i64.wrap ((i:Int)+1)=((i+1:Nat):Int):=qA _ (by omega) (by omega)
  rcases Nat.lt_or_ge j l.length with hlt|hge
  ·have g1:row[j]?=some l[j]:=by
    have:=congrArg (·[0]?) r6
    simp only[List.getElem?_drop,Nat.add_zero]at this;rw[this,List.getElem?_eq_getElem hlt]
   have hsj:=eD hs hlt
   have cx:=qC hsj
   have hil:i<l.length:=by omega
   have g2:row[i]?=some row[i]:=List.getElem?_eq_getElem (by omega)
   have hsi:=eD r2 (show i<row.length by omega)
   have t1:=fun xs h1=>oF hsj hsi id i 0 xs h1
   have lx:=nF hsj
   have sx:=mF hsj
   simp only[gA]at lx;have hpj:=fun o K=>hp o _ (List.getElem_mem hlt) K
   cases hpx:p l[j]with
   | true=>
    simp only[go_sem,hst,r1,hlt,g1,cx,hpj,hpx,w1];refine⟨(row,i,j+1),rfl,⟨r1,r2,by dsimp only;omega,by dsimp only;omega,?_,?_⟩,by dsimp only;omega⟩
    ·rw[List.take_succ_eq_append_getElem hlt,List.filter_append]
     simp [hpx,r5]
    ·rw[←List.drop_drop,r6,List.drop_drop]
   | false=>
    simp only[go_sem,hst,r1,hlt,hil,g1,g2,cx,hpj,hpx,w1,w2,lx,sx,t1];refine⟨(row.set i l[j],i+1,j+1),rfl,⟨by simpa using r1,fun x hx=>?_,by dsimp only;omega,by dsimp only;omega,?_,?_⟩,by dsimp only;omega⟩
    ·rcases List.mem_or_eq_of_mem_set hx with hx|rfl
     ·exact r2 x hx
     ·exact hsj
    ·dsimp only
     rw[List.take_succ_eq_append_getElem hlt,List.filter_append,←r5,List.take_succ_eq_append_getElem (by simp;omega)]
     simp [hpx,List.take_set_of_le]
    ·dsimp only
     rw[List.drop_set_of_lt (by omega),←List.drop_drop,r6,List.drop_drop]
  ·have ej:j=l.length:=by omega
   subst ej;rw[List.take_length]at r5;have hm:(l.filter fun x=>!p x).length=i:=by rw[←r5];simp;omega
   have hil:i≤l.length:=by omega
   have e3:l.length-i+i=l.length:=by omega
   have sp:splice row i (List.replicate (l.length-i) (PV.int .i64 0))=(l.filter fun x=>!p x)++List.replicate (l.length-i) (PV.int .i64 0):=by
    unfold splice;rw[r5,List.length_replicate,List.drop_of_length_le (by omega),List.append_nil]
   have rl:((l.filter fun x=>!p x)++List.replicate (l.length-i) (PV.int .i64 0)).length=l.length:=by simp only[List.length_append,hm,List.length_replicate];omega
   rw[hm];generalize (l.filter fun x=>!p x)++List.replicate (l.length-i) (PV.int .i64 0)=row' at *
   have hb:¬h.length≤id:=by omega
   have hb2:max h.length (id+1)=h.length:=by omega
   have hb3:id+1≤h.length:=hid
   simp only[go_sem,Nat.lt_irrefl,hst,r1,rl,hil,sp,show i+(l.length-i)=l.length by omega,hb,hb2,hb3]
 ·have e1:LC p l = -1:=by simp [LC,hf]
  have hF:(l.filter fun x=>!p x)=l:=by
   rw[List.filter_eq_self];intro x hx;cases hpx:p x with
   | false=>rfl
   | true=>exact absurd (List.findIdx_lt_length_of_exists ⟨x,hx,hpx⟩) hf
  have hb:¬h.length≤id:=by omega
  have hb2:max h.length (id+1)=h.length:=by omega
  have hb3:id+1≤h.length:=hid
  simp only[go_sem,e1,hF,Nat.sub_self,List.replicate_zero,List.append_nil,hb,hb2,hb3];rw[dD hh]
end Go.Am
end
section
/- Reduced tests: the reference. -/
open Go
set_option linter.all false
set_option maxRecDepth 100000
namespace Go.Am
variable {h:aA} {K:jA}
theorem zgV (n i:Int){id:Nat}(hh:h[id]?=some (.box [AI i])):eA X RH [AI n,.ref id 0] h K=K (AB (decide (n=i))) h []:=by
 refine tA ?_;rw[z7T rfl];simp only[CN,go_sem,hh]
theorem zgI (l:List Int)(z:List PV)(hl:l.length≤1000000){id n m fz:Nat}(hn:(l.map eI++z).length=n)(hm:l.length=m)(hh:h[id]?=some (.row none (l.map eI++z) fz)) :
 eA X JF [.own id n 0 m] h K=K (.own h.length m 0 m) (frz h id m++[.row none (l.map eI) 0]) []:=by
 subst hn;subst hm;have e:=pG (X:=X) (f:=JF) (F:=AM) (a:=[.own id (l.map eI++z).length 0 l.length]) (vs:=[.sl none (l.map eI)]) (h:=h) (h1:=frz h id l.length) (P:=K) z5y rfl
  (by
   have h1:win (l.map eI++z) 0 l.length=l.map eI:=by unfold win;simp
   have h2:0+l.length≤(l.map eI++z).length:=by simp
   simp [mA,pur,rd,hh,h1]) rfl rfl sE
 rw[e];have:=z4p (h:=frz h id l.length) (K:=K) (l.map eI) (by simpa using hl)
 rw[List.length_map,sE]at this;exact this
theorem zd6 (C:List Nat)(i:Nat):((iL C).map eI).filter (fun x=>!decide (unI x=(i:Int)))=(iL (C.filter fun x=>!decide (x=i))).map eI:=by
 unfold iL;rw[List.map_map,List.filter_map,List.map_map];congr 1
 apply List.filter_congr
 intro x _;show(!decide ((x:Int)=(i:Int))) = !decide (x=i)
 congr 1
 rw[Bool.eq_iff_iff,decide_eq_true_eq,decide_eq_true_eq];omega
attribute [-go_sem] EW uK DW tK
structure LeftAt (H:aA) (h:aA) (C:List Nat) (ia n m:Nat):Prop where
 ht:H.take h.length=h
 hl:h.length≤H.length
 hi:h.length≤ia
 hm:C.length=m
 ex:∃z fz,n=m+z.length∧H[ia]?=some (.row none ((iL C).map eI++z) fz)
set_option maxHeartbeats 1000000 in
theorem zgw (t:List (List UInt8))(D:List Nat)(lg:Nat)(T:TestOk t lg)(hlg:(t.headD []).length=lg)(hD:∀ m∈D,m<2^lg)(hDl:D.length≤1000000)(Kx:Ex→St→Prop)
 (fin:∀(H:aA) (ia ib n m:Nat),LeftAt H h (kA lg (rB D lg lg)) ia n m →
  NW (eA X) X.gl WI ⟨[(0,EA t),(5,.p (.sl none ((D.map (kA lg)).map slN))),(6,.own ia n 0 m),(8,.ref ib 0),(37,AB false)],H,[]⟩ Kx) :
 NW (eA X) X.gl dM ⟨[(0,EA t),(5,.p (.sl none ((D.map (kA lg)).map slN))),(6,.own h.length lg 0 lg)],h++[.row none ((iL (kA lg (2^lg-1))).map eI) 0],[]⟩ Kx:=by
 rw[DW];have hl:=T.l
 have hz:=MF T.n0
 have w0:IntKind.i64.wrap ((lg:Int)-1)=(lg:Int)-1:=qA _ (by omega) (by omega)
 have c0:(kA lg (2^lg-1)).length=lg:=by rw[fE,NQ]
 simp only[tK,go_sem,hz,hlg,w0,splice];refine FA (fun u:Nat×aA×(Nat×Nat×Nat×Nat)=>⟨[(0,EA t),(5,.p (.sl none ((D.map (kA lg)).map slN))),(6,.own u.2.2.1 u.2.2.2.1 0 u.2.2.2.2.1),(8,.ref u.2.2.2.2.2 0)],u.2.1,[]⟩)
  (fun u=>u.1≤lg∧LeftAt u.2.1 h (kA lg (rB D lg u.1)) u.2.2.1 u.2.2.2.1 u.2.2.2.2.1∧u.2.1[u.2.2.2.2.2]?=some (.box [AI ((lg:Int)-1-u.1)]))
  (fun u=>lg-u.1) (0,h++[.row none ((iL (kA lg (2^lg-1))).map eI) 0,.box [AI ((lg:Int)-1)]],(h.length,lg,lg,h.length+1)) rfl ?_ ?_
 ·exact⟨by dsimp only;omega,⟨by simp,by simp,Nat.le_refl _,c0,[],0,rfl,by simp [rB]⟩,by simp⟩
 rintro⟨k,H,ia,n,m,ib⟩ ⟨hk,⟨ht,hlen,hge0,hm,z,fz,hn,ha⟩,hb⟩
 dsimp only at hk ht hlen hge0 ha hb hm hn ⊢;have hrk:=eZ D lg k
 have h2:=Nat.two_pow_pos lg
 rcases Nat.lt_or_ge k lg with hlt|hge
 ·have hge':(0:Int)≤(lg:Int)-1-k:=by omega
  obtain⟨i,hi⟩:∃i:Nat,(lg:Int)-1-k=i:=⟨lg-1-k,by omega⟩
  have hi2:lg-1-k=i:=by omega
  have et:rB D lg (k+1)=if kB D (PB (rB D lg k) i) then PB (rB D lg k) i else rB D lg k:=by rw[rB,hi2]
  rw[hi]at hge' hb;generalize rB D lg k=s at *;have hs64:s<18446744073709551616:=eF hl (by omega)
  have il:(iL (kA lg s)).length=m:=by unfold iL;rw[List.length_map,hm]
  have hcm:m≤lg:=by rw[←hm];exact Nat.le_trans (List.length_filter_le _ _) (by simp)
  have CL:=fun(K:jA)=>zgI (h:=H) (K:=K) (iL (kA lg s)) z (by omega) (id:=ia) (n:=n) (m:=m) (fz:=fz) (by simp [il,hn]) il ha
  -- the memory behind the clone
  obtain⟨H1,hH1⟩:∃H1,frz H ia m=H1:=⟨_,rfl⟩;have e1:H1=H.set ia (.row none ((iL (kA lg s)).map eI++z) (max fz m)):=by rw[←hH1];simp [frz,ha]
  have l1:H1.length=H.length:=by rw[e1,List.length_set]
  have hia:ia<H.length:=uA ha
  have hib:ib<H.length:=uA hb
  have hne:ia≠ib:=fun e=>by rw[e,hb]at ha;cases ha
  have b1:∀g:aA,(H1++g)[ib]?=some (.box [AI (i:Int)]):=fun g=>by
   rw[List.getElem?_append_left (by omega),e1,List.getElem?_set_ne hne];exact hb
  have a1:∀g:aA,(H1++g)[ia]?=some (.row none ((iL (kA lg s)).map eI++z) (max fz m)):=fun g=>by
   rw[List.getElem?_append_left (by omega),e1,List.getElem?_set_self hia]
  have t1:∀g:aA,(H1++g).take h.length=h:=fun g=>by
   rw[List.take_append_of_le_length (by omega),e1,List.take_set_of_le hge0]
   exact ht
  rw[hH1]at CL;simp only[←l1]at CL;have DF:=fun(K:jA)=>z5L (h:=H1++[.row none ((iL (kA lg s)).map eI) 0]) (K:=K) H1.length ((iL (kA lg s)).map eI) iH (by rw[ID];omega) (by simp) (g:=RH) (caps:=[.ref ib 0]) (p:=fun x=>decide (unI x=(i:Int))) (fun o x hx K=>by
   obtain⟨v,_,rfl⟩:=List.mem_map.1 hx;exact zgV v i (by
    rw[show(H1++[Obj.row none ((iL (kA lg s)).map eI) 0]).set H1.length o=H1++[o] by simp]
    exact b1 _))
  rw[zd6,z0X hl (by omega) hs64]at DF
  simp only[ID,hm]at DF;have hok:PB s i<2^lg:=by have:=QO s i;omega
  have hol:=(Nat.le_trans (List.length_filter_le _ _) (by simp):(kA lg (PB s i)).length≤lg)
  have hcq:=z1z (s:=PB s i) hD
  have hA:∀c∈D.map (kA lg),c.length≤1000000:=fun c hc=>by
   obtain⟨d,_,rfl⟩:=List.mem_map.1 hc;have:=(Nat.le_trans (List.length_filter_le _ _) (by simp):(kA lg d).length≤lg)
   omega
  have fl:(kA lg (PB s i)).length≤m:=by
   rw[←z0X hl (by omega) hs64,←hm];exact List.length_filter_le _ _
  obtain⟨zz,hzz⟩:∃zz,List.replicate (m-(kA lg (PB s i)).length) (PV.int .i64 0)=zz:=⟨_,rfl⟩;have hzl:m=(kA lg (PB s i)).length+zz.length:=by rw[←hzz,List.length_replicate];omega
  rw[hzz]at DF;generalize hC:kA lg (PB s i)=C' at *;have CV:=fun(K:jA)=>z43 (h:=H1++[.row none ((iL C').map eI++zz) 0]) (K:=K) (D.map (kA lg)) C' zz hA (by simpa using hDl) (by omega) (id:=H1.length) (n:=m) (m:=C'.length) (fz:=0) (by rw[List.length_append,ID];omega) rfl (by simp)
  rw[hcq]at CV;have sH:∀a b:Obj,(H1++[a]).set H1.length b=H1++[b]:=fun a b=>by simp
  have fH:frz (H1++[Obj.row none ((iL C').map eI++zz) 0]) H1.length C'.length=H1++[.row none ((iL C').map eI++zz) C'.length]:=by simp [frz]
  have w2:IntKind.i64.wrap ((i:Int)-1)=(i:Int)-1:=qA _ (by omega) (by omega)
  have w3:(i:Int)-1=(lg:Int)-1-((k+1:Nat):Int):=by omega
  cases hcv:kB D (PB s i) with
  | true=>
   rw[hcv]at CV;rw[hcv,if_pos rfl]at et;simp only[go_sem,hb,hge',CL,DF,CV,sH,fH,b1,w2,splice];refine⟨(k+1,H1++[.row none ((iL C').map eI++zz) C'.length,.box [AI ((i:Int)-1)]],(H1.length,m,C'.length,H1.length+1)),rfl,⟨by dsimp only;omega,?_,?_⟩,by dsimp only;omega⟩
   ·dsimp only
    rw[et,hC];exact⟨t1 _,by rw[List.length_append];omega,by omega,rfl,zz,C'.length,hzl,by simp⟩
   ·dsimp only
    rw[←w3];simp
  | false=>
   rw[hcv]at CV;rw[hcv,if_neg (by simp)]at et
   simp only[go_sem,hb,hge',CL,DF,CV,sH,fH,b1,w2,splice];refine⟨(k+1,H1++[.row none ((iL C').map eI++zz) C'.length,.box [AI ((i:Int)-1)]],(ia,n,m,H1.length+1)),rfl,⟨by dsimp only;omega,?_,?_⟩,by dsimp only;omega⟩
   ·dsimp only
    rw[et];exact⟨t1 _,by rw[List.length_append];omega,hge0,hm,z,max fz m,hn,a1 _⟩
   ·dsimp only
    rw[←w3];simp
 ·have ek:k=lg:=by omega
  subst ek;have hge':¬(0:Int)≤(k:Int)-1-k:=by omega
  simp only[go_sem,hb,hge'];exact fin H ia ib n m ⟨ht,hlen,hge0,hm,z,fz,hn,ha⟩
theorem z89 (k:Nat):iL (kA k (2^k-1))=(List.range k).map fun(n:Nat)=>(n:Int):=by
 unfold iL kA;congr 1
 rw[List.filter_eq_self];intro x hx;rw[Nat.testBit_two_pow_sub_one];simpa using hx
theorem zgk (C:List Nat)(j:Nat)(hj:j<C.length)(s:List UInt8)(hv:C[j]<s.length):ZA (C.take (j+1)) s=ZA (C.take j) s++[s[C[j]]]:=by
 rw[List.take_succ_eq_append_getElem hj,z35 _ _ _ hv]
set_option maxHeartbeats 1000000 in
theorem zgx (t:List (List UInt8))(lg:Nat)(T:TestOk t lg)(C:List Nat)(hCl:∀ v∈C,v<lg)(hC64:C.length≤64)(v5 v8:AV){H:aA}{ia n m:Nat}(A:LeftAt H h C ia n m)(K:Ex→St→Prop)
 (fin:K .ret ⟨[(4,.own H.length t.length 0 t.length)],H++[.row none ((t.map (ZA C)).map PV.str) 0],[]⟩) :
 NW (eA X) X.gl WI ⟨[(0,EA t),(5,v5),(6,.own ia n 0 m),(8,v8),(37,AB false)],H,[]⟩ K:=by
 rw[EW];obtain⟨ht,hlen,hge0,hm,z,fz,hn,ha⟩:=A;have hia:ia<H.length:=uA ha
 have a1:∀g:aA,(H++g)[ia]?=some (.row none ((iL C).map eI++z) fz):=fun g=>by rw[List.getElem?_append_left hia];exact ha
 have tn:=T.n1
 have ia1:ia≤H.length+1:=by omega
 have ia2:ia≤H.length:=by omega
 have ia3:ia+1≤H.length+1:=by omega
 have ia4:ia+1≤H.length+2:=by omega
 have ia5:ia+1≤H.length+1+1:=by omega
 simp only[uK,go_sem,splice];refine FA (fun j:Nat=>⟨[(6,.own ia n 0 m),(10,.own H.length j 0 j),(49,EA t),(50,AI t.length),(51,AI j)],H++[.row none (((t.take j).map (ZA C)).map PV.str) 0],[]⟩) (fun j=>j≤t.length) (fun j=>t.length-j) 0 rfl (by omega) ?_
 intro j hj;rw[wD];have jml:(((t.take j).map (ZA C)).map PV.str).length=j:=by rw[List.length_map,List.length_map,List.length_take];omega
 have w4:IntKind.i64.wrap ((j:Int)+1)=((j+1:Nat):Int):=qA _ (by omega) (by omega)
 rcases Nat.lt_or_ge j t.length with jlt|jge
 ·have jlt':(j:Int)<(t.length:Int):=by omega
  have hg:=PA PV.str jlt
  have hsl:=T.e _ (List.getElem_mem jlt)
  have et:(t.take (j+1)).map (ZA C)=(t.take j).map (ZA C)++[ZA C t[j]]:=by rw[List.take_succ_eq_append_getElem jlt,List.map_append];rfl
  generalize t[j]=r at *;generalize (t.take j).map (ZA C)=R at *;simp only[go_sem,jlt',jlt,hg,hsl];refine FA (fun i:Nat=>⟨[(6,.own ia n 0 m),(10,.own H.length j 0 j),(12,AS r),(13,.own (H.length+1) i 0 i),(49,EA t),(50,AI t.length),(51,AI j),(55,.own ia n 0 m),(56,AI m),(57,AI i)],H++[.row none (R.map PV.str) 0,.row none (JA (ZA (C.take i) r)) 0],[]⟩) (fun i=>i≤m) (fun i=>m-i) 0 rfl (by omega) ?_
  intro i hi;rw[wD];have w3:IntKind.i64.wrap ((i:Int)+1)=((i+1:Nat):Int):=qA _ (by omega) (by omega)
  have bl:(JA (ZA (C.take i) r)).length=i:=by unfold JA;rw[List.length_map,XY,List.length_take];omega
  rcases Nat.lt_or_ge i m with ilt|ige
  ·have ilt':(i:Int)<(m:Int):=by omega
   have hiC:i<C.length:=by omega
   have hv:=hCl _ (List.getElem_mem hiC)
   obtain⟨v,c,gr,gc,ps⟩:∃(v:Nat) (c:UInt8),((iL C).map eI++z)[i]?=some (eI (v:Int))∧r[v]?=some c∧ZA (C.take (i+1)) r=ZA (C.take i) r++[c]:=by
    refine⟨C[i],r[C[i]]'(by omega),?_,List.getElem?_eq_getElem (by omega),zgk C i hiC r (by omega)⟩
    rw[List.getElem?_append_left (by rw[ID];exact hiC)]
    unfold iL;rw[List.getElem?_map,List.getElem?_map,List.getElem?_eq_getElem hiC];rfl
   have nl:((iL C).map eI++z).length=n:=by rw[List.length_append,ID];omega
   have mn:m≤n:=by omega
   have ms:i+1≤DA:=by unfold DA;omega
   simp only[go_sem,ilt',ilt,a1,nl,mn,gr,gc,bl,ms,w3,splice,ia1,ia2,ia3,ia4,ia5];refine⟨i+1,?_,by omega,by omega⟩
   rw[ps];simp [JA]
  ·have ei:i=m:=by omega
   have ilt':¬(i:Int)<(m:Int):=by omega
   have eC:C.take i=C:=List.take_of_length_le (by omega)
   rw[eC]at bl ⊢;have wf:win (JA (ZA C r)) 0 i=JA (ZA C r):=EB bl
   have tb:=rM (ZA C r)
   have ms:j+1≤DA:=by unfold DA;omega
   simp only[go_sem,ilt',bl,wf,rd,rds,tb,UC,ms,jml,w4,splice,ia1,ia2,ia3,ia4,ia5];refine⟨j+1,?_,by omega,by omega⟩
   rw[et];simp
 ·have ej:j=t.length:=by omega
  have jlt':¬(j:Int)<(t.length:Int):=by omega
  have et:t.take j=t:=List.take_of_length_le (by omega)
  rw[et]at jml ⊢;simp only[go_sem,jlt'];subst ej;exact fin
set_option maxHeartbeats 1000000 in
theorem zgX (t:List (List UInt8))(l:List Flt)(lg:Nat)(T:TestOk t lg)(hlg:(t.headD []).length=lg)(hf:∀ f∈l,NB t.length f=0)(hn:l.length≤1000000) :
 eA X QH [EA t,MB l] h K=K (EA (YF t (LA t l) lg)) h []:=by
 refine tA ?_;rw[z7S rfl];have C:=fun h K=>z41 (h:=h) (K:=K) t l lg T hlg hf hn
 unfold xD at C;have hD:=lI (l:=l) T hlg
 have hDl:(LA t l).length=l.length:=by unfold LA;rw[List.length_map]
 have hz:=MF T.n0
 have hl:=T.l
 unfold YF;generalize LA t l=D at *;simp only[BN,go_sem,C,hz,hlg];refine FA (fun k:Nat=>⟨[(0,EA t),(5,.p (.sl none ((D.map (kA lg)).map slN))),(6,.own h.length k 0 k),(22,AI lg),(23,AI k)],h++[.row none (((List.range k).map fun(n:Nat)=>(n:Int)).map eI) 0],[]⟩) (fun k=>k≤lg) (fun k=>lg-k) 0 rfl (by omega) ?_
 intro k hk;rw[wD];have w2:IntKind.i64.wrap ((k:Int)+1)=((k+1:Nat):Int):=qA _ (by omega) (by omega)
 have ml:(((List.range k).map fun(n:Nat)=>(n:Int)).map eI).length=k:=by simp
 rcases Nat.lt_or_ge k lg with hlt|hge
 ·have hlt':(k:Int)<(lg:Int):=by omega
  have ms:k+1≤DA:=by unfold DA;omega
  simp only[go_sem,hlt',ml,ms,w2,splice];refine⟨k+1,?_,by omega,by omega⟩
  rw[List.range_succ];simp
 ·have ek:k=lg:=by omega
  have hlt':¬(k:Int)<(lg:Int):=by omega
  subst ek;have ea:=z89 k
  rw[←ea];simp only[go_sem,hlt'];refine zgw t D k T hlg hD (by omega) _ fun H ia ib n m A=>?_
  have hcl:(kA k (rB D k k)).length≤k:=Nat.le_trans (List.length_filter_le _ _) (by simp)
  refine zgx t k T _ (fun v hv=>(gF.1 hv).1) (by omega) _ _ A _ ?_
  have hH:h.length≤H.length:=A.hl
  have hgt:∀g,(H++g).take h.length=h:=fun g=>by rw[List.take_append_of_le_length hH];exact A.ht
  have ml2:((t.map (ZA (kA k (rB D k k)))).map PV.str).length=t.length:=by rw[List.length_map,List.length_map]
  have wf:win ((t.map (ZA (kA k (rB D k k)))).map PV.str) 0 t.length=(t.map (ZA (kA k (rB D k k)))).map PV.str:=EB ml2
  simp only[go_sem,ml2,wf,hH,hgt]
end Go.Am
end
section
/- The smallest choice of vectors: the reference tries all sets. -/
open Go
set_option linter.all false
set_option maxRecDepth 100000
namespace Go.Am
variable {h:aA} {K:jA}
theorem z8H (a b:List Int)(k:Nat)(h1:k<a.length)(h2:k<b.length):FC (a.drop k) (b.drop k)=if a[k]<b[k] then -1 else if b[k]<a[k] then 1 else FC (a.drop (k+1)) (b.drop (k+1)):=by
 rw[List.drop_eq_getElem_cons h1,List.drop_eq_getElem_cons h2];rfl
theorem z8I (a b:List Int)(k:Nat)(h1:k<a.length)(h2:b.length≤k):FC (a.drop k) (b.drop k)=1:=by
 rw[List.drop_eq_getElem_cons h1,List.drop_eq_nil_of_le h2];rfl
theorem z8J (a b:List Int)(k:Nat)(h1:a.length≤k):FC (a.drop k) (b.drop k)=if k<b.length then -1 else 0:=by
 rw[List.drop_eq_nil_of_le h1];split
 ·rename_i h;rw[List.drop_eq_getElem_cons h];rfl
 ·rename_i h;rw[List.drop_eq_nil_of_le (by omega)];rfl
theorem zhp (a:Int):eA X UE [AI a] h K=K (AB false) h []:=by
 refine tA ?_;rw[z0O rfl];simp only[jK,go_sem]
theorem zgK (a b:Int):eA X KK [AI a,AI b] h K=K (AI (if a<b then -1 else if b<a then 1 else 0)) h []:=by
 refine tA ?_;rw[z7f rfl];have n:=fun(a:Int) h K=>zhp (h:=h) (K:=K) a
 rcases Int.lt_trichotomy a b with e|e|e
 ·simp only[xH,go_sem,n,e]
 ·subst e
  simp only[xH,go_sem,n,Int.lt_irrefl]
 ·have:¬a<b:=by omega
  simp only[xH,go_sem,n,e,this]
theorem zgN (a b:List Int)(ha:a.length≤1000000)(hb:b.length≤1000000):eA X OG [AL a,AL b] h K=K (AI (FC a b)) h []:=by
 refine tA ?_;rw[z8k rfl];have C:=fun(a b:Int) h K=>zgK (h:=h) (K:=K) a b
 simp only[ON,go_sem];refine FA (fun k:Nat=>⟨[(0,AL a),(1,AL b),(9,AL a),(10,AI a.length),(11,AI k)],h,[]⟩) (fun k=>k≤a.length∧FC a b=FC (a.drop k) (b.drop k)) (fun k=>a.length-k) 0 rfl ⟨by omega,rfl⟩ ?_
 rintro k ⟨hk,he⟩
 have w2:IntKind.i64.wrap ((k:Int)+1)=((k+1:Nat):Int):=qA _ (by omega) (by omega)
 rcases Nat.lt_or_ge k a.length with hlt|hge
 ·have hlt':(k:Int)<(a.length:Int):=by omega
  have g1:=PA eI hlt
  rcases Nat.lt_or_ge k b.length with h2|h2
  ·have h2':¬(b.length:Int)≤(k:Int):=by omega
   have g2:=PA eI h2
   have ed:=z8H a b k hlt h2
   rcases Int.lt_trichotomy a[k] b[k]with e|e|e
   ·rw[if_pos e]at ed
    simp only[go_sem,hlt',hlt,g1,h2',h2,g2,C,e];rw[he,ed]
   ·rw[if_neg (by omega),if_neg (by omega)]at ed
    have e1:¬a[k]<b[k]:=by omega
    have e2:¬b[k]<a[k]:=by omega
    simp only[go_sem,hlt',hlt,g1,h2',h2,g2,C,e1,e2,w2];exact⟨k+1,rfl,⟨by omega,by rw[he,ed]⟩,by omega⟩
   ·rw[if_neg (by omega),if_pos e]at ed
    have e1:¬a[k]<b[k]:=by omega
    simp only[go_sem,hlt',hlt,g1,h2',h2,g2,C,e1,e];rw[he,ed]
  ·have h2':(b.length:Int)≤(k:Int):=by omega
   have ed:=z8I a b k hlt h2
   simp only[go_sem,hlt',hlt,g1,h2'];rw[he,ed]
 ·have ek:k=a.length:=by omega
  have hlt':¬(k:Int)<(a.length:Int):=by omega
  have ed:=z8J a b k hge
  by_cases h3:k<b.length
  ·have h3':(a.length:Int)<(b.length:Int):=by omega
   rw[if_pos h3]at ed;simp only[go_sem,hlt',h3'];rw[he,ed]
  ·have h3':¬(a.length:Int)<(b.length:Int):=by omega
   rw[if_neg h3]at ed;simp only[go_sem,hlt',h3'];rw[he,ed]
theorem zL {H:aA}{i k:Nat}(j:Nat){sh:Sh}{xs:List PV}{fz:Nat}(hj:H[j]?=some (.row sh xs fz)):∃fz',(frz H i k)[j]?=some (.row sh xs fz'):=by
 unfold frz;split
 ·rename_i sh' xs' fz' hi
  by_cases e:i=j
  ·subst e
   rw[hi]at hj;injection hj with hj
   injection hj with e1 e2 e3
   subst e1;subst e2
   exact⟨_,List.getElem?_set_self (uA hi)⟩
  ·exact⟨fz,by rw[List.getElem?_set_ne e];exact hj⟩
 ·exact⟨fz,hj⟩
theorem z2s {H:aA}{i k n:Nat}(hi:n≤i):(frz H i k).take n=H.take n:=by
 unfold frz;split
 ·rw[List.take_set_of_le hi]
 ·rfl
theorem zgO (a b:List Int)(ha:a.length≤1000000)(hb:b.length≤1000000){i j n m:Nat}(hn:a.length=n)(hm:b.length=m){fa fb:Nat}(h1:h[i]?=some (.row none (a.map eI) fa))(h2:h[j]?=some (.row none (b.map eI) fb)) :
 eA X OG [.own i n 0 n,.own j m 0 m] h K=K (AI (FC a b)) (frz (frz h i n) j m) []:=by
 subst hn;subst hm;obtain⟨fc,h3⟩:=zL (i:=i) (k:=a.length) j h2;have e:=pG (X:=X) (f:=OG) (F:=BM) (a:=[.own i a.length 0 a.length,.own j b.length 0 b.length]) (vs:=[.sl none (a.map eI),.sl none (b.map eI)]) (h:=h) (h1:=frz (frz h i a.length) j b.length) (P:=K) z5z rfl
  (by
   have w1:win (a.map eI) 0 a.length=a.map eI:=EB (by simp)
   have w2:win (b.map eI) 0 b.length=b.map eI:=EB (by simp)
   simp [mA,pur,rd,h1,h3,w1,w2]) rfl rfl (by rw[sE,sE])
 rw[e];exact zgN a b ha hb
end Go.Am
end
section
/- The smallest choice of vectors: the reference's loop. -/
open Go
set_option linter.all false
set_option maxRecDepth 100000
namespace Go.Am
variable {h:aA} {K:jA}
def OJ (H:aA)(h:aA)(lg:Nat):Option Nat→AV→Bool→Prop
 | none,v,f=>v = .p (.sl none [])∧f=false
 | some b,v,f=>f=true∧∃ib fz,h.length≤ib∧v = .own ib (kA lg b).length 0 (kA lg b).length∧H[ib]?=some (.row none ((iL (kA lg b)).map eI) fz)
theorem OJ.top {H h:aA}{lg:Nat}{o:Option Nat}{v:AV}{f:Bool}(B:OJ H h lg o v f):v.top≤H.length:=by
 cases o with
 | none=>obtain⟨rfl,_⟩:=B;exact Nat.zero_le _
 | some b=>obtain⟨_,ib,fz,_,rfl,hb⟩:=B;exact uA hb
theorem z6W {N i:Nat}(hi:i≤62)(hN:N<9223372036854775808):MC .i64 (N:Int) (i:Int)=((N / 2^i:Nat):Int)∧uC .i64 ((N / 2^i:Nat):Int) 1=if N.testBit i=true then 1 else 0:=by
 constructor
 ·unfold MC
  have:min ((i:Int)).toNat IntKind.i64.bits=i:=by simp only[IntKind.bits,Int.toNat_natCast];omega
  rw[this,show((2:Int)^i)=((2^i:Nat):Int) by simp]
  exact(Int.ofNat_fdiv N (2^i)).symm
 ·have h1:N / 2^i<9223372036854775808:=Nat.lt_of_le_of_lt (Nat.div_le_self _ _) hN
  have h2:=z2K (a:=N / 2^i) (b:=1) h1 (by omega)
  rw[jT]at h2;refine h2.trans ?_;split <;> rfl
attribute [-go_sem] FW UD
theorem zhF (t:List (List UInt8))(D:List Nat)(lg s:Nat)(hlg:lg≤14)(hD:∀ m∈D,m<2^lg)(hDl:D.length≤1000000)(hs:s<2^lg){H:aA}(hl:h.length≤H.length)(ht:H.take h.length=h)(v8:AV)(f:Bool)(B:OJ H h lg (yC D lg s) v8 f)(v6 v10 v23 v24 v27 v28 v29:AV)(Kx:Ex→St→Prop)
 (fin:∀(e:List (Nat×AV)) (H':aA) (v8':AV) (f':Bool),h.length≤H'.length→H'.take h.length=h→OJ H' h lg (yC D lg (s+1)) v8' f'→bA e 6=v6→bA e 7 = .p (.sl none ((D.map (kA lg)).map slN))→bA e 8=v8'→bA e 9=AB f'→bA e 23=v23→bA e 24=v24 →
  Kx .normal ⟨e,H',[]⟩) :
 NW (eA X) X.gl eM ⟨[(6,v6),(7,.p (.sl none ((D.map (kA lg)).map slN))),(8,v8),(9,AB f),(10,v10),(11,.own H.length (kA lg s).length 0 (kA lg s).length),(23,v23),(24,v24),(27,v27),(28,v28),(29,v29)],H++[.row none ((iL (kA lg s)).map eI) 0],[]⟩ Kx:=by
 rw[FW];have hA:∀c∈D.map (kA lg),c.length≤1000000:=fun c hc=>by
  obtain⟨d,_,rfl⟩:=List.mem_map.1 hc;have:=(Nat.le_trans (List.length_filter_le _ _) (by simp):(kA lg d).length≤lg)
  omega
 have hcl:=(Nat.le_trans (List.length_filter_le _ _) (by simp):(kA lg s).length≤lg)
 have CV:=fun(K:jA)=>z43 (h:=H++[.row none ((iL (kA lg s)).map eI) 0]) (K:=K) (D.map (kA lg)) (kA lg s) [] hA (by simpa using hDl) (by omega) (id:=H.length) (n:=(kA lg s).length) (m:=(kA lg s).length) (fz:=0) (by rw[List.length_append,ID];rfl) rfl (by simp)
 rw[z1z hD]at CV;have fH:frz (H++[Obj.row none ((iL (kA lg s)).map eI) 0]) H.length (kA lg s).length=H++[.row none ((iL (kA lg s)).map eI) (kA lg s).length]:=by simp [frz]
 have hq:=EZ D lg s
 have ht2:∀g:aA,(H++g).take h.length=h:=fun g=>by rw[List.take_append_of_le_length hl];exact ht
 cases hS:yC D lg s with
 | none=>
  rw[hS]at B hq;dsimp only at hq;obtain⟨rfl,rfl⟩:=B;cases hcv:kB D s with
  | true=>
   rw[hcv]at CV;rw[hcv,if_pos rfl]at hq;simp only[UD,go_sem,CV,fH];refine fin _ _ _ true (by rw[List.length_append];omega) (ht2 _) ?_ rfl rfl rfl rfl rfl rfl
   rw[hq];exact⟨rfl,H.length,(kA lg s).length,hl,rfl,by simp⟩
  | false=>
   rw[hcv]at CV;rw[hcv,if_neg (by simp)]at hq
   simp only[UD,go_sem,CV,fH];refine fin _ _ _ false (by rw[List.length_append];omega) (ht2 _) ?_ rfl rfl rfl rfl rfl rfl
   rw[hq];exact⟨rfl,rfl⟩
 | some b=>
  rw[hS]at B hq;dsimp only at hq;obtain⟨rfl,ib,fz,hib,rfl,hb⟩:=B;have hb0:ib<H.length:=uA hb
  have hbl:=(Nat.le_trans (List.length_filter_le _ _) (by simp):(kA lg b).length≤lg)
  have ilb:(iL (kA lg b)).length=(kA lg b).length:=by unfold iL;rw[List.length_map]
  have ils:(iL (kA lg s)).length=(kA lg s).length:=by unfold iL;rw[List.length_map]
  have hb':∀g:aA,(H++g)[ib]?=some (.row none ((iL (kA lg b)).map eI) fz):=fun g=>by rw[List.getElem?_append_left hb0];exact hb
  cases hcv:kB D s with
  | false=>
   rw[hcv]at CV;rw[hcv,Bool.false_and,if_neg (by simp)]at hq
   simp only[UD,go_sem,CV,fH];refine fin _ _ _ true (by rw[List.length_append];omega) (ht2 _) ?_ rfl rfl rfl rfl rfl rfl
   rw[hq];exact⟨rfl,ib,fz,hib,rfl,hb' _⟩
  | true=>
   rw[hcv]at CV;rw[hcv,Bool.true_and]at hq;have hbt:HE (kA lg s) (kA lg b)=(decide ((kA lg s).length<(kA lg b).length)||(decide ((kA lg s).length=(kA lg b).length)&&decide (FC (iL (kA lg s)) (iL (kA lg b))<0))):=rfl
   rcases Nat.lt_trichotomy (kA lg s).length (kA lg b).length with e|e|e
   ·have e1:((kA lg s).length:Int)<((kA lg b).length:Int):=by omega
    rw[hbt,decide_eq_true e,Bool.true_or,if_pos rfl]at hq;simp only[UD,go_sem,CV,fH,e1];refine fin _ _ _ true (by rw[List.length_append];omega) (ht2 _) ?_ rfl rfl rfl rfl rfl rfl
    rw[hq];exact⟨rfl,H.length,(kA lg s).length,hl,rfl,by simp⟩
   ·have e1:¬((kA lg s).length:Int)<((kA lg b).length:Int):=by omega
    have e2:((kA lg s).length:Int)=((kA lg b).length:Int):=by omega
    have CO:=fun(K:jA)=>zgO (h:=H++[.row none ((iL (kA lg s)).map eI) (kA lg s).length]) (K:=K) (iL (kA lg s)) (iL (kA lg b)) (by omega) (by omega) (i:=H.length) (j:=ib) ils ilb (fa:=(kA lg s).length) (fb:=fz) (by simp) (hb' _)
    obtain⟨g1,hg1⟩:∃g,frz (frz (H++[Obj.row none ((iL (kA lg s)).map eI) (kA lg s).length]) H.length (kA lg s).length) ib (kA lg b).length=g:=⟨_,rfl⟩;have gl:g1.length=H.length+1:=by rw[←hg1,sE,sE];simp
    have gt:g1.take h.length=h:=by rw[←hg1,z2s hib,z2s hl];exact ht2 _
    obtain⟨f1,gs⟩:∃f1,g1[H.length]?=some (.row none ((iL (kA lg s)).map eI) f1):=by
     rw[←hg1];obtain⟨f0,q0⟩:=zL (H:=H++[Obj.row none ((iL (kA lg s)).map eI) (kA lg s).length]) (i:=H.length) (k:=(kA lg s).length) H.length (sh:=none) (xs:=(iL (kA lg s)).map eI) (fz:=(kA lg s).length) (by simp)
     exact zL _ q0
    obtain⟨f2,gb⟩:∃f2,g1[ib]?=some (.row none ((iL (kA lg b)).map eI) f2):=by
     rw[←hg1];obtain⟨f0,q0⟩:=zL (H:=H++[Obj.row none ((iL (kA lg s)).map eI) (kA lg s).length]) (i:=H.length) (k:=(kA lg s).length) ib (hb' _);exact zL _ q0
    rw[hg1]at CO;rw[hbt,decide_eq_false (by omega),Bool.false_or,decide_eq_true e,Bool.true_and]at hq
    by_cases hz:FC (iL (kA lg s)) (iL (kA lg b))<0
    ·rw[decide_eq_true hz,if_pos rfl]at hq
     simp only[UD,go_sem,CV,fH,e1,eq_true e2,CO,hz];refine fin _ _ _ true (by omega) gt ?_ rfl rfl rfl rfl rfl rfl
     rw[hq];exact⟨rfl,H.length,f1,hl,rfl,gs⟩
    ·rw[decide_eq_false hz,if_neg (by simp)]at hq
     simp only[UD,go_sem,CV,fH,e1,eq_true e2,CO,hz];refine fin _ _ _ true (by omega) gt ?_ rfl rfl rfl rfl rfl rfl
     rw[hq];exact⟨rfl,ib,f2,hib,rfl,gb⟩
   ·have e1:¬((kA lg s).length:Int)<((kA lg b).length:Int):=by omega
    have e2:¬((kA lg s).length:Int)=((kA lg b).length:Int):=by omega
    rw[hbt,decide_eq_false (by omega),Bool.false_or,decide_eq_false (by omega),Bool.false_and,if_neg (by simp)]at hq
    simp only[UD,go_sem,CV,fH,e1,e2];refine fin _ _ _ true (by rw[List.length_append];omega) (ht2 _) ?_ rfl rfl rfl rfl rfl rfl
    rw[hq];exact⟨rfl,ib,fz,hib,rfl,hb' _⟩
set_option maxHeartbeats 2000000 in
theorem zhb (t:List (List UInt8))(l:List Flt)(lg:Nat)(T:TestOk t lg)(hlg:(t.headD []).length=lg)(hf:∀ f∈l,NB t.length f=0)(hn:l.length≤1000000) :
 eA X NG [EA t,MB l] h K=K (if 14<lg then .tup [.p (.sl none []),AI 2] else .tup [AL (iL (kA lg (lB (LA t l) lg (2^lg-1)))),AI 0]) h []:=by
 refine tA ?_;rw[z7V rfl];have hz:=MF T.n0
 by_cases h14:14<lg
 ·have h14':(14:Int)<(lg:Int):=by omega
  simp only[vK,go_sem,hz,hlg,h14',h14]
 have h14':¬(14:Int)<(lg:Int):=by omega
 have C:=fun h K=>z41 (h:=h) (K:=K) t l lg T hlg hf hn
 unfold xD at C;have hD:=lI (l:=l) T hlg
 have hDl:(LA t l).length=l.length:=by unfold LA;rw[List.length_map]
 generalize LA t l=D at *;have p14:2^lg≤16384:=Nat.le_trans (Nat.pow_le_pow_right (by omega) (show lg≤14 by omega)) (by decide)
 have s1:uE .i64 1 (lg:Int)=((2^lg:Nat):Int):=by
  unfold uE;have:min ((lg:Int)).toNat IntKind.i64.bits=lg:=by simp only[IntKind.bits,Int.toNat_natCast];omega
  rw[this,show(1:Int)*2^lg=((2^lg:Nat):Int) by simp]
  have key:∀P:Nat,P≤16384→IntKind.i64.wrap (P:Int)=P:=fun P hP=>qA _ (by omega) (by omega)
  exact key _ p14
 have hln:¬(lg:Int)<0:=by omega
 simp only[vK,go_sem,hz,hlg,h14',h14,C,s1];refine FA (fun u:Nat×aA×AV×Bool=>⟨[(6,AI lg),(7,.p (.sl none ((D.map (kA lg)).map slN))),(8,u.2.2.1),(9,AB u.2.2.2),(23,AI ((2^lg:Nat):Int)),(24,AI u.1)],u.2.1,[]⟩)
  (fun u=>u.1≤2^lg∧u.2.1.take h.length=h∧h.length≤u.2.1.length∧OJ u.2.1 h lg (yC D lg u.1) u.2.2.1 u.2.2.2) (fun u=>2^lg-u.1) (0,h,.p (.sl none []),false) rfl ⟨Nat.zero_le _,List.take_of_length_le (Nat.le_refl _),Nat.le_refl _,rfl,rfl⟩ ?_
 rintro⟨s,H,v8,f⟩ ⟨hs,ht,hl,B⟩
 dsimp only at hs ht hl B ⊢;have w2:IntKind.i64.wrap ((s:Int)+1)=((s+1:Nat):Int):=qA _ (by omega) (by omega)
 rcases Nat.lt_or_ge s (2^lg) with hlt|hge
 ·have hlt':(s:Int)<((2^lg:Nat):Int):=by omega
  simp only[go_sem,hlt'];refine FA (fun i:Nat=>⟨[(6,AI lg),(7,.p (.sl none ((D.map (kA lg)).map slN))),(8,v8),(9,AB f),(10,AI s),(11,.own H.length (kA i s).length 0 (kA i s).length),(23,AI ((2^lg:Nat):Int)),(24,AI s),(27,AI lg),(28,AI i)],H++[.row none ((iL (kA i s)).map eI) 0],[]⟩) (fun i=>i≤lg) (fun i=>lg-i) 0 rfl (by omega) ?_
  intro i hi;rw[wD];have w3:IntKind.i64.wrap ((i:Int)+1)=((i+1:Nat):Int):=qA _ (by omega) (by omega)
  have hcl:(kA i s).length≤i:=Nat.le_trans (List.length_filter_le _ _) (by simp)
  have hsc:=ZJ i s
  have tp:=B.top
  have tp1:v8.top≤H.length+1:=by omega
  rcases Nat.lt_or_ge i lg with ilt|ige
  ·have ilt':(i:Int)<(lg:Int):=by omega
   obtain⟨f1,f2⟩:=z6W (N:=s) (i:=i) (by omega) (by omega)
   generalize kA i s=C at *;have cml:((iL C).map eI).length=C.length:=ID C
   have ms:C.length+1≤DA:=by unfold DA;omega
   cases hb:s.testBit i with
   | true=>
    rw[hb,if_pos rfl]at hsc f2;simp only[go_sem,ilt',f1,f2,cml,ms,w3,splice,tp1];refine⟨i+1,?_,by omega,by omega⟩
    rw[hsc];simp [iL]
   | false=>
    rw[hb,if_neg (by simp),List.append_nil]at hsc
    rw[hb,if_neg (by simp)]at f2
    simp only[go_sem,ilt',f1,f2,w3,tp1];exact⟨i+1,by rw[hsc],by omega,by omega⟩
  ·have ei:i=lg:=by omega
   have ilt':¬(i:Int)<(lg:Int):=by omega
   subst ei;simp only[go_sem,ilt',tp1];refine zhF t D i s (by omega) hD (by omega) hlt hl ht v8 f B _ _ _ _ _ _ _ _ fun e H' v8' f' hl' ht' B' a6 a7 a8 a9 a23 a24=>?_
   simp only[go_sem,a6,a7,a8,a9,a23,a24,w2];exact⟨(s+1,H',v8',f'),rfl,⟨by dsimp only;omega,ht',hl',B'⟩,by dsimp only;omega⟩
 ·have es:s=2^lg:=by omega
  subst es;have hlt':¬((2^lg:Nat):Int)<((2^lg:Nat):Int):=by omega
  rw[zhE (by omega) hD]at B
  obtain⟨rfl,ib,fz,hib,rfl,hb⟩:=B;have wf:win ((iL (kA lg (lB D lg (2^lg-1)))).map eI) 0 (kA lg (lB D lg (2^lg-1))).length=(iL (kA lg (lB D lg (2^lg-1)))).map eI:=EB (ID _)
  have cml:=ID (kA lg (lB D lg (2^lg-1)))
  simp only[go_sem,hlt',hb,hib,cml,wf,ht];first|done|trace_state
end Go.Am
end
section
/- The smallest choice of vectors: the program's search. -/
open Go
set_option linter.all false
set_option maxRecDepth 100000
namespace Go.Am
variable {h:aA} {K:jA}
attribute [-go_sem] PV.cells
def FZ (t:List (List UInt8))(l:List Flt):AV:=
 if yB t l≠0 then .tup [.p (.sl none []),AI (yB t l)] else if 14<(t.headD []).length then .tup [.p (.sl none []),AI 2]
 else .tup [AL (iL (kA (t.headD []).length (lB (LA t l) (t.headD []).length (2^(t.headD []).length-1)))),AI 0]
set_option maxHeartbeats 2000000 in
theorem zha (t:List (List UInt8))(l:List Flt)(hb:∀ s∈t,s.length≤1000000)(ht:t.length≤1000000)(hf:∀ f∈l,f.nets.length≤1000000)(hn:l.length≤12) :
 eA X FF [EA t,MB l] h K=K (FZ t l) h []:=by
 refine tA ?_;rw[z7p rfl];have c:=fun h K=>sZ (h:=h) (K:=K) t l hb ht hf (by omega)
 unfold FZ;by_cases h1:yB t l=0
 case neg=>simp only[AH,go_sem,c,h1]
 obtain⟨hT,hF⟩:=FM h1;have T:=qM hT
 obtain⟨lg,hlg⟩:∃n,(t.headD []).length=n:=⟨_,rfl⟩;rw[hlg]at T ⊢;have hl:=T.l
 have hz:=MF T.n0
 by_cases h14:14<lg
 ·have h14':(14:Int)<(lg:Int):=by omega
  simp only[AH,go_sem,c,h1,hz,hlg,h14',h14]
 have h14':¬(14:Int)<(lg:Int):=by omega
 have M:=fun h K=>tZ (h:=h) (K:=K) t l lg T hlg hF (by omega)
 have W:=fun h K=>cR (h:=h) (K:=K) lg hl
 have hD:=lI (l:=l) T hlg
 have hDl:(LA t l).length=l.length:=by unfold LA;rw[List.length_map]
 generalize LA t l=D at *;obtain⟨E,hE,hEm,hEl⟩:=z8M D;have hD64:∀m∈D,m<18446744073709551616:=fun m hm=>eF hl (hD m hm)
 have hE64:∀m∈E,m<18446744073709551616:=fun m hm=>hD64 m ((hEm m).1 hm)
 have V:=fun h K=>zhf (h:=h) (K:=K) (D.map eU)
 have S:=fun(h:aA) (K:jA)=>zhc (h:=h++[.box [.p (.sl none (D.map eU))]]) (K:=K) D (by omega) (q:=h.length) (by simp)
 have isl:(XA ltU (D.map eU)).length=D.length:=by rw[JL,List.length_map]
 have C:=fun(h:aA) (K:jA)=>z5H (h:=h++[.box [.p (.sl none (D.map eU))],.row none (XA ltU (D.map eU)) 0]) (K:=K) (h.length+1) (XA ltU (D.map eU)) (fun x hx=>by obtain⟨n,_,rfl⟩:=List.mem_map.1 (vE.1 hx);rfl) (by rw[isl];omega) (by simp) (q:=fun x y=>decide (unI x=unI y)) (fun x hx y hy=>by
  obtain⟨n,_,rfl⟩:=List.mem_map.1 (vE.1 hx);obtain⟨m,_,rfl⟩:=List.mem_map.1 (vE.1 hy);rfl) (fun x hx y hy=>by
  obtain⟨n,_,rfl⟩:=List.mem_map.1 (vE.1 hx);obtain⟨m,_,rfl⟩:=List.mem_map.1 (vE.1 hy);rfl)
 rw[isl,hE]at C;simp only[List.length_map]at C;have h2:=Nat.two_pow_pos lg
 obtain⟨zz,hzz⟩:∃zz,List.replicate (D.length-E.length) (PV.int .u64 0)=zz:=⟨_,rfl⟩;have hzl:(E.map eU++zz).length=D.length:=by rw[←hzz];simp;omega
 rw[hzz]at C;have st2:∀(a b o:Obj),(h++[a,b]).set (h.length+1) o=h++[a,o]:=fun a b o=>by simp
 simp only[AH,go_sem,c,h1,hz,hlg,h14',h14,M,V,S,C,W,st2];have hcE:∀s,kB E s=kB D s:=fun s=>z8X (fun m=>hEm m) s
 generalize hB0:Obj.box [AV.p (PV.sl none (List.map eU D))]=B0 at *;clear V S C M W st2;refine FA (fun u:Nat×Nat=>⟨[(7,AI lg),(8,.own (h.length+1) D.length 0 E.length),(9,.p (eU (lB D lg u.1))),(36,.p (eU (2^lg-1))),(37,.p (eU u.1))],h++[B0,.row none (E.map eU++zz) u.2],[]⟩) (fun u=>u.1≤2^lg-1) (fun u=>2^lg-1-u.1) (0,0) rfl (Nat.zero_le _) ?_
 rintro⟨s,fz⟩ hs
 dsimp only at hs ⊢;have p14:2^lg≤16384:=Nat.le_trans (Nat.pow_le_pow_right (by omega) (show lg≤14 by omega)) (by decide)
 have hbl:=z4Q D lg s (by omega)
 have hne:=z4R D lg s
 rcases Nat.lt_or_ge s (2^lg-1) with hlt|hge
 ·have hlt':(s:Int)<((2^lg-1:Nat):Int):=by omega
  have et:lB D lg (s+1)=if kE s (lB D lg s) then lB D lg s else if kB D s then s else lB D lg s:=rfl
  have hneq:s≠lB D lg s:=by omega
  generalize lB D lg s=b at *;have O1:=fun h K=>qZ (h:=h) (K:=K) s (by omega)
  have O2:=fun h K=>qZ (h:=h) (K:=K) b (by omega)
  have q1:=cH 64 s
  have q2:=cH 64 b
  have e1:IntKind.i64.wrap (((oA 64 s:Nat):Int)-((oA 64 b:Nat):Int))=((oA 64 s:Nat):Int)-((oA 64 b:Nat):Int):=qA _ (by omega) (by omega)
  have hd0:=z50 hneq
  have hd:s ^^^ b<2^lg:=Nat.xor_lt_two_pow (by omega) hbl
  have e2:=z2R (a:=s) (b:=b) (by omega) (by omega)
  have e3:=zfM hd0 (by omega)
  have e4:=aE (a:=s ^^^ b) (b:=18446744073709551616-(s ^^^ b)) (by omega) (by omega)
  have e5:=aE (a:=s) (b:=(s ^^^ b) &&& (18446744073709551616-(s ^^^ b))) (by omega) (Nat.lt_of_le_of_lt Nat.and_le_left (by omega))
  have w2:IntKind.u64.wrap ((s:Int)+1)=((s+1:Nat):Int):=SG (a:=s) (b:=1) (by omega)
  have hsk:kE s b=(decide (oA 64 b<oA 64 s)||(decide (oA 64 s=oA 64 b)&&decide (s &&& ((s ^^^ b) &&& (18446744073709551616-(s ^^^ b)))=0))):=rfl
  have EN:=fun(fz:Nat) (K:jA)=>zhm (h:=h++[B0,.row none (E.map eU++zz) fz]) (K:=K) E zz s hE64 (by omega) (by omega) (id:=h.length+1) (n:=D.length) (fz:=fz) hzl (by simp)
  rw[hcE]at EN;have fzE:∀n:Nat,frz [B0,.row none (E.map eU++zz) n] 1 E.length=[B0,.row none (E.map eU++zz) (max n E.length)]:=fun n=>by simp [frz]
  generalize s &&& ((s ^^^ b) &&& (18446744073709551616-(s ^^^ b)))=low at *;rcases Nat.lt_trichotomy (oA 64 s) (oA 64 b) with hp|hp|hp
  ·have g1:¬(0:Int)<((oA 64 s:Nat):Int)-((oA 64 b:Nat):Int):=by omega
   have g2:¬((oA 64 s:Nat):Int)-((oA 64 b:Nat):Int)=0:=by omega
   have hk:kE s b=false:=by rw[hsk];simp [show ¬oA 64 b<oA 64 s by omega,show ¬oA 64 s=oA 64 b by omega]
   rw[hk,if_neg (by simp)]at et
   cases hcv:kB D s with
   | true=>
    rw[hcv]at EN et;rw[if_pos rfl]at et;simp only[go_sem,hlt',O1,O2,e1,e2,g1,g2,EN,fzE,w2];exact⟨(s+1,max fz E.length),by rw[et],by dsimp only;omega,by dsimp only;omega⟩
   | false=>
    rw[hcv]at EN et;rw[if_neg (by simp)]at et
    simp only[go_sem,hlt',O1,O2,e1,e2,g1,g2,EN,fzE,w2];exact⟨(s+1,max fz E.length),by rw[et],by dsimp only;omega,by dsimp only;omega⟩
  ·have g1:¬(0:Int)<((oA 64 s:Nat):Int)-((oA 64 b:Nat):Int):=by omega
   have g2:((oA 64 s:Nat):Int)-((oA 64 b:Nat):Int)=0:=by omega
   by_cases hz:low=0
   ·have hz':((low:Nat):Int)=0:=by omega
    have hk:kE s b=true:=by rw[hsk];simp [hp,hz]
    rw[hk,if_pos rfl]at et;simp only[go_sem,hlt',O1,O2,e1,e2,e3,e4,e5,g1,eq_true g2,eq_true hz',w2];exact⟨(s+1,fz),by rw[et],by dsimp only;omega,by dsimp only;omega⟩
   ·have hz':¬((low:Nat):Int)=0:=by omega
    have hk:kE s b=false:=by rw[hsk];simp [hp,hz]
    rw[hk,if_neg (by simp)]at et
    cases hcv:kB D s with
    | true=>
     rw[hcv]at EN et;rw[if_pos rfl]at et;simp only[go_sem,hlt',O1,O2,e1,e2,e3,e4,e5,g1,eq_true g2,hz',EN,fzE,w2];exact⟨(s+1,max fz E.length),by rw[et],by dsimp only;omega,by dsimp only;omega⟩
    | false=>
     rw[hcv]at EN et;rw[if_neg (by simp)]at et
     simp only[go_sem,hlt',O1,O2,e1,e2,e3,e4,e5,g1,eq_true g2,hz',EN,fzE,w2];exact⟨(s+1,max fz E.length),by rw[et],by dsimp only;omega,by dsimp only;omega⟩
  ·have g1:(0:Int)<((oA 64 s:Nat):Int)-((oA 64 b:Nat):Int):=by omega
   have hk:kE s b=true:=by rw[hsk];simp [hp]
   rw[hk,if_pos rfl]at et;simp only[go_sem,hlt',O1,O2,e1,e2,g1,w2];exact⟨(s+1,fz),by rw[et],by dsimp only;omega,by dsimp only;omega⟩
 ·have es:s=2^lg-1:=by omega
  have hlt':¬(s:Int)<((2^lg-1:Nat):Int):=by omega
  subst es;generalize lB D lg (2^lg-1)=N at *;have hN64:N<18446744073709551616:=by omega
  simp only[go_sem,hlt'];refine FA (fun i:Nat=>⟨[(9,.p (eU N)),(13,.own (h.length+2) (kA i N).length 0 (kA i N).length),(68,AI lg),(69,AI i)],h++[B0,.row none (E.map eU++zz) fz,.row none ((iL (kA i N)).map eI) 0],[]⟩) (fun i=>i≤lg) (fun i=>lg-i) 0 rfl (by omega) ?_
  intro i hi;rw[wD];have w3:IntKind.i64.wrap ((i:Int)+1)=((i+1:Nat):Int):=qA _ (by omega) (by omega)
  have hcl:(kA i N).length≤i:=Nat.le_trans (List.length_filter_le _ _) (by simp)
  have hsc:=ZJ i N
  rcases Nat.lt_or_ge i lg with ilt|ige
  ·have ilt':(i:Int)<(lg:Int):=by omega
   obtain⟨f1,f2⟩:=lT (N:=N) (i:=i) (by omega) hN64
   generalize kA i N=C at *;have cml:((iL C).map eI).length=C.length:=by unfold iL;rw[List.length_map,List.length_map]
   have ms:C.length+1≤DA:=by unfold DA;omega
   cases hb:N.testBit i with
   | true=>
    rw[hb,if_pos rfl]at hsc f2;simp only[go_sem,ilt',f1,f2,cml,ms,w3,splice];refine⟨i+1,?_,by omega,by omega⟩
    rw[hsc];simp [iL]
   | false=>
    rw[hb,if_neg (by simp),List.append_nil]at hsc
    rw[hb,if_neg (by simp)]at f2
    simp only[go_sem,ilt',f1,f2,w3];exact⟨i+1,by rw[hsc],by omega,by omega⟩
  ·have ei:i=lg:=by omega
   have ilt':¬(i:Int)<(lg:Int):=by omega
   subst ei;have cml:((iL (kA i N)).map eI).length=(kA i N).length:=by unfold iL;rw[List.length_map,List.length_map]
   have wf:win ((iL (kA i N)).map eI) 0 (kA i N).length=(iL (kA i N)).map eI:=EB cml
   simp only[go_sem,ilt',cml,wf]
end Go.Am
end
section
/- The fault chapter's vB call. -/
open Go
set_option linter.all false
namespace Go.Am
variable {h:aA} {K:jA}
theorem z8L:uH [[48,49]] [⟨2,[0]⟩] = .tup [EA [[49,49]],AI 0]:=by kernel_rfl
theorem rZ:eA X RK [] h K=K (AB true) h []:=by
 refine tA ?_;rw[z7B rfl];have R:=fun h K=>zgY (h:=h) (K:=K) [[48,49]] ⟨2,[0]⟩ (by simp) (by simp) (by simp)
 rw[z8L]at R;simp only[EA,Flt.pv,List.map_cons,List.map_nil]at R;simp only[oN,go_sem,R]
end Go.Am
end
section
/- VectorsRemoved returns true. -/
open Go
set_option linter.all false
set_option maxRecDepth 100000
namespace Go.Am
variable {h:aA} {K:jA}
theorem qD {f:Nat}{F:AFun}{t:List (List UInt8)}{x:List Flt}{v:AV}(hf:X.fn f=some F)(hr:F.byref=false)(hl:F.nparams=2)(R:∀ h K,eA X f [EA t,MB x] h K=K v h [])(s0:Obj)(fz:Nat)(K:jA) :
 eA X f [EA t,.own 1 x.length 0 x.length] [s0,.row (some 2) (x.map Flt.pv) fz] K=K v [s0,.row (some 2) (x.map Flt.pv) (max fz x.length)] []:=by
 have e:=pG (X:=X) (f:=f) (F:=F) (a:=[EA t,.own 1 x.length 0 x.length]) (vs:=[.sl none (t.map PV.str),.sl (some 2) (x.map Flt.pv)]) (h:=[s0,.row (some 2) (x.map Flt.pv) fz]) (h1:=[s0,.row (some 2) (x.map Flt.pv) (max fz x.length)]) (P:=K) hf hr
  (by
   have:win (x.map Flt.pv) 0 x.length=x.map Flt.pv:=EB (by simp)
   simp [mA,pur,rd,frz,this]) rfl (by simp [hl]) rfl
 rw[e];exact R _ _
set_option maxHeartbeats 4000000 in
theorem law_VR (L:List Int){K:jA}:eA X mO [AL L] [] K=K (AB true) [] []:=by
 refine tA ?_;rw[z7A rfl];have p0:RA 200 0:=by unfold RA;omega
 obtain⟨_,a2,⟨c1,c2,t,ts,rfl⟩,V⟩:=(zdI (L:=L) (a:=0) p0).hd (l:=[]);have hp3:RA 4000 a2:=by unfold RA;omega
 obtain⟨_,a4,⟨e1,e2,x,xl,xs,rfl⟩,V3⟩:=(zdJ (L:=L) (a:=a2) t.length (by have:=ts.1;omega) hp3) [xA L a2] 0 rfl
 have hb:∀s∈t,s.length≤1000000:=fun s hs=>by have:=ts.2 s hs;omega
 have ht:t.length≤1000000:=by have:=ts.1;omega
 have hxl:∀g∈x,g.nets.length≤1000000:=fun g hg=>by have:=(xs g hg).1;omega
 have hxn:x.length≤12:=by omega
 have N1:=fun h K=>zgT (h:=h) (K:=K) t x hb ht hxl (by omega)
 have R1:=fun h K=>zgW (h:=h) (K:=K) t x hb ht hxl (by omega)
 have S1:=fun h K=>zha (h:=h) (K:=K) t x hb ht hxl hxn
 have LF:=fun h K=>zhq (h:=h) (K:=K) t x hb ht hxl (by omega)
 unfold FZ at S1;have xl':(x.map Flt.pv).length=x.length:=List.length_map ..
 have Eq0:=fun h K=>pZ (h:=h) (K:=K) [] [] (by simp)
 have Es0:=fun h K=>z4q (h:=h) (K:=K) [] [] (by simp)
 simp only[AL,EA,List.map_nil]at Eq0 Es0;by_cases h0:yB t x=0
 ·obtain⟨hT,hF⟩:=FM h0
  have T:=qM hT
  obtain⟨lg,hlg⟩:∃n,(t.headD []).length=n:=⟨_,rfl⟩;rw[hlg]at T N1 R1 S1;have N2:=fun h K=>zgU (h:=h) (K:=K) t x lg T hlg hF hxn
  have R2:=fun h K=>zgX (h:=h) (K:=K) t x lg T hlg hF (by omega)
  have S2:=fun h K=>zhb (h:=h) (K:=K) t x lg T hlg hF (by omega)
  rw[h0]at LF;rw[if_neg (by simp [h0])]at N1 R1 S1
  have N1:=qD (f:=CG) NZ rfl rfl N1
  have R1:=qD (f:=DG) OZ rfl rfl R1
  have LF:=qD (f:=KG) PZ rfl rfl LF
  have N2:=qD (f:=PH) z5v rfl rfl N2
  have R2:=qD (f:=QH) z5w rfl rfl R2
  have Eq1:=fun h K=>pZ (h:=h) (K:=K) (iL (kA lg (dC (LA t x)))) (iL (kA lg (dC (LA t x)))) (by
   unfold iL;rw[List.length_map];have:=T.l;have:=(Nat.le_trans (List.length_filter_le _ _) (by simp):(kA lg (dC (LA t x))).length≤lg);omega)
  have Eq2:=fun h K=>pZ (h:=h) (K:=K) (iL (kA lg (lB (LA t x) lg (2^lg-1)))) (iL (kA lg (lB (LA t x) lg (2^lg-1)))) (by
   unfold iL;rw[List.length_map];have:=T.l;have:=(Nat.le_trans (List.length_filter_le _ _) (by simp):(kA lg (lB (LA t x) lg (2^lg-1))).length≤lg);omega)
  have Es1:=fun h K=>z4q (h:=h) (K:=K) (YF t (LA t x) lg) (YF t (LA t x) lg) (by unfold YF;rw[List.length_map];omega)
  generalize iL (kA lg (dC (LA t x)))=W1 at *;generalize YF t (LA t x) lg=W2 at *;generalize iL (kA lg (lB (LA t x) lg (2^lg-1)))=W3 at *;simp only[decide_true]at Eq1 Eq2 Es1 Eq0 Es0;by_cases h14:14<lg
  ·rw[if_pos h14]at S1 S2
   have S1:=qD (f:=FF) mR rfl rfl S1
   have S2:=qD (f:=NG) QZ rfl rfl S2
   simp only[CH,go_sem,V,V3,xl',↓N1,N1,↓R1,R1,↓S1,S1,↓LF,LF,↓N2,N2,↓R2,R2,↓S2,S2,↓Eq1,Eq1,↓Es1,Es1,↓Eq0,Eq0,rZ]
  ·rw[if_neg h14]at S1 S2
   have S1:=qD (f:=FF) mR rfl rfl S1
   have S2:=qD (f:=NG) QZ rfl rfl S2
   simp only[CH,go_sem,V,V3,xl',↓N1,N1,↓R1,R1,↓S1,S1,↓LF,LF,↓N2,N2,↓R2,R2,↓S2,S2,↓Eq1,Eq1,↓Es1,Es1,↓Eq2,Eq2,rZ]
 ·rw[if_pos h0]at N1 R1 S1
  have N1:=qD (f:=CG) NZ rfl rfl N1
  have R1:=qD (f:=DG) OZ rfl rfl R1
  have S1:=qD (f:=FF) mR rfl rfl S1
  have LF:=qD (f:=KG) PZ rfl rfl LF
  simp only[decide_true]at Eq0 Es0;simp only[CH,go_sem,V,V3,xl',↓N1,N1,↓R1,R1,↓S1,S1,↓LF,LF,h0,↓Eq0,Eq0,↓Es0,Es0,rZ]
end Go.Am
end
section
/- From a law that is true here tov the model's calls at what came in. -/
open Go
namespace Go.Am
variable {P:Program}
theorem law_nil {X:Ctx}(HX:Fits P X){f:Nat}{F:AFun}(hF:X.fn f=some F)(H:∀ L:List Int,eA X f [LQ L] [] fun v _ _=>v = .p (.bool true))(W:World)(hG:nE X.gl (imm [] [] W)) :
 Calls P f #[.slice none 0 0] W fun e W'=>e = .returned (.bool true)∧RowKit.Below W.heap.size W W':=by
 refine(z0V HX hF (H []) (W:=W) (vs:=[.slice none 0 0]) hG rfl (fun j y v hy hv=>?_)).mono fun e W' he=>?_
 ·cases j with
  | zero=>cases hy;cases hv;exact z88 W
  | succ j=>cases hy
 ·cases e with
  | returned r=>
   obtain⟨⟨v,h,x,μ,hk,hr⟩,hb⟩:=he;subst hk;exact⟨by rw[hr.p_bool],hb⟩
  | panicked _=>exact he.elim
  | outgrown=>exact he.elim
theorem law_ints {X:Ctx}(HX:Fits P X){f:Nat}{F:AFun}(hF:X.fn f=some F)(H:∀ L:List Int,eA X f [LQ L] [] fun v _ _=>v = .p (.bool true)){W:World}(hG:nE X.gl (imm [] [] W)){a:Addr}{len cap:Nat}{zs:List Int}
 (hl:len≤cap) (hz:len≤zs.length) (hc:∀i,i<zs.length→W.cell? (a.add i)=some (.int .i64 (zs.getD i 0))) :
 Calls P f #[.slice (some a) len cap] W fun e W'=>e = .returned (.bool true)∧RowKit.Below W.heap.size W W':=by
 refine(z0V HX hF (H (zs.take len)) (W:=W) (vs:=[.slice (some a) len cap]) hG rfl (fun j y v hy hv=>?_)).mono fun e W' he=>?_
 ·cases j with
  | zero=>
   cases hy;cases hv
   rcases Nat.eq_zero_or_pos len with h0|h0
   ·subst h0
    exact .p _ _ (.nils _ _ _)
   ·exact z87 (by simpa [Addr.add] using World.cell?_spot (hc 0 (by omega))) hl hz hc
  | succ j=>cases hy
 ·cases e with
  | returned r=>
   obtain⟨⟨v,h,x,μ,hk,hr⟩,hb⟩:=he;subst hk;exact⟨by rw[hr.p_bool],hb⟩
  | panicked _=>exact he.elim
  | outgrown=>exact he.elim
end Go.Am
namespace Go.ChangeShapes
open Go.RowKit Go.WideShapes
end Go.ChangeShapes
end
section
/- The abstract machine,part L2: the kit's contracts asv rows. -/
set_option linter.unusedSimpArgs false
set_option linter.unusedVariables false
namespace Go.Am
variable {P:Program} {gl:Nat→Option PV}
open Go.Shelf
end Go.Am
end
section
/- The abstract machine,part L4: strings.Repeat,strings.Trim,math/bits.TrailingZeros64 asv rows. -/
set_option linter.all false
namespace Go.Am
variable {P:Program} {gl:Nat→Option PV}
open Go.Shelf
theorem z0B {w w':World}(h:Go.RowKit.Below w.heap.size w w'):WExt w w':=⟨h.size,fun b hb=>h.block b hb,by unfold zed;rw[h.os,h.tape,h.output]⟩
theorem z2Z (s:List UInt8):∀c,Go.Lib.repeatL s c=rD s c
 | 0=>rfl
 | c+1=>by rw[Go.Lib.repeatL,rD,z2Z s c]
theorem zjW {ρ:Ren}(L:Go.Proofs.Lays.n105 P ρ)(E:Go.Proofs.Builder.Extra P ρ)(he:∀ us w,(callFunc (ρ.f 105) us).run P w = .ok (.enter (ρ.f 105) us) w):PureRow P gl (ρ.f 105) mM where
 enter:=he
 run M w vs r us hc hb hG hl hr hs:=by
  unfold mM at hs;split at hs
  ·rename_i s c
   split at hs
   ·rename_i hbd
    match us,hl with
    | [u,v],_=>
     have q:=hr 0 _ u rfl rfl
     cases q;have q2:=hr 1 _ v rfl rfl
     cases q2;simp only[Option.some.injEq]at hs
     subst hs;obtain⟨n,rfl⟩:=Int.eq_ofNat_of_zero_le hbd.1;have hsz:(⟨s.toArray⟩:ByteArray).size=s.length:=by simp [ByteArray.size]
     simp only[Int.toNat_natCast]at hbd ⊢;refine(Go.Proofs.Any.strings_Repeat L E ⟨s.toArray⟩ n w (by omega) (by rw[hsz];omega)).mono fun e w' h=>?_
     obtain⟨rfl,h⟩:=h;exact⟨_,rfl,z0B h,by rw[z2Z];exact .p _ _ (.str _)⟩
   ·cases hs
  ·cases hs
theorem zf3 (s cs:List UInt8):Go.Lib.trimS s cs=tM s cs:=rfl
theorem trimRow {ρ:Ren}(L:Go.Proofs.Lays.n160 P ρ)(h116:(P.info? (ρ.t 116)).map (fun i=>(i.zero,i.size))=some (some (.agg (Array.replicate 256 (.bool false))),256))(he:∀ us w,(callFunc (ρ.f 160) us).run P w = .ok (.enter (ρ.f 160) us) w):PureRow P gl (ρ.f 160) trimS where
 enter:=he
 run M w vs r us hc hb hG hl hr hs:=by
  unfold trimS at hs;split at hs
  ·rename_i s cs
   split at hs
   ·rename_i hbd
    match us,hl with
    | [u,v],_=>
     have q:=hr 0 _ u rfl rfl
     cases q;have q2:=hr 1 _ v rfl rfl
     cases q2;simp only[Option.some.injEq]at hs
     subst hs;have hsz:∀l:List UInt8,(⟨l.toArray⟩:ByteArray).size=l.length:=fun l=>by simp [ByteArray.size]
     refine(Go.Proofs.Any.strings_Trim_laid L h116 ⟨s.toArray⟩ ⟨cs.toArray⟩ w (by rw[hsz];omega) (by rw[hsz];omega) (Go.Proofs.ascii_of_all hbd.2.2)).mono fun e w' h=>?_
     obtain⟨rfl,h⟩:=h;exact⟨_,rfl,z0B h,by rw[←zf3];exact .p _ _ (.str _)⟩
   ·cases hs
  ·cases hs
end Go.Am
end
