/- Texts of the proof, laid together: SpGenE9, SpGenE10, SpGenE11, SpBrq5, SpRgtB, SpGenB, SpPath, SpReady, SpKeep, SpDelR, SpDelT, SpBrd14, SpBrd16, SpBrq6, SpLawCS, Bridge, AmL2. -/
import Derived.KernelRfl
import Derived.ProofKit
import Derived.Shelf.Strconv.Itoa3
import Derived.Lib.LaidTab
import Derived.Test.YtddfpebjibeclaaGreatDoorlawCS9
set_option linter.all false
section
/- What is drawn: how many pins there are,and the board that is handed back. -/
open Go
set_option linter.all false
set_option maxRecDepth 100000
namespace Go.Am
variable {h:bA} {K:mA} {L:List Int}
attribute [-go_sem] YA bB EB BB
theorem z7n {α:Type}[DecidableEq α]:∀(l s:List α),l.Nodup→(∀x∈l,x∈s)→l.length≤s.length
 | [],s,_,_=>Nat.zero_le _
 | x::r,s,hd,hs=>by
  rw[List.nodup_cons]at hd;have hx:=hs x (by simp)
  have ih:=z7n r (s.erase x) hd.2 fun y hy=>(List.mem_erase_of_ne fun e=>hd.1 (by rw[←e];exact hy)).2 (hs y (by simp [hy]))
  rw[List.length_erase_of_mem hx]at ih;have:0<s.length:=List.length_pos_of_mem hx
  rw[List.length_cons];omega
def vY:List (Nm2 × Nm2):=gG.flatMap fun k=>[(k,YD 0),(k,YD 1),(k,YD 2),(k,YD 3)]
def dJ (P:List (Nm2 × Nm2)):Prop:=P.Nodup∧∀x∈P,x∈vY
theorem zef {key:Nm2}(hk:key∈gG){P:List (Nm2 × Nm2)}{c:Cel}(hc:lC c)(I:dJ P):dJ (iC key P c):=by
 unfold iC;by_cases h1:c.pin=[]
 ·rw[if_pos h1];exact I
 ·rw[if_neg h1]
  by_cases h2:(key,c.pin)∈P
  ·rw[if_pos h2];exact I
  ·rw[if_neg h2]
   refine⟨?_,fun x hx=>?_⟩
   ·rw[List.nodup_append]
    refine⟨I.1,by simp,fun a ha b hb=>?_⟩
    rw[List.mem_singleton]at hb;subst hb;intro e;subst e;exact h2 ha
   ·rcases List.mem_append.1 hx with q|q
    ·exact I.2 x q
    ·rw[List.mem_singleton]at q
     subst q;rcases hc with z|⟨i,hi,z⟩
     ·exact absurd z h1
     ·unfold vY
      rw[List.mem_flatMap];refine⟨key,hk,?_⟩;rw[z];have:i=0∨i=1∨i=2∨i=3:=by omega
      rcases this with e|e|e|e <;> subst e <;> simp
theorem z1t {key:Nm2}(hk:key∈gG):∀{l:List Cel} {P:List (Nm2×Nm2)},(∀c∈l,lC c)→dJ P→dJ (l.foldl (iC key) P)
 | [],_,_,I=>I
 | c::r,P,hc,I=>z1t hk (l:=r) (fun d hd=>hc d (by simp [hd])) (zef hk (hc c (by simp)) I)
theorem zpC {M:List (Nat × Prt)}(D:PartsD M 3):(rE M).length≤12:=by
 have key:∀(N:List (Nat×Prt)) (P:List (Nm2×Nm2)),(∀e∈N,e∈M)→dJ P→dJ (N.foldl (fun Q e=>e.2.cells.foldl (iC e.2.key) Q) P):=by
  intro N;induction N with
  | nil=>intro P _ I;exact I
  | cons e r ih=>
   intro P hN I;have he:=hN e (by simp)
   refine ih _ (fun x hx=>hN x (by simp [hx])) (z1t ?_ (D.c e he).2 I)
   have:=D.k.subset (List.mem_map.2 ⟨e,he,rfl⟩);exact this
 have:=key M [] (fun e he=>he) ⟨List.nodup_nil,fun x hx=>(by cases hx)⟩
 exact z7n _ vY this.1 this.2
def QM:List (Nat × Prt)→List PV
 | []=>[]
 | e::r=>.str e.2.key :: .sl (some 4) (e.2.cells.map Cel.pv)::QM r
theorem z7F {b:Nat}{H:bA}:∀(M:List (Nat×Prt)),(∀e∈M,b≤e.1∧H[e.1]?=some (.row (some 4) (e.2.cells.map Cel.pv) 0))→JH b H (IB M)=some (QM M)
 | [],_=>rfl
 | e::r,hM=>by
  obtain⟨h1,h2⟩:=hM e (by simp)
  have ih:=z7F r fun x hx=>hM x (by simp [hx])
  have w:win (e.2.cells.map Cel.pv) 0 e.2.cells.length=e.2.cells.map Cel.pv:=HF (by simp)
  have k:rd0 b H (.own e.1 e.2.cells.length 0 e.2.cells.length)=some (.sl (some 4) (e.2.cells.map Cel.pv)):=by
   simp only[rd0,h1,if_true,rd,h2];simp [w]
  show(match rd0 b H (AS e.2.key) with|some x=>(JH b H (.own e.1 e.2.cells.length 0 e.2.cells.length::IB r)).map (x :: ·)|none=>none)=_
  show((match rd0 b H (.own e.1 e.2.cells.length 0 e.2.cells.length) with|some x=>(JH b H (IB r)).map (x :: ·)|none=>none)).map (PV.str e.2.key :: ·)=_
  rw[k];dsimp only;rw[ih];rfl
theorem z2n:∀ (M:List (Nat × Prt)),zE 2 M.length (QM M)=M.map fun e=>e.2.pv
 | []=>rfl
 | e::r=>by
  show PV.agg [.str e.2.key,.sl (some 4) (e.2.cells.map Cel.pv)]::zE 2 r.length (QM r)=_
  rw[z2n r];rfl
def ZG (M:List (Nat × Prt))(jl:List Jon)(pl:List Pul):Brd:=⟨M.map fun e=>e.2,jl,pl⟩
theorem zqa {b:Nat}{P:mA}{H:bA}{E:Esc}{M:List (Nat × Prt)}{jl:List Jon}{pl:List Pul}(hE:∀ y∈E,b≤y.1)(h4:H[b+4]?=some (.arow (some 2) (IB M)))(hr:∀ e∈M,b≤e.1∧H[e.1]?=some (.row (some 4) (e.2.cells.map Cel.pv) 0))(h5:H[b+5]?=some (.row (some 3) (jl.map Jon.pv) 0))(h6:H[b+6]?=some (.row (some 2) (pl.map Pul.pv) 0)) :
 LC false b P (some [.agg [.bt 3 3 (b+4) M.length,.own (b+5) jl.length 0 jl.length,.own (b+6) pl.length 0 pl.length]]) H E=P (.p (ZG M jl pl).pv) (H.take b) []:=by
 have w5:win (jl.map Jon.pv) 0 jl.length=jl.map Jon.pv:=HF (by simp)
 have w6:win (pl.map Pul.pv) 0 pl.length=pl.map Pul.pv:=HF (by simp)
 have r5:VA b H (.own (b+5) jl.length 0 jl.length)=some (.p (.sl (some 3) (jl.map Jon.pv))):=by
  simp only[VA,show b≤b+5 by omega,if_true,rd,h5]
  simp [w5]
 have r6:VA b H (.own (b+6) pl.length 0 pl.length)=some (.p (.sl (some 2) (pl.map Pul.pv))):=by
  simp only[VA,show b≤b+6 by omega,if_true,rd,h6]
  simp [w6]
 have r4:VA b H (.bt 3 3 (b+4) M.length)=some (.p (.sl (some 2) (M.map fun e=>e.2.pv))):=by
  have hb:(Nat.beq 3 3&&decide (b≤b+4))=true:=by simp
  simp only[VA,hb,cond_true,rdA,h4];rw[if_pos (by rw[oJ];rfl),z7F M hr]
  show some (AV.p (.sl (some 2) (zE 2 M.length (QM M))))=_
  rw[z2n]
 have e:VA b H (kB [.agg [.bt 3 3 (b+4) M.length,.own (b+5) jl.length 0 jl.length,.own (b+6) pl.length 0 pl.length]])=some (.p (ZG M jl pl).pv):=by
  show(ZD b H [.bt 3 3 (b+4) M.length,.own (b+5) jl.length 0 jl.length,.own (b+6) pl.length 0 pl.length]).map mkA=_
  simp only[ZD,r4,r5,r6,Option.map_some];show some (AV.p (PV.agg [.sl (some 2) (M.map fun e=>e.2.pv),.sl (some 3) (jl.map Jon.pv),.sl (some 2) (pl.map Pul.pv)]))=_
  unfold ZG Brd.pv;rw[List.map_map];rfl
 have hc:=z2v hE E.length
 unfold LC;dsimp only;rw[e];dsimp only;rw[show(AV.p (ZG M jl pl).pv).top=0 from rfl,Nat.max_eq_left (Nat.zero_le _),hc]
 have hcl:WB E b=true:=by
  unfold WB;rw[List.all_eq_true];intro y hy;simp [hE y hy]
 have hf:E.filter (fun y=>decide (y.1<b))=[]:=by
  rw[List.filter_eq_nil_iff];intro y hy;have:=hE y hy;simp;omega
 rw[if_pos hcl,e,hf];dsimp only;rw[show(AV.p (ZG M jl pl).pv).top=0 from rfl]
 simp
end Go.Am
end
section
/- What is drawn: a board. -/
open Go
set_option linter.all false
set_option maxRecDepth 100000
namespace Go.Am
variable {h:bA} {K:mA} {L:List Int}
attribute [-go_sem] YA bB EB BB
attribute [-go_sem] DQ sM FQ fI GQ yJ HQ zJ IQ AJ
theorem bh_s3 {B g:Nat}{cs:List AV}{jr pr o:Obj}{J P:AV}{R:bA}:(BH B cs g jr pr J P R).set 3 o = .arow (some 2) [] :: .row (some 3) [] 0 :: .row (some 2) [] 0::o :: .arow (some 2) cs::jr::pr :: .box [.bt 3 3 (B+4) g,J,P]::R:=rfl
theorem bh_3 {B g:Nat}{cs:List AV}{jr pr:Obj}{J P:AV}{R:bA}:(BH B cs g jr pr J P R)[3]?=some (.box [.bt 3 3 B 0,.own (B+1) 0 0 0,.own (B+2) 0 0 0]):=rfl
theorem z8a {P:mA}{id:Nat}{a:Int}{M:List (Nat × Prt)}{jl:List Jon}{pl:List Pul}{R:bA}{E:Esc}(hM:MI (h.length+8) R M)(hE:∀ y∈E,y.1=h.length+4)(env:List (Nat × AV))(e2:aA env 2 = .ref (h.length+3) 0)(e3:aA env 3 = .ref (h.length+7) 0)
 (fin:P (.p (ZG M jl pl).pv) (h.set id (DA L a)) []) :
 NW (jA X) X.gl FR ⟨env,h.set id (DA L a)++BHJ h.length M jl pl R,E⟩ (xA [.cell 2 (some 3)] false h.length P):=by
 rw[DQ];have eE:TB (h.length+3) (AV.agg [.bt 3 3 (h.length+4) M.length,.own (h.length+5) jl.length 0 jl.length,.own (h.length+6) pl.length 0 pl.length])=[(h.length+3,h.length+7)]:=by
  simp [TB,AV.top,AV.tops]
 simp only[sM,e2,e3,go_sem,PD,bh_3,bh_s3];rw[eE,zqa (M:=M) (jl:=jl) (pl:=pl) (fun y hy=>?_) (by rw[oG];rfl) (fun e he=>?_) (by rw[oG];rfl) (by rw[oG];rfl)]
 ·rw[z8w];exact fin
 ·rcases List.mem_cons.1 hy with q|q
  ·subst q;exact Nat.le_add_right ..
  ·have:=hE y q;omega
 ·obtain⟨n,e1,e2⟩:=hM.rw e he
  refine⟨by omega,?_⟩
  rw[e1,show h.length+8+n=h.length+(n+8) by omega,oG]
  exact e2
structure BrdE (b:Brd):Prop where
 p:b.parts.length≤3
 e:∀p∈b.parts,p.key.length≤10∧p.cells.length≤7∧∀c∈p.cells,c.pin.length≤10
 j:b.joins.length≤12
 n:∀j∈b.joins,j.net.length≤10
 l:b.pulls.length≤12
theorem z1I {M:List (Nat × Prt)}{jl:List Jon}{pl:List Pul}(hE:PartsE M)(hJ:IE jl)(h1:jl.length≤12)(h2:pl.length≤12):BrdE (ZG M jl pl):=by
 refine⟨by simpa [ZG] using hE.n,fun p hp=>?_,h1,hJ,h2⟩
 obtain⟨e,he,rfl⟩:=List.mem_map.1 hp;exact hE.e e he
abbrev EndQ (h:bA)(id:Nat)(L:List Int)(a:Int):mA:=fun v1 h1 x1=>∃a2,(∃b,BrdE b∧v1 = .p b.pv∧a≤a2∧a2≤a+400)∧h1=h.set id (DA L a2)∧x1=[]
theorem zqj {id:Nat}(hid:id<h.length){a0 a:Int}(hp:sA 1100 a)(ha:a0≤a)(ha2:a≤a0+300){M:List (Nat × Prt)}{jl:List Jon}{pl:List Pul}{R:bA}{E:Esc}(hM:MI (h.length+8) R M)(hE:∀ y∈E,y.1=h.length+4)(hP:PartsE M)(hJ:IE jl)(h1:jl.length≤12)(h2:pl.length≤12)
 (env:List (Nat×AV)) (e0:aA env 0 = .ref id 0) (e2:aA env 2 = .ref (h.length+3) 0) (e3:aA env 3 = .ref (h.length+7) 0) :
 NW (jA X) X.gl GR ⟨env,h.set id (DA L a)++BHJ h.length M jl pl R,E⟩ (xA [.cell 2 (some 3)] false h.length (EndQ h id L a0)):=by
 rw[FQ];have p0:sA 0 a:=by unfold sA at *;omega
 by_cases f:EA L a 8=0
 ·have f':=eq_true f
  obtain⟨M',jl',pl',R',a2,⟨q1,q2,q3,q4,q5,q6,q7,q8,q9⟩,SP⟩:=zrk (L:=L) (h:=h) (id:=id) hid (a:=a+1) (by unfold sA at *;omega) hM hP hJ (by omega) (pl:=pl) (by omega)
  simp only[fI,e0,e2,e3,go_sem,hid,p0,f',↓SP,SP];exact z8a q1 hE _ rfl rfl ⟨a2,⟨_,z1I q3 q4 (by omega) (by omega),rfl,by omega,by omega⟩,rfl,rfl⟩
 ·simp only[fI,e0,e2,e3,go_sem,hid,p0,f]
  exact z8a hM hE _ rfl rfl ⟨a+1,⟨_,z1I hP hJ h1 h2,rfl,by omega,by omega⟩,rfl,rfl⟩
theorem zqk {id:Nat}(hid:id<h.length){a0 a:Int}(hp:sA 2000 a)(ha:a0≤a)(ha2:a≤a0+200){M:List (Nat × Prt)}{jl:List Jon}{R:bA}{E:Esc}(hM:MI (h.length+8) R M)(hE:∀ y∈E,y.1=h.length+4)(hP:PartsE M)(hJ:IE jl)(h1:jl.length≤12)
 (env:List (Nat×AV)) (e0:aA env 0 = .ref id 0) (e2:aA env 2 = .ref (h.length+3) 0) (e3:aA env 3 = .ref (h.length+7) 0) :
 NW (jA X) X.gl HR ⟨env,h.set id (DA L a)++BHJ h.length M jl [] R,E⟩ (xA [.cell 2 (some 3)] false h.length (EndQ h id L a0)):=by
 rw[GQ];have js:=zmb jl
 have jlen:(UB (ltO zB) jl).length=jl.length:=zlS ..
 have SJ:=fun K=>zqD (K:=K) (h:=h.set id (DA L a)++BHJ h.length M jl [] R) (h.length+5) jl h1 (by rw[oG];rfl)
 rw[XY,BHJ,uU]at SJ;rw[BHJ];simp only[List.map_nil,List.length_nil]at SJ ⊢;have hJ2:IE (UB (ltO zB) jl):=fun j hj=>hJ j (zlT.1 hj)
 generalize UB (ltO zB) jl=js2 at *;generalize jl.length=n at *;subst jlen;obtain⟨xs,x1,x2,x3,x4,NN⟩:=zq8 (h:=h.set id (DA L a)++BHJ h.length M js2 [] R) js2 (jid:=h.length+5) (pid:=h.length+4) (g:=M.length) (t:=3) (qid:=h.length+6) (m:=0) (by rw[oG];rfl) (by omega) js
 simp only[List.length_append,List.length_set,ZE,List.append_assoc,iJ,BHJ,List.map_nil,List.length_nil]at NN;rw[show h.length+(R.length+8)+1=h.length+((R.length+1)+8) by omega]at NN
 simp only[yJ,e0,e2,e3,go_sem,PD,↓SJ,SJ,↓NN,NN];rw[←x1];refine zqi (K:=wA 8 _) hid (a0:=a) (by unfold sA at *;omega) (n:=R.length+1) (xs:=xs) (N:=AK js2) (by simp [AV.top]) (by omega) (by omega) x2 (by rw[List.getElem?_append_right (by omega)];simp) fun l a3 z l1 l2 l3=>?_
 simp only[go_sem];rw[x1];refine zqj hid (by unfold sA at *;omega) (by omega) (by omega) hM.app hE hP hJ2 (by omega) (by omega) _ rfl rfl rfl
end Go.Am
end
section
/- What is drawn: a board,whole. -/
open Go
set_option linter.all false
set_option maxRecDepth 100000
namespace Go.Am
variable {h:bA} {K:mA} {L:List Int}
attribute [-go_sem] YA bB EB BB
attribute [-go_sem] DQ sM FQ fI GQ yJ HQ zJ IQ AJ
theorem PartsD.toE {M:List (Nat × Prt)}(D:PartsD M 3):PartsE M:=by
 refine⟨D.len,fun e he=>⟨?_,(D.c e he).1,fun c hc=>?_⟩⟩
 ·have:=D.k.subset (List.mem_map.2 ⟨e,he,rfl⟩)
  simp [gG]at this;rcases this with q|q|q <;> rw[q] <;> simp
 ·rcases(D.c e he).2 c hc with q|⟨i,_,q⟩
  ·rw[q];simp
  ·rw[q];simp [YD]
theorem qO.toE {l:List Jon}(D:qO l):IE l:=fun j hj=>by
 have:=D j hj;simp [BK]at this;rcases this with q|q|q <;> rw[q] <;> simp
theorem zql {id:Nat}(hid:id<h.length){a0 a:Int}(hp:sA 3000 a)(ha:a0≤a)(ha2:a≤a0+120){M:List (Nat × Prt)}{Q:List (Nm2 × Nm2)}{R:bA}{E:Esc}(hM:MI (h.length+8) R M)(hE:∀ y∈E,y.1=h.length+4)(hP:PartsE M)(hQ:Q.length≤12)
 (env:List (Nat×AV)) (e0:aA env 0 = .ref id 0) (e2:aA env 2 = .ref (h.length+3) 0) (e3:aA env 3 = .ref (h.length+7) 0) (e6:aA env 6 = .own (h.length+(R.length+8)) Q.length 0 Q.length) :
 NW (jA X) X.gl IR ⟨env,h.set id (DA L a)++BHJ h.length M [] [] (R++[.row (some 2) (Q.map prV) 0]),E⟩ (xA [.cell 2 (some 3)] false h.length (EndQ h id L a0)):=by
 rw[HQ];simp only[zJ,e0,e2,e3,e6,go_sem];refine zqq (K:=wA 6 _) hid (a0:=a) (by unfold sA at *;omega) (n:=R.length) (by simp [AV.top]) (by omega) (by simp) fun l a3 z l1 lD l2 l3=>?_
 simp only[go_sem];exact zqk hid (by unfold sA at *;omega) (by omega) (by omega) hM.app hE hP lD.toE (by omega) _ rfl rfl rfl
theorem zqm {id:Nat}(hid:id<h.length){a0 a:Int}(hp:sA 3000 a)(ha:a0≤a)(ha2:a≤a0+120){M:List (Nat × Prt)}{R:bA}{E:Esc}(hM:MI (h.length+8) R M)(hE:∀ y∈E,y.1=h.length+4)(hD:PartsD M 3)
 (env:List (Nat×AV)) (e0:aA env 0 = .ref id 0) (e2:aA env 2 = .ref (h.length+3) 0) (e3:aA env 3 = .ref (h.length+7) 0) :
 NW (jA X) X.gl yN ⟨env,h.set id (DA L a)++BHJ h.length M [] [] R,E⟩ (xA [.cell 2 (some 3)] false h.length (EndQ h id L a0)):=by
 rw[IQ];have bl:=fun(cs:List AV) (g:Nat) (jr pr:Obj) (J P:AV)=>ZE (B:=h.length) (cs:=cs) (g:=g) (jr:=jr) (pr:=pr) (J:=J) (P:=P) (R:=R)
 have gl:(h.set id (DA L a)++BHJ h.length M [] [] R).length=h.length+(R.length+8):=by rw[List.length_append,List.length_set,BHJ,ZE]
 have k6:=fun(K:Ex→St→Prop)=>zqp (K:=K) (E:=E) (G:=h.set id (DA L a)++BHJ h.length M [] [] R) (v0:=.ref id 0) (v2:=.ref (h.length+3) 0) (v3:=.ref (h.length+7) 0) (B:=h.length+4) (M:=M) (by rw[gl];simp [AV.top];omega) (by rw[gl];simp [AV.top];omega) (by rw[gl];simp [AV.top];omega) hD.len (fun e he=>(hD.c e he).1) (by rw[oG];rfl) (fun e he=>by
  obtain⟨n,e1,e2⟩:=hM.rw e he;rw[e1,show h.length+8+n=h.length+(n+8) by omega,oG]
  exact e2)
 rw[gl]at k6;have q12:=zpC hD
 simp only[AJ,e0,e2,e3,go_sem,bl,iJ,PD];simp only[BHJ,iJ,List.append_assoc,List.map_nil,List.length_nil]at k6;refine k6 (wA 2 _) fun z=>?_
 simp only[go_sem];exact zql hid hp ha ha2 hM hE hD.toE q12 _ rfl rfl rfl rfl
theorem zlu {a:Int}(hp:sA 10000 a):HE QJ [] L a fun v a2=>∃b,BrdE b∧v = .p b.pv∧a≤a2∧a2≤a+400:=by
 refine HE.of fun h id hid=>?_
 rw[zf5 rfl];simp only[VP,go_sem];simp only[show h.length+4+3=h.length+7 by omega,show h.length+4+1=h.length+5 by omega,show h.length+4+2=h.length+6 by omega]
 refine zqn (K:=wA 0 _) hid (a0:=a) hp (J:=.own (h.length+5) 0 0 0) (P:=.own (h.length+6) 0 0 0) (jr:=.row (some 3) [] 0) (pr:=.row (some 2) [] 0) fun M R X a2 z hM hD hX h1 h2=>?_
 simp only[go_sem];exact zqm hid (by unfold sA at *;omega) h1 h2 hM hX hD _ rfl rfl rfl
theorem z1J {b:Brd}(E:BrdE b):BrdOk b:=by
 refine⟨⟨by have:=E.p;omega,fun p hp=>⟨by have:=(E.e p hp).2.1;omega,fun c hc=>by have:=(E.e p hp).2.2 c hc;omega⟩⟩,⟨E.j,fun j hj=>by have:=E.n j hj;omega⟩,by have:=E.l;omega,fun p hp=>by have:=(E.e p hp).1;omega⟩
end Go.Am
end
section
/- The reference: a board's fault,the joins' order. -/
open Go
set_option linter.all false
set_option maxRecDepth 100000
namespace Go.Am
variable {h:bA} {K:mA}
attribute [-go_sem] YA bB EB BB
attribute [-go_sem] EJ fH FJ gH GJ iH
theorem zqv {K:Ex→St→Prop}(b:Brd)(ho:BrdOk b)(hq:∀ p∈b.parts,∀ c∈p.cells,KD c=aC c)(env:List (Nat × AV))(b1:aA env 1 = .ref h.length 0)(v:Int)
 (hv:(if DE b≠0 then DE b else if(100:Int)<(tA b).length then 2 else xF (tA b) none b.pulls)=v)
 (fin:∀H,K .ret ⟨[(2,AI v)],h++H,[]⟩) :
 NW (jA X) X.gl DN ⟨env,h++[qA b],[]⟩ K:=by
 rw[GJ];have ln:(b.joins.map Jon.pv).length=b.joins.length:=List.length_map ..
 have hj:=ho.j
 have hl:=hj.l
 have h1000:¬(1000:Int)<b.joins.length:=by omega
 unfold DE at hv;simp only[if_neg h1000]at hv;unfold qA;simp only[iH,b1,go_sem,ln,h1000];refine UA (fun k:Nat=>⟨[(1,.ref h.length 0),(48,.p (.sl (some 3) (b.joins.map Jon.pv))),(49,AI b.joins.length),(50,AI k)],h++[qA b],[]⟩) (fun k=>k≤b.joins.length∧zD b (b.joins.take k).getLast? (b.joins.drop k)=zD b none b.joins) (fun k=>b.joins.length-k) 0 rfl ⟨by omega,rfl⟩ ?_
 rintro k ⟨hk,hp⟩
 have cT:∀A B:Prop,nA (AB true) A B=A:=fun _ _=>rfl
 have cF:∀A B:Prop,nA (AB false) A B=B:=fun _ _=>rfl
 have eT:oUn .not (AB false)=some (AB true):=rfl
 have eF:oUn .not (AB true)=some (AB false):=rfl
 have stop:∀z,z≠0→z=zD b none b.joins→v=z:=fun z hz e=>by
  subst e;rw[←hv];simp only[hz,ne_eq,not_false_eq_true,if_true]
 rcases Nat.lt_or_ge k b.joins.length with hlt|hge
 ·have g:=ZA Jon.pv hlt
  have c1:QA (some 3) 0 b.joins[k].pv=some b.joins[k].pv:=rfl
  have w2:IntKind.i64.wrap ((k:Int)+1)=((k+1:Nat):Int):=JA _ (by omega) (by omega)
  rw[List.drop_eq_getElem_cons hlt,QW]at hp;have lg:(b.joins.take (k+1)).getLast?=some b.joins[k]:=by rw[iG (by omega),List.getElem?_eq_getElem hlt]
  have hx:=hj.n _ (List.getElem_mem hlt)
  have KY:=fun h K=>UY (h:=h) (K:=K) b.joins[k].net (by omega)
  have PN:=fun h K=>zqX (h:=h) (K:=K) b b.joins[k].part b.joins[k].pin hq ho.c
  have BN:=fun(y:Jon) h K=>z8f (h:=h) (K:=K) y b.joins[k]
  generalize hxx:b.joins[k]=x at *;simp only[Jon.pv]at g c1;simp only[Brd.pv]at PN;unfold qA;have el:eA .lss (.p (.int .i64 (k:Int))) (.p (.int .i64 (b.joins.length:Int)))=some (AB true):=by simp only[go_sem,hlt]
  cases hkey:PB x.net with
  | false=>
   rw[hkey,if_pos rfl]at hp;rw[hkey]at KY;have:=stop 5 (by omega) hp
   subst this;cases k with
   | zero=>
    have ez:eA .gtr (.p (.int .i64 0)) (.p (.int .i64 0))=some (AB false):=rfl
    have hlt0:(0:Int)<b.joins.length:=by omega
    have el0:eA .lss (.p (.int .i64 0)) (.p (.int .i64 (b.joins.length:Int)))=some (AB true):=el
    simp only[go_sem,↓el,↓el0,show((0:Nat):Int)=0 from rfl,hlt,g,c1,↓KY,KY,↓eT,↓eF,↓cT,↓cF,↓ez,ez,Int.lt_irrefl,hlt0]
    exact fin _
   | succ m=>
    have ez:eA .gtr (.p (.int .i64 ((m+1:Nat):Int))) (.p (.int .i64 0))=some (AB true):=by simp only[go_sem,show(0:Int)<((m+1:Nat):Int) by omega]
    simp only[go_sem,↓el,hlt,g,c1,↓KY,KY,↓eT,↓eF,↓cT,↓cF,↓ez,ez,show(0:Int)<((m+1:Nat):Int) by omega]
    exact fin _
  | true=>
   rw[hkey,if_neg (by simp)]at hp
   rw[hkey]at KY;cases hpin:NG b x.part x.pin with
   | false=>
    rw[hpin,if_pos rfl]at hp;rw[hpin]at PN;have:=stop 8 (by omega) hp
    subst this;cases k with
    | zero=>
     have ez:eA .gtr (.p (.int .i64 0)) (.p (.int .i64 0))=some (AB false):=rfl
     have hlt0:(0:Int)<b.joins.length:=by omega
     have el0:eA .lss (.p (.int .i64 0)) (.p (.int .i64 (b.joins.length:Int)))=some (AB true):=el
     simp only[go_sem,↓el,↓el0,show((0:Nat):Int)=0 from rfl,hlt,g,c1,↓KY,KY,↓eT,↓eF,↓cT,↓cF,↓ez,ez,Int.lt_irrefl,hlt0,↓PN,PN]
     exact fin _
    | succ m=>
     have ez:eA .gtr (.p (.int .i64 ((m+1:Nat):Int))) (.p (.int .i64 0))=some (AB true):=by simp only[go_sem,show(0:Int)<((m+1:Nat):Int) by omega]
     simp only[go_sem,↓el,hlt,g,c1,↓KY,KY,↓eT,↓eF,↓cT,↓cF,↓ez,ez,show(0:Int)<((m+1:Nat):Int) by omega,↓PN,PN]
     exact fin _
   | true=>
    rw[hpin,if_neg (by simp)]at hp
    rw[hpin]at PN;cases k with
    | zero=>
     rw[List.take_zero,List.getLast?_nil,if_neg (by simp)]at hp
     have hlt0:(0:Int)<b.joins.length:=by omega
     have ez:eA .gtr (.p (.int .i64 0)) (.p (.int .i64 0))=some (AB false):=rfl
     have el0:eA .lss (.p (.int .i64 0)) (.p (.int .i64 (b.joins.length:Int)))=some (AB true):=el
     simp only[go_sem,↓el,↓el0,show((0:Nat):Int)=0 from rfl,hlt,hlt0,↓ez,ez,g,c1,↓KY,KY,↓eT,↓eF,↓cT,↓cF,↓PN,PN,Int.lt_irrefl,show((0:Nat):Int)=0 from rfl,show IntKind.i64.wrap 1=1 from rfl]
     refine⟨1,rfl,⟨by omega,?_⟩,by omega⟩
     rw[lg];exact hp
    | succ m=>
     have hm:m<b.joins.length:=by omega
     have gm:=ZA Jon.pv hm
     have cm:QA (some 3) 0 b.joins[m].pv=some b.joins[m].pv:=rfl
     have wm:IntKind.i64.wrap (((m+1:Nat):Int)-1)=(m:Int):=by rw[JA _ (by omega) (by omega)];omega
     have p1:(0:Int)<((m+1:Nat):Int):=by omega
     have ez:eA .gtr (.p (.int .i64 ((m+1:Nat):Int))) (.p (.int .i64 0))=some (AB true):=by simp only[go_sem,p1]
     rw[iG (by omega),List.getElem?_eq_getElem hm]at hp
     generalize b.joins[m]=y at *;have BN':=BN y
     have c0:QA none 0 y.pv=some (.str y.net):=rfl
     have c01:QA none 1 y.pv=some (.str y.part):=rfl
     have c02:QA none 2 y.pv=some (.str y.pin):=rfl
     simp only[Jon.pv]at gm cm c0 c01 c02;have jn:=zlW x y
     by_cases hc:zB x y≤0
     ·rw[if_pos (by simp [hc])]at hp
      have hc2:(0≤zB y x)=True:=eq_true (jn.1 hc)
      have:=stop 7 (by omega) hp
      subst this;simp only[go_sem,↓el,hlt,g,c1,↓KY,KY,↓eT,↓eF,↓cT,↓cF,↓PN,PN,↓ez,ez,show(0:Int)<((m+1:Nat):Int) by omega,p1,wm,hm,gm,cm,c0,c01,c02,↓BN',BN',hc2]
      exact fin _
     ·rw[if_neg (by simp [hc])]at hp
      have hc2:(0≤zB y x)=False:=eq_false (fun z=>hc (jn.2 z))
      simp only[go_sem,↓el,hlt,g,c1,↓KY,KY,↓eT,↓eF,↓cT,↓cF,↓PN,PN,↓ez,ez,show(0:Int)<((m+1:Nat):Int) by omega,p1,wm,hm,gm,cm,c0,c01,c02,↓BN',BN',hc2,w2]
      refine⟨m+1+1,rfl,⟨by omega,?_⟩,by omega⟩
      rw[lg];exact hp
 ·have e:k=b.joins.length:=by omega
  subst e;rw[List.drop_length]at hp;have z:zD b none b.joins=0:=hp.symm
  simp only[go_sem,Nat.lt_irrefl];refine zqu b ho (zmc z) (zma z) _ rfl v ?_ fin;rw[←hv];simp only[z,ne_eq,not_true_eq_false,if_false];cases twJ [] b.joins <;> simp
theorem z8c (b:Brd)(ho:BrdOk b):jA X sH [.p b.pv] h K=K (AI (fD b)) h []:=by
 refine IA ?_;rw[zfI rfl];have ln:(b.parts.map Prt.pv).length=b.parts.length:=List.length_map ..
 unfold fD;by_cases h40:(40:Int)<b.parts.length
 ·rw[if_pos h40]
  simp only[vM,Brd.pv,go_sem,ln,h40]
 rw[if_neg h40];simp only[vM,Brd.pv,go_sem,ln,h40];refine UA (fun k:Nat=>⟨[(1,.ref h.length 0),(3,AS (DI (b.parts.take k))),(19,aD b.parts),(20,AI b.parts.length),(21,AI k)],h++[qA b],[]⟩) (fun k=>k≤b.parts.length∧DC (b.parts.take k).getLast? (b.parts.drop k)=DC none b.parts) (fun k=>b.parts.length-k) 0 rfl ⟨by omega,rfl⟩ ?_
 rintro k ⟨hk,hp⟩
 unfold qA;rcases Nat.lt_or_ge k b.parts.length with hlt|hge
 ·have g:=ZA Prt.pv hlt
  have c1:QA (some 2) 0 b.parts[k].pv=some b.parts[k].pv:=rfl
  have w2:IntKind.i64.wrap ((k:Int)+1)=((k+1:Nat):Int):=JA _ (by omega) (by omega)
  rw[List.drop_eq_getElem_cons hlt,pY]at hp;have lg:(b.parts.take (k+1)).getLast?=some b.parts[k]:=by rw[iG (by omega),List.getElem?_eq_getElem hlt]
  have lk2:DI (b.parts.take (k+1))=b.parts[k].key:=by unfold DI;rw[lg];rfl
  have xm:=List.getElem_mem hlt
  generalize hxx:b.parts[k]=x at *;have KY:=fun h K=>UY (h:=h) (K:=K) x.key (by have:=ho.k x xm;omega)
  have CF:=fun h K=>zrc (h:=h) (K:=K) x (mP ho.c xm).1 (mP ho.c xm).2
  simp only[Prt.pv]at g c1 CF;cases hkey:PB x.key with
  | false=>
   rw[hkey,if_pos rfl]at hp;rw[hkey]at KY;rw[←hp];simp only[go_sem,hlt,g,c1,↓KY,KY]
  | true=>
   have xne:=z6O hkey
   rw[hkey,if_neg (by simp)]at hp
   rw[hkey]at KY;replace hp:(if decide (vA x.key (DI (b.parts.take k))≤0)=true then 7 else if jD x.cells≠0 then jD x.cells else DC (some x) (b.parts.drop (k+1)))=DC none b.parts:=by
    unfold DI;cases hgl:(b.parts.take k).getLast? with
    | none=>
     rw[hgl]at hp;rw[show decide (vA x.key ((Option.map Prt.key none).getD [])≤0)=false from decide_eq_false (z2x xne)]
     exact hp
    | some q=>rw[hgl]at hp;exact hp
   have le:=bR x.key (DI (b.parts.take k))
   generalize DI (b.parts.take k)=la at *;by_cases hc:vA x.key la≤0
   ·rw[if_pos (by simp [hc])]at hp
    rw[←hp];simp only[go_sem,hlt,g,c1,↓KY,KY,le,hc]
   ·rw[if_neg (by simp [hc])]at hp
    generalize hz:jD x.cells=z at *;by_cases q:z=0
    ·rw[if_neg (by simp [q])]at hp
     subst q;simp only[go_sem,hlt,g,c1,↓KY,KY,le,hc,↓CF,CF,w2];refine⟨k+1,?_,⟨by omega,?_⟩,by omega⟩
     ·rw[lk2]
     ·rw[lg];exact hp
    ·rw[if_pos q]at hp
     rw[←hp,if_pos q];have e12:eA .neq (.p (.int .i64 z)) (.p (.int .i64 0))=some (AB true):=by simp only[go_sem,q]
     simp only[go_sem,hlt,g,c1,↓KY,KY,le,hc,↓CF,CF,↓e12]
 ·have e:k=b.parts.length:=by omega
  subst e;rw[List.drop_length]at hp;have z:DC none b.parts=0:=hp.symm
  rw[if_neg (by simp [z])]
  simp only[go_sem,Nat.lt_irrefl];refine zqv b ho (zp3 z) _ rfl _ rfl (fun H=>?_)
  simp only[go_sem]
end Go.Am
end
section
/- What is drawn: a board that is right. -/
open Go
set_option linter.all false
set_option maxRecDepth 100000
namespace Go.Am
variable {L:List Int} {a:Int} {h l:bA} {id:Nat} {K:mA}
attribute [-go_sem] YA bB EB BB
attribute [-go_sem] kW bQ
def brdU:Brd:=⟨[⟨[117],[]⟩],[],[]⟩
theorem zeP:fD brdU=0:=by decide
theorem zeQ:BrdE brdU:=by
 refine⟨by decide,fun p hp=>?_,by decide,fun j hj=>(by cases hj),by decide⟩
 simp [brdU]at hp;subst hp;exact⟨by decide,by decide,fun c hc=>(by cases hc)⟩
theorem z7L {b:Nat}{P:mA}{x:PV}{h:bA}:LC false b P (some [.agg [.p x,.sl0 (some 3),.sl0 (some 2)]]) h []=P (.p (.agg [x,.sl (some 3) [],.sl (some 2) []])) (h.take b) []:=by
 rw[DY];have e:∀n,VA n h (kB [.agg [.p x,.sl0 (some 3),.sl0 (some 2)]])=some (.p (.agg [x,.sl (some 3) [],.sl (some 2) []])):=fun n=>rfl
 rw[e];dsimp only;rw[e];dsimp only;rw[show(AV.p (.agg [x,.sl (some 3) [],.sl (some 2) []])).top=0 from rfl]
 simp
theorem zkS {n:Nat}{x:PV}:TB n (AV.agg [.p x,.sl0 (some 3),.sl0 (some 2)])=[]:=if_neg (by simp [AV.top,AV.tops])
theorem zlw (hp:sA 20000 a):HE UJ [] L a (fun v a2=>∃b,BrdE b∧fD b=0∧v = .p b.pv∧a≤a2∧a2≤a+2400):=by
 refine HE.of fun h id hid=>?_
 rw[zfC rfl];simp only[aQ,go_sem,hid];have i1:id≤h.length:=by omega
 refine UA (fun t:Nat×Int=>⟨[(0,.ref id 0),(2,.ref h.length 0),(4,AI t.1)],h.set id (DA L t.2)++[.box [.sl0 (some 2),.sl0 (some 3),.sl0 (some 2)]],[]⟩) (fun t=>t.1≤6∧a≤t.2∧t.2≤a+400*t.1) (fun t=>6-t.1) (0,a) rfl ⟨by simp,by simp,by simp⟩ ?_
 rintro⟨k,b⟩ ⟨h1,h2,h3⟩
 dsimp only at h1 h2 h3 ⊢;rcases Nat.lt_or_ge k 6 with hlt|hge
 ·have hk:(k:Int)<6:=by omega
  have w1:IntKind.i64.wrap ((k:Int)+1)=((k+1:Nat):Int):=JA _ (by omega) (by omega)
  obtain⟨_,a2,⟨x,E,rfl,c1,c2⟩,V⟩:=(zlu (L:=L) (a:=b) (zpD hp h2 (by omega))).app (h:=h) (l:=[.box [.sl0 (some 2),.sl0 (some 3),.sl0 (some 2)]]) hid
  have F:=fun h K=>z8c (h:=h) (K:=K) x (z1J E)
  simp only[Brd.pv]at V F;by_cases hf:fD x=0
  ·have hf':=eq_true hf
   simp only[go_sem,hid,hk,↓V,V,↓F,F,hf,i1];exact⟨a2,⟨x,E,hf,rfl,by omega,by omega⟩,rfl⟩
  ·simp only[go_sem,hid,hk,↓V,V,↓F,F,hf,w1,i1]
   exact⟨(k+1,a2),rfl,⟨by dsimp only;omega,by dsimp only;omega,by dsimp only;omega⟩,by dsimp only;omega⟩
 ·have hk:¬(k:Int)<6:=by omega
  simp only[go_sem,hid,hk,i1];rw[kW];simp only[bQ,go_sem,zkS,↓z7L,z7L];exact⟨b,⟨brdU,zeQ,zeP,rfl,by omega,by omega⟩,rfl⟩
end Go.Am
end
section
/- What is drawn: bits for a board. -/
open Go
set_option linter.all false
set_option maxRecDepth 100000
namespace Go.Am
variable {h:bA} {K:mA} {L:List Int}
attribute [-go_sem] YA bB EB BB
def TE (L:List Int)(a:Int):Nat→Nm2
 | 0=>[]
 | n+1=>TE L a n++gC [[48],[49]] L (a+n)
theorem FY (L:List Int)(a:Int):∀n,(TE L a n).length≤n
 | 0=>by simp [TE]
 | n+1=>by
  have ih:=FY L a n
  have h1:(gC [[48],[49]] L (a+n)).length≤1:=by
   have:=DL (l:=[[48],[49]]) (L:=L) (a:=a+n) (by simp) (by simp)
   simp at this;rcases this with e|e <;> rw[e] <;> simp
  rw[TE,List.length_append];omega
def YC (b:Brd)(a:Int)(k:Nat):Int:=a+(((b.parts.take k).map fun p=>p.cells.length).sum:Nat)
def QD (b:Brd)(L:List Int)(a:Int):Nat→List Nm2
 | 0=>[]
 | k+1=>QD b L a k++[TE L (YC b a k) (((b.parts[k]?).map fun p=>p.cells.length).getD 0)]
theorem iP (b:Brd)(L:List Int)(a:Int):∀k,(QD b L a k).length=k
 | 0=>rfl
 | k+1=>by rw[QD,List.length_append,iP b L a k];rfl
theorem z77 {b:Brd}{a:Int}{k:Nat}(hk:k<b.parts.length):YC b a (k+1)=YC b a k+b.parts[k].cells.length:=by
 unfold YC;rw[List.take_succ_eq_append_getElem hk,List.map_append,List.sum_append];simp;omega
theorem xY {b:Brd}{a:Int}(hc:∀ p∈b.parts,p.cells.length≤200):∀k,k≤b.parts.length→a≤YC b a k∧YC b a k≤a+k*200
 | 0,_=>by simp [YC]
 | k+1,hk=>by
  have ih:=xY (a:=a) hc k (by omega)
  have:=hc _ (List.getElem_mem (show k<b.parts.length by omega))
  rw[z77 (by omega)]
  omega
theorem wU {b:Brd}{L:List Int}{a:Int}(hc:∀ p∈b.parts,p.cells.length≤200):∀k,k≤b.parts.length→∀s∈QD b L a k,s.length≤200
 | 0,_,s,hs=>by cases hs
 | k+1,hk,s,hs=>by
  rw[QD,List.mem_append,List.mem_singleton]at hs;rcases hs with hs|hs
  ·exact wU hc k (by omega) s hs
  ·have kl:k<b.parts.length:=by omega
   have:=hc _ (List.getElem_mem kl);have rl:=FY L (YC b a k) b.parts[k].cells.length
   rw[List.getElem?_eq_getElem kl]at hs;rw[hs];simp only[Option.map_some,Option.getD_some];omega
theorem zqs {K:Ex→St→Prop}{id:Nat}(hid:id<h.length){a:Int}{n m:Nat}{bo:Obj}{rows:List PV}{x:Obj}{v10 v11 v12:AV}(e10:v10.top≤h.length)(hn:n≤200)(hp:sA 1000 a)
 (fin:∀z,K (.exit 2) ⟨[(0,.ref id 0),(5,.own (h.length+1) m 0 m),(8,AS (TE L a n)),(10,v10),(11,v11),(12,v12),(18,AI n),(19,AI n),z],h.set id (DA L (a+n))++[bo,.row none rows 0,x],[]⟩) :
 FA (jA X) X.gl bL K [(0,.ref id 0),(5,.own (h.length+1) m 0 m),(8,AS []),(10,v10),(11,v11),(12,v12),(18,AI n),(19,AI 0)] (h.set id (DA L a)++[bo,.row none rows 0,x]) []:=by
 refine UA (fun k:Nat=>⟨[(0,.ref id 0),(5,.own (h.length+1) m 0 m),(8,AS (TE L a k)),(10,v10),(11,v11),(12,v12),(18,AI n),(19,AI k)],h.set id (DA L (a+k))++[bo,.row none rows 0,x],[]⟩) (fun k=>k≤n) (fun k=>n-k) 0 (by simp [TE]) (by omega) ?_
 intro k hk;rcases Nat.lt_or_ge k n with hlt|hge
 ·have w2:IntKind.i64.wrap ((k:Int)+1)=((k+1:Nat):Int):=JA _ (by omega) (by omega)
  have pk:sA 0 (a+k):=by unfold sA at *;omega
  have S:=fun l K=>nG (L:=L) (h:=h) (l:=l) (K:=K) hid pk (xs:=[.str [48],.str [49]]) rfl (by simp) (by simp)
  have rl:=FY L a k
  have p1:(gC [[48],[49]] L (a+k)).length≤1:=by
   have:=DL (l:=[[48],[49]]) (L:=L) (a:=a+k) (by simp) (by simp)
   simp at this;rcases this with e|e <;> rw[e] <;> simp
  have e1:TE L a (k+1)=TE L a k++gC [[48],[49]] L (a+k):=rfl
  have e2:a+((k+1:Nat):Int)=a+k+1:=by omega
  have ms:(TE L a k).length+(gC [[48],[49]] L (a+k)).length≤MG:=by unfold MG;omega
  simp only[List.map_cons,List.map_nil,unS]at S;simp only[go_sem,hlt,w2,↓S,S,ms];refine⟨k+1,?_,by omega,by omega⟩
  rw[e1,e2]
 ·have e:k=n:=by omega
  subst e;simp only[go_sem,Nat.lt_irrefl];exact fin _
def vG (b:Brd)(L:List Int)(a:Int):List Nm2×Int:=
 let r:=QD b L a b.parts.length
 let e:=YC b a b.parts.length
 if EA L e 15=0 then
  if 0<b.parts.length then
   if EA L (e+1) 2=0 then(r.set (EA L (e+1+1) b.parts.length).toNat (r.getD (EA L (e+1+1) b.parts.length).toNat []++gC [[48],[120]] L (e+1+1+1)),e+1+1+1+1)
   else(r++[[]],e+1+1)
  else(r++[[]],e+1)
 else(r,e+1)
attribute [-go_sem] jW eH
theorem zlv (b:Brd){a:Int}(hp:b.parts.length≤40)(hc:∀ p∈b.parts,p.cells.length≤200)(hpos:sA 100000 a):Gen RJ [.p b.pv] L a (vG b L a).2 (nB (vG b L a).1):=by
 refine Gen.of fun h id hid=>?_
 rw[zf7 rfl];have ln:(b.parts.map Prt.pv).length=b.parts.length:=List.length_map ..
 simp only[XP,Brd.pv,go_sem,ln];have i1:id≤h.length+1:=by omega
 refine UA (fun k:Nat=>⟨[(0,.ref id 0),(5,.own (h.length+1) k 0 k),(10,aD b.parts),(11,AI b.parts.length),(12,AI k)],h.set id (DA L (YC b a k))++[qA b,.row none ((QD b L a k).map PV.str) 0],[]⟩) (fun k=>k≤b.parts.length) (fun k=>b.parts.length-k) 0 (by simp [YC,QD];rfl) (by omega) ?_
 intro k hk;have pl:=xY (a:=a) hc k hk
 rcases Nat.lt_or_ge k b.parts.length with hlt|hge
 ·have g:=ZA Prt.pv hlt
  have c1:QA (some 2) 0 b.parts[k].pv=some b.parts[k].pv:=rfl
  have w2:IntKind.i64.wrap ((k:Int)+1)=((k+1:Nat):Int):=JA _ (by omega) (by omega)
  have c200:=hc _ (List.getElem_mem hlt)
  have bs:QD b L a (k+1)=QD b L a k++[TE L (YC b a k) b.parts[k].cells.length]:=by
   show QD b L a k++_=_
   rw[List.getElem?_eq_getElem hlt];rfl
  have ps:=z77 (a:=a) hlt
  generalize b.parts[k]=p at *;have lc:(p.cells.map Cel.pv).length=p.cells.length:=List.length_map ..
  simp only[Prt.pv]at g c1;have tl:((QD b L a k).map PV.str).length=k:=by simp [iP]
  generalize hrows:(QD b L a k).map PV.str=rows at *;have km:k+1≤XA:=by unfold XA;omega
  have pp:sA 1000 (YC b a k):=by unfold sA at *;omega
  simp only[qA,go_sem,hlt,g,c1,w2,lc];refine zqs (K:=wA 2 _) hid (by simp [AV.top]) c200 pp fun z=>?_
  simp only[go_sem,w2,tl,km,i1];refine⟨k+1,?_,by omega,by omega⟩
  rw[ps,bs,List.map_append,hrows];rfl
 ·have e:k=b.parts.length:=by omega
  subst e;simp only[go_sem,Nat.lt_irrefl,i1];rw[jW];have bl:=iP b L a b.parts.length
  unfold vG;dsimp only;have hR200:=wU (L:=L) (a:=a) hc b.parts.length (Nat.le_refl _)
  generalize hR:QD b L a b.parts.length=R at *;have lR:(R.map PV.str).length=b.parts.length:=by simp [bl]
  have q0:sA 0 (YC b a b.parts.length):=by unfold sA at *;omega
  have q1:sA 0 (YC b a b.parts.length+1):=by unfold sA at *;omega
  have q2:sA 0 (YC b a b.parts.length+1+1):=by unfold sA at *;omega
  have q3:sA 0 (YC b a b.parts.length+1+1+1):=by unfold sA at *;omega
  generalize YC b a b.parts.length=e at *;have wf:win (R.map PV.str) 0 b.parts.length=R.map PV.str:=HF lR
  by_cases f1:EA L e 15=0
  ·have f1':=eq_true f1
   rw[if_pos f1];by_cases f2:0<b.parts.length
   ·have f2':((0:Int)<b.parts.length)=True:=eq_true (by omega)
    rw[if_pos f2];by_cases f3:EA L (e+1) 2=0
    ·have f3':=eq_true f3
     rw[if_pos f3];obtain⟨n1,n2⟩:=FE L (e+1+1) b.parts.length (by omega) (by omega)
     have e4:=sF (k:=.i64) n1
     have jl:(EA L (e+1+1) b.parts.length).toNat<R.length:=by omega
     have gj:=ZA PV.str jl
     have gd:R.getD (EA L (e+1+1) b.parts.length).toNat []=R[(EA L (e+1+1) b.parts.length).toNat]:=by
      rw[List.getD_eq_getElem?_getD,List.getElem?_eq_getElem jl];rfl
     have rj:=hR200 _ (List.getElem_mem jl)
     have p1:(gC [[48],[120]] L (e+1+1+1)).length≤1:=by
      have:=DL (l:=[[48],[120]]) (L:=L) (a:=e+1+1+1) (by simp) (by simp)
      simp at this;rcases this with e|e <;> rw[e] <;> simp
     rw[gd];have jn:(EA L (e+1+1) b.parts.length).toNat<b.parts.length:=by omega
     have ms:(R[(EA L (e+1+1) b.parts.length).toNat]).length+(gC [[48],[120]] L (e+1+1+1)).length≤MG:=by unfold MG;omega
     have sm:(R.map PV.str).set (EA L (e+1+1) b.parts.length).toNat (.str (R[(EA L (e+1+1) b.parts.length).toNat]++gC [[48],[120]] L (e+1+1+1)))=(R.set (EA L (e+1+1) b.parts.length).toNat (R[(EA L (e+1+1) b.parts.length).toNat]++gC [[48],[120]] L (e+1+1+1))).map PV.str:=by rw[List.map_set]
     generalize R[(EA L (e+1+1) b.parts.length).toNat]=rj0 at *;generalize (EA L (e+1+1) b.parts.length).toNat=j at *;simp only[eH,go_sem,hid,q0,q1,q2,q3,f1',f2',f3',e4,gj,lR,jn,ms];rw[sm,HF (by simp [bl])]
    ·rw[if_neg f3]
     have km:b.parts.length+1≤XA:=by unfold XA;omega
     simp only[eH,go_sem,hid,q0,q1,q2,q3,f1',f2',f3,km,lR];rw[HF (by simp [lR]),nB,List.map_append];rfl
   ·rw[if_neg f2]
    have f2':((0:Int)<b.parts.length)=False:=eq_false (by omega)
    have km:b.parts.length+1≤XA:=by unfold XA;omega
    simp only[eH,go_sem,hid,q0,q1,q2,q3,f1',f2',km,lR];rw[HF (by simp [lR]),nB,List.map_append];rfl
  ·rw[if_neg f1]
   simp only[eH,go_sem,hid,q0,q1,q2,q3,f1,lR,wf]
theorem zeL {b:Brd}{a:Int}(hp:b.parts.length≤40)(hc:∀ p∈b.parts,p.cells.length≤200):BitsL (vG b L a).1∧a≤(vG b L a).2∧(vG b L a).2≤a+8010:=by
 have hl:=iP b L a b.parts.length
 have hm:=wU (L:=L) (a:=a) hc b.parts.length (Nat.le_refl _)
 have pl:=xY (a:=a) hc b.parts.length (Nat.le_refl _)
 unfold vG;dsimp only;generalize QD b L a b.parts.length=R at *;generalize YC b a b.parts.length=e at *;split
 ·split
  ·split
   ·refine⟨⟨by simp;omega,fun s hs=>?_⟩,by dsimp only;omega,by dsimp only;omega⟩
    rcases List.mem_or_eq_of_mem_set hs with q|q
    ·have:=hm s q;omega
    ·rw[q,List.length_append]
     have p1:(gC [[48],[120]] L (e+1+1+1)).length≤1:=by
      have:=DL (l:=[[48],[120]]) (L:=L) (a:=e+1+1+1) (by simp) (by simp)
      simp at this;rcases this with e|e <;> rw[e] <;> simp
     have:(R.getD (EA L (e+1+1) b.parts.length).toNat []).length≤200:=by
      rw[List.getD_eq_getElem?_getD];cases hg:R[(EA L (e+1+1) b.parts.length).toNat]? with
      | none=>simp
      | some v=>exact hm v (List.mem_of_getElem? hg)
     omega
   ·refine⟨⟨by simp;omega,fun s hs=>?_⟩,by dsimp only;omega,by dsimp only;omega⟩
    rcases List.mem_append.1 hs with q|q
    ·have:=hm s q;omega
    ·rw[List.mem_singleton]at q;rw[q];simp
  ·refine⟨⟨by simp;omega,fun s hs=>?_⟩,by dsimp only;omega,by dsimp only;omega⟩
   rcases List.mem_append.1 hs with q|q
   ·have:=hm s q;omega
   ·rw[List.mem_singleton]at q;rw[q];simp
 ·exact⟨⟨by dsimp only;omega,fun s hs=>by have:=hm s hs;omega⟩,by dsimp only;omega,by dsimp only;omega⟩
end Go.Am
end
section
/- The shortest way between two states of a test access port: a search over a queue. -/
open Go
set_option linter.all false
namespace Go.Am
variable {h:bA} {K:mA}
attribute [-go_sem] YA bB BB EB
def nxtT:List (List Nat):=[[1,0],[1,2],[3,9],[4,5],[4,5],[6,8],[6,7],[4,8],[1,2],[10,0],[11,12],[11,12],[13,15],[13,14],[11,15],[1,2]]
def nxt (s t:Nat):Nat:=(nxtT.getD s []).getD t 0
theorem zod {s t:Nat}(hs:s<16)(ht:t<2):([AI 1,AI 0,AI 1,AI 2,AI 3,AI 9,AI 4,AI 5,AI 4,AI 5,AI 6,AI 8,AI 6,AI 7,AI 4,AI 8,AI 1,AI 2,AI 10,AI 0,AI 11,AI 12,AI 11,AI 12,AI 13,AI 15,AI 13,AI 14,AI 11,AI 15,AI 1,AI 2]:List AV)[s*2+t*1]?=some (AI (nxt s t)):=by
 have hs':s=0∨s=1∨s=2∨s=3∨s=4∨s=5∨s=6∨s=7∨s=8∨s=9∨s=10∨s=11∨s=12∨s=13∨s=14∨s=15:=by omega
 have ht':t=0∨t=1:=by omega
 rcases hs' with rfl|rfl|rfl|rfl|rfl|rfl|rfl|rfl|rfl|rfl|rfl|rfl|rfl|rfl|rfl|rfl <;> rcases ht' with rfl|rfl <;> rfl
theorem zl0 {Y:Ctx}(hY:Y.fn zI=some WL)(s t:Nat)(hs:s<16)(ht:t<2):jA Y zI [AI s,AI t] h K=K (AI (nxt s t)) h []:=by
 refine IA ?_;rw[PA hY rfl (show zA h [AI s,AI t]=some ([AI s,AI t],h) from rfl) rfl,zkF]
 show bW _ _ _ _ _ _ (xA [.t 4] false _ _)
 have g:=zod hs ht
 simp only[bW,go_sem,hs,ht,g]
abbrev uD:=List (Int × List UInt8)
def AD (n:Int):PV:=.int .i64 n
def ED (s:List UInt8):AV:=.p (.str s)
def TH (t:Nat):List UInt8:=[UInt8.ofNat (48+t)]
def LH (at_ t:Nat)(s:uD × List Nat):uD×List Nat:=
 if(AA (nxt at_ t:Int) s.1).isSome then s else(dB (nxt at_ t:Int) ((AA (at_:Int) s.1).getD []++TH t) s.1,s.2++[nxt at_ t])
def TG (at_:Nat):Nat→uD×List Nat→uD×List Nat
 | 0,s=>s
 | t+1,s=>LH at_ t (TG at_ t s)
def popS (s:uD × List Nat):uD×List Nat:=match s.2 with
 | []=>s
 | a::r=>TG a 2 (s.1,r)
def bfs (a:Nat):Nat→uD×List Nat
 | 0=>([((a:Int),[])],[a])
 | k+1=>popS (bfs a k)
def qY (a b:Nat):List UInt8:=(AA (b:Int) (bfs a 16).1).getD []
def rK (s:uD × List Nat):Bool:=decide (s.1.length≤16)&&decide (s.2.length≤16)&&s.2.all (fun x=>decide (x<16))&&s.1.all (fun e=>decide (e.2.length≤16))
theorem z1A:(List.range 16).all (fun a=>(List.range 16).all (fun k=>rK (bfs a k) && !(bfs a k).2.isEmpty)&&rK (bfs a 16)&&(bfs a 16).2.isEmpty)=true:=by kernel_rfl
theorem ze4 {a k:Nat}(ha:a<16)(hk:k<16):rK (bfs a k)=true∧(bfs a k).2≠[]:=by
 have h1:=List.all_eq_true.1 z1A a (List.mem_range.2 ha)
 simp only[Bool.and_eq_true]at h1;have h2:=List.all_eq_true.1 h1.1.1 k (List.mem_range.2 hk)
 simp only[Bool.and_eq_true,Bool.not_eq_true',List.isEmpty_eq_false_iff]at h2;exact h2
theorem ze3 {a:Nat}(ha:a<16):rK (bfs a 16)=true∧(bfs a 16).2=[]:=by
 have h1:=List.all_eq_true.1 z1A a (List.mem_range.2 ha)
 simp only[Bool.and_eq_true,List.isEmpty_iff]at h1;exact⟨h1.1.2,h1.2⟩
theorem zlk {s:uD × List Nat}(hf:rK s=true):s.1.length≤16∧s.2.length≤16∧(∀x∈s.2,x<16)∧∀e∈s.1,e.2.length≤16:=by
 unfold rK at hf;simp only[Bool.and_eq_true,decide_eq_true_eq,List.all_eq_true]at hf;exact⟨hf.1.1.1,hf.1.1.2,hf.1.2,hf.2⟩
theorem z6X {hp:bA}{id:Nat}{m:uD}{b:Int}(hh:hp[id]?=some (BA AD ED m)):YA (none,[0]) false (.p (.str [])) (.mp id) (AI b) hp=some (.p (.str ((AA b m).getD []))):=by
 have:=rF (key:=AD) (val:=ED) (fun a b=>SW a b) hh (kk:=(none,[0])) (k:=b) TW (ok:=false) (z:=.p (.str []))
 rw[cond_false]at this;refine this.trans ?_;cases AA b m <;> rfl
theorem lookQ {hp:bA}{id:Nat}{m:uD}{b:Int}(hh:hp[id]?=some (BA AD ED m)):YA (none,[0]) true (.p (.str [])) (.mp id) (AI b) hp=some (.tup [.p (.str ((AA b m).getD [])),AB (AA b m).isSome]):=by
 have:=rF (key:=AD) (val:=ED) (fun a b=>SW a b) hh (kk:=(none,[0])) (k:=b) TW (ok:=true) (z:=.p (.str []))
 rw[cond_true]at this;refine this.trans ?_;cases AA b m <;> rfl
theorem updP {hp:bA}{id:Nat}{m:uD}{b:Int}{v:List UInt8}(hh:hp[id]?=some (BA AD ED m)):bB (none,[0]) (.mp id) (AI b) (.p (.str v)) hp=some (.und,hp.set id (BA AD ED (dB b v m)),[]):=
 JI (key:=AD) (val:=ED) (fun a b=>SW a b) hh (kk:=(none,[0])) (k:=b) TW (v:=v) rfl
structure Que (R:bA) (i:Nat) (xs:List Nat) (off:Nat) (q:List Nat):Prop where
 get:R[i]?=some (.row none (xs.map fun n:Nat=>eI n) 0)
 le:off≤xs.length
 eq:xs.drop off=q
theorem zob {hp:bA}{id:Nat}{xs:List Nat}{off:Nat}{n:Int}{k:AV→bA→Esc→Prop}(hh:hp[id]?=some (.row none (xs.map fun n:Nat=>eI n) 0))(ho:off≤xs.length)(hm:xs.length≤1000000)
 (k1:k (.own id (xs.length+1) off (xs.length-off+1)) (hp.set id (.row none (xs.map (fun n:Nat=>eI n)++[eI n]) 0)) [])
 (k2:k (.own hp.length (xs.length-off+1) 0 (xs.length-off+1)) (hp++[.row none ((xs.drop off).map (fun n:Nat=>eI n)++[eI n]) 0]) []) :
 nqK (some none) [.own id xs.length off (xs.length-off),.p (.sl none [eI n])] hp k:=by
 have hx:xs.length-off+1≤XA:=by unfold XA;omega
 have hr:rds hp (.p (.sl none [eI n]))=some (none,[eI n]):=rfl
 have hw:win (xs.map fun n:Nat=>eI n) off (xs.length-off)=(xs.drop off).map fun n:Nat=>eI n:=by
  unfold win;rw[←List.map_drop];exact List.take_of_length_le (by simp)
 unfold nqK dI appq;simp only[hr,if_true,hh,List.length_map,List.length_cons,List.length_nil,Nat.zero_add];rw[if_pos ⟨trivial,trivial,by omega,hx,Nat.zero_le _⟩,hw]
 refine⟨by simp,fun y hy=>?_⟩
 simp only[List.mem_cons,List.not_mem_nil,or_false]at hy;rcases hy with rfl|rfl
 ·exact k1
 ·exact k2
theorem z7d {α β:Type}[DecidableEq α]{k:α}{v:β}:∀{l:List (α×β)} {e:α×β},e∈dB k v l→e∈l∨e=(k,v)
 | [],e,h=>by simp [dB]at h;exact .inr h
 | x::r,e,h=>by
  unfold dB at h;split at h
  ·rcases List.mem_cons.1 h with h|h
   ·exact .inr h
   ·exact .inl (List.mem_cons_of_mem _ h)
  ·rcases List.mem_cons.1 h with h|h
   ·exact .inl (h ▸ List.mem_cons_self)
   ·rcases z7d h with h|h
    ·exact .inl (List.mem_cons_of_mem _ h)
    ·exact .inr h
theorem z6z {α β:Type}[DecidableEq α]{k:α}{v:β}:∀{l:List (α×β)},AA k l=some v→(k,v)∈l
 | [],h=>by cases h
 | x::r,h=>by
  unfold AA at h;split at h
  ·rename_i he;cases h;subst he;simp
  ·exact List.mem_cons_of_mem _ (z6z h)
theorem z8X {n:Nat}{w:uD}(hw:∀ e∈w,e.2.length≤n)(k:Int):((AA k w).getD []).length≤n:=by
 cases hg:AA k w with
 | none=>simp
 | some v=>exact hw _ (z6z hg)
theorem zs0 {n at_ t:Nat}{s:uD × List Nat}(hw:∀ e∈s.1,e.2.length≤n):∀e∈(LH at_ t s).1,e.2.length≤n+1:=by
 unfold LH;split
 ·intro e he;have:=hw e he;omega
 ·intro e he
  rcases z7d he with h|h
  ·have:=hw e h;omega
  ·subst h
   have:=z8X hw (at_:Int);simp [TH];omega
theorem z8S {n at_:Nat}{s:uD × List Nat}(hw:∀ e∈s.1,e.2.length≤n):∀(t:Nat),∀e∈(TG at_ t s).1,e.2.length≤n+t
 | 0=>hw
 | t+1=>zs0 (z8S hw t)
set_option maxHeartbeats 1000000 in
theorem zlz {Y:Ctx}(hY1:Y.fn BI=some dP)(hY2:Y.fn zI=some WL)(a b:Nat)(ha:a<16)(hb:b<16):jA Y BI [AI a,AI b] h K=K (.p (.str (qY a b))) h []:=by
 refine IA ?_;rw[z1V hY1 rfl (show zA h [AI a,AI b]=some ([AI a,AI b],h) from rfl) rfl]
 simp only[zkG];show ∃v h' x,_∧zQ _ _ _ _ _ _ _ _ (xA [.t 4] false _ _)
 simp only[zQ];refine⟨_,_,_,⟨rfl,rfl,rfl⟩,?_⟩;have em:BA AD ED [((a:Int),([]:List UInt8))] = .amap [⟨.int .i64 a,.p (.str []),0⟩] 1:=rfl
 have u0:=fun(hp:bA) (hh:hp[h.length]?=some (BA AD ED []))=>updP (b:=(a:Int)) (v:=[]) hh
 have e0:dB (a:Int) [] ([]:uD)=[((a:Int),[])]:=rfl
 have em0:BA AD ED ([]:uD) = .amap [] 0:=rfl
 rw[e0]at u0;simp only[em0]at u0;simp only[go_sem,u0];refine UA (fun t:Nat×bA×Nat×List Nat×Nat×Option Nat=>⟨[(1,AI b),(5,.mp h.length),(6,.own (h.length+(t.2.2.1+1)) t.2.2.2.1.length t.2.2.2.2.1 (t.2.2.2.1.length-t.2.2.2.2.1))]++(match t.2.2.2.2.2 with|none=>[]|some q=>[(7,AI q),(25,AI 2),(26,AB false)]),h++BA AD ED (bfs a t.1).1::t.2.1,[]⟩)
  (fun t=>t.1≤16∧Que t.2.1 t.2.2.1 t.2.2.2.1 t.2.2.2.2.1 (bfs a t.1).2∧t.2.2.2.1.length≤1+2*t.1) (fun t=>16-t.1) (0,[.row none [eI a] 0],0,[a],0,none) (by simp [bfs]) ⟨by simp,⟨rfl,by simp,rfl⟩,by simp⟩ ?_
 rintro⟨k,R,i,xs,off,oq⟩ ⟨h1,hq,h2⟩
 dsimp only at h1 hq h2 ⊢;have hqg:=hq.get
 have hle:=hq.le
 have heq:=hq.eq
 have hln:xs.length-off=(bfs a k).2.length:=by rw[←heq];simp
 by_cases hk:k<16
 ·obtain⟨hf,hne⟩:=ze4 ha hk
  obtain⟨f1,f2,f3,f4⟩:=zlk hf;have hpos:0<xs.length-off:=by rw[hln];exact List.length_pos_iff.2 hne
  have hoff:off<xs.length:=by omega
  obtain⟨q0,qr,hqe⟩:∃q0 qr,(bfs a k).2=q0::qr:=by
   cases hb2:(bfs a k).2 with
   | nil=>exact absurd hb2 hne
   | cons x y=>exact⟨x,y,rfl⟩
  have hx0:xs[off]?=some q0:=by
   have:(xs.drop off)[0]?=some q0:=by rw[heq,hqe];rfl
   rwa [List.getElem?_drop,Nat.add_zero]at this
  have hdr:xs.drop (off+1)=qr:=by
   rw[←List.drop_drop,heq,hqe];rfl
  have hq0:q0<16:=f3 q0 (by rw[hqe];simp)
  have hgq:(xs.map fun n:Nat=>eI n)[off]?=some (eI q0):=by rw[List.getElem?_map,hx0];rfl
  have hpi:(0:Int)<((xs.length-off:Nat):Int):=by omega
  have hl1:1≤xs.length-off:=by omega
  have hbn:bfs a (k+1)=TG q0 2 ((bfs a k).1,qr):=by show popS _=_;unfold popS;rw[hqe]
  have e3:xs.length-off-1=xs.length-(off+1):=by omega
  have hcond:off+(xs.length-off)≤xs.length:=by omega
  have hNL:∀(e:List (Nat×AV)),WA (some [1,5,6,7,25]) e=WA (some [1,5,6,7,25]) e:=fun _=>rfl
  rcases oq with _|oq
  all_goals
  simp only[List.append_nil,List.cons_append,List.nil_append,go_sem,List.getElem?_cons_succ,hqg,hpi,hpos,hgq,hl1,hcond];all_goals
  clear u0 em em0 e0;generalize hw0:((bfs a k).1,qr)=s0 at *;have es1:(bfs a k).1=s0.1:=by rw[←hw0]
  have es2:qr=s0.2:=by rw[←hw0]
  rw[es1,e3];refine UA (fun t:Nat×bA×Nat×List Nat×Nat=>⟨[(1,AI b),(5,.mp h.length),(6,.own (h.length+(t.2.2.1+1)) t.2.2.2.1.length t.2.2.2.2 (t.2.2.2.1.length-t.2.2.2.2)),(7,AI q0),(25,AI t.1)],h++BA AD ED (TG q0 t.1 s0).1::t.2.1,[]⟩)
   (fun t=>t.1≤2∧Que t.2.1 t.2.2.1 t.2.2.2.1 t.2.2.2.2 (TG q0 t.1 s0).2∧t.2.2.2.1.length≤1+2*k+t.1) (fun t=>2-t.1) (0,R,i,xs,off+1) rfl ⟨by simp,⟨hqg,hoff,by rw[hdr,es2];rfl⟩,by simp;omega⟩ ?_
  rintro⟨j,R',i',ys,of'⟩ ⟨j1,jq,j2⟩
  dsimp only at j1 jq j2 ⊢;have jg:=jq.get
  have jle:=jq.le
  have jeq:=jq.eq
  by_cases hj:j<2
  ·have hji:(j:Int)<2:=by omega
   have qn:=fun h K=>zl0 (h:=h) (K:=K) hY2 q0 j hq0 hj
   have hvis:TG q0 (j+1) s0=LH q0 j (TG q0 j s0):=rfl
   generalize hsj:TG q0 j s0=s at *;have lq:=fun(hp:bA) (hh:hp[h.length]?=some (BA AD ED s.1))=>lookQ (b:=(nxt q0 j:Int)) hh
   have lp:=fun(hp:bA) (hh:hp[h.length]?=some (BA AD ED s.1))=>z6X (b:=(q0:Int)) hh
   have up:=fun(hp:bA) (v:List UInt8) (hh:hp[h.length]?=some (BA AD ED s.1))=>updP (b:=(nxt q0 j:Int)) (v:=v) hh
   have w1:IntKind.i64.wrap ((j:Int)+1)=((j+1:Nat):Int):=JA _ (by omega) (by omega)
   cases hs:(AA (nxt q0 j:Int) s.1).isSome with
   | true=>
    have hv:LH q0 j s=s:=by unfold LH;rw[if_pos hs]
    rw[hv]at hvis;simp only[go_sem,hji,↓qn,qn,lq,hs,w1];exact⟨(j+1,R',i',ys,of'),by dsimp only;rw[hvis],⟨by dsimp only;omega,by dsimp only;rw[hvis];exact jq,by dsimp only;omega⟩,by dsimp only;omega⟩
   | false=>
    have hv:LH q0 j s=(dB (nxt q0 j:Int) ((AA (q0:Int) s.1).getD []++TH j) s.1,s.2++[nxt q0 j]):=by unfold LH;rw[hs];rfl
    rw[hv]at hvis;have w2:IntKind.i64.wrap (48+(j:Int))=((48+j:Nat):Int):=JA _ (by omega) (by omega)
    have w3:IntKind.i32.wrap ((48+j:Nat):Int)=((48+j:Nat):Int):=by
     have:j=0∨j=1:=by omega
     rcases this with rfl|rfl <;> rfl
    have w4:(0:Int)≤((48+j:Nat):Int)∧((48+j:Nat):Int)<128:=by omega
    have hln2:=z8X (z8S (n:=16) (at_:=q0) (s:=s0) (by rw[←es1];exact f4) j) (q0:Int)
    rw[hsj]at hln2;have w5:((AA (q0:Int) s.1).getD []).length+(TH j).length≤MG:=by have:(TH j).length=1:=rfl;unfold MG;omega
    have w6:[UInt8.ofNat ((48+j:Nat):Int).toNat]=TH j:=rfl
    simp only[go_sem,hji,↓qn,qn,lq,hs,lp,up,w1,w2,w3,w4,w5,w6];have hh1:(h++BA AD ED (dB (nxt q0 j:Int) ((AA (q0:Int) s.1).getD []++TH j) s.1)::R')[h.length+(i'+1)]?=some (.row none (ys.map fun n:Nat=>eI n) 0):=by
     rw[List.getElem?_append_right (by omega)];simpa using jg
    have hi':i'<R'.length:=MA jg
    refine zob hh1 jle (by omega) ?_ ?_
    ·refine⟨(j+1,R'.set i' (.row none (ys.map (fun n:Nat=>eI n)++[eI (nxt q0 j)]) 0),i',ys++[nxt q0 j],of'),?_,⟨by dsimp only;omega,⟨?_,?_,?_⟩,?_⟩,by dsimp only;omega⟩
     ·dsimp only
      rw[hvis,List.set_append_right _ _ (by omega)]
      simp only[List.length_append,List.length_cons,List.length_nil,Nat.add_sub_cancel_left,List.set_cons_succ];rw[show ys.length+1-of'=ys.length-of'+1 by omega]
     ·dsimp only
      rw[List.getElem?_set_self hi'];simp
     ·simp;omega
     ·dsimp only
      rw[hvis,List.drop_append_of_le_length jle,jeq]
     ·simp;omega
    ·refine⟨(j+1,R'++[.row none ((ys.drop of').map (fun n:Nat=>eI n)++[eI (nxt q0 j)]) 0],R'.length,ys.drop of'++[nxt q0 j],0),?_,⟨by dsimp only;omega,⟨?_,?_,?_⟩,?_⟩,by dsimp only;omega⟩
     ·dsimp only
      rw[hvis];simp
     ·simp
     ·simp
     ·dsimp only
      rw[hvis,jeq,List.drop_zero]
     ·simp;omega
  ·have hj2:j=2:=by omega
   subst hj2;simp only[go_sem];refine⟨(k+1,R',i',ys,of',some q0),?_,⟨by dsimp only;omega,by dsimp only;rw[hbn];exact jq,by dsimp only;omega⟩,by dsimp only;omega⟩
   dsimp only;rw[hbn]
 ·have hk16:k=16:=by omega
  subst hk16;obtain⟨_,hne⟩:=ze3 ha;have hz:xs.length-off=0:=by rw[hln,hne];rfl
  have lk:=fun(hp:bA) (hh:hp[h.length]?=some (BA AD ED (bfs a 16).1))=>z6X (b:=(b:Int)) hh
  have hpv:(AA (b:Int) (bfs a 16).1).getD []=qY a b:=rfl
  rcases oq with _|oq <;> simp only[List.append_nil,List.cons_append,List.nil_append,go_sem,hz,lk,hpv]
end Go.Am
end
section
/- ready: a WB call,computed. -/
open Go
set_option linter.all false
namespace Go.Am
def orcP (f:Nat)(a:List AV):Option AV:=bif Nat.beq f BI then match a with
 | [.p (.int .i64 x),.p (.int .i64 y)]=>bif decide (0≤x)&&decide (x<16)&&decide (0≤y)&&decide (y<16) then some (.p (.str (qY x.toNat y.toNat))) else none
 | _=>none else none
theorem zok:∀ f a v,orcP f a=some v→∀h (K:mA),K v h []→jA X0 f a h K:=by
 intro f a v hv h K hK;unfold orcP at hv;cases hf:Nat.beq f BI with
 | false=>rw[hf]at hv;cases hv
 | true=>
  have hf':=Nat.eq_of_beq_eq_true hf
  rw[hf]at hv;subst hf';simp only[cond_true]at hv;split at hv
  ·rename_i x y
   cases hc:(decide (0≤x)&&decide (x<16)&&decide (0≤y)&&decide (y<16)) with
   | false=>rw[hc]at hv;cases hv
   | true=>
    rw[hc]at hv;simp only[cond_true,Option.some.injEq]at hv;simp only[Bool.and_eq_true,decide_eq_true_eq]at hc;obtain⟨a,rfl⟩:=Int.eq_ofNat_of_zero_le hc.1.1.1;obtain⟨b,rfl⟩:=Int.eq_ofNat_of_zero_le hc.1.2;have:=zlz (h:=h) (K:=K) zs8 zs7 a b (by omega) (by omega)
    rw[this];subst hv;exact hK
  ·cases hv
theorem zpN:GM X0 orcP 1000 60 FG [] []=some (AB true,[],[]):=by kernel_rfl
theorem zui:jA X0 FG [] [] fun v h x=>v=AB true∧h=[]∧x=[]:=(z9e zok 1000 60 zpN _).2 ⟨rfl,rfl,rfl⟩
theorem zrh {h:bA}{K:mA}:jA X FG [] h K=K (AB true) h []:=z6U (by kernel_rfl) rfl
end Go.Am
end
section
/- What all laws of the keep package use. -/
open Go
set_option linter.all false
namespace Go.Am
variable {h:bA} {K:mA}
theorem zqU (l:List Int)(hl:l.length≤1000):jA X EG [AL l] h K=K (AI (PM l)) h []:=by
 refine IA ?_;rw[zf3 rfl];simp only[TP,go_sem];refine UA (fun k:Nat=>⟨[(5,AL l),(6,AI l.length),(7,AI k)],h,[]⟩) (fun k=>k≤l.length∧PM (l.drop k)=PM l) (fun k=>l.length-k) 0 rfl (by simp) ?_
 rintro k ⟨hk,hp⟩
 rcases Nat.lt_or_ge k l.length with hlt|hge
 ·have hg:=ZA eI hlt
  have w2:IntKind.i64.wrap ((k:Int)+1)=((k+1:Nat):Int):=JA _ (by omega) (by omega)
  rw[List.drop_eq_getElem_cons hlt,PM]at hp;by_cases he:l[k]=0
  ·rw[if_pos he]at hp
   simp only[go_sem,hlt,hg,w2,he];exact⟨k+1,rfl,⟨by omega,hp⟩,by omega⟩
  ·rw[if_neg he]at hp
   simp only[go_sem,hlt,hg,w2,he];rw[hp]
 ·have e1:k=l.length:=by omega
  subst e1;simp only[go_sem,Nat.lt_irrefl];rw[List.drop_length]at hp;rw[←hp];rfl
end Go.Am
end
section
/- Finding and deleting records,strings: printed by program. -/
open Go
set_option linter.unusedSimpArgs false
namespace Go.Am
attribute [-go_sem] PV.cells splice
variable {h:bA} {K:mA}
theorem zaS {v:AV}{g:Nat}{caps:List AV}{p:PV→Bool}{xs:List PV}(hv:Shows none v xs h)(hp:jE g caps p xs h)(hl:xs.length≤1000000000) :
 jA X jK [v,.fn g caps] h K=K (AI (OC p xs)) h []:=by
 refine IA ?_;rw[zgf];have vl:=hv.len
 simp only[sQ,go_sem,vl];refine UA (fun k:Nat=>⟨[(0,v),(1,.fn g caps),(7,AI xs.length),(8,AI k)],h,[]⟩) (fun k=>k≤xs.length∧∀x∈xs.take k,p x=false) (fun k=>xs.length-k) 0 rfl (by simp) ?_
 rintro k ⟨hk,hn⟩
 rcases Nat.lt_or_ge k xs.length with hlt|hge
 ·obtain⟨a,ha,hb⟩:=hv.get k hlt
  have w2:IntKind.i64.wrap ((k:Int)+1)=((k+1:Nat):Int):=JA _ (by omega) (by omega)
  have ht:=hp _ (List.getElem_mem hlt)
  cases hpk:p xs[k]with
  | true=>
   have hf:xs.findIdx p=k:=by
    rw[List.findIdx_eq hlt];refine⟨hpk,fun j hj=>?_⟩
    have:=hn xs[j] (by rw[List.mem_take_iff_getElem];exact⟨j,by omega,rfl⟩)
    simpa using this
   simp only[go_sem,hlt,ha,hb,ht,hpk,w2];simp only[OC,hf,hlt,if_true]
  | false=>
   simp only[go_sem,hlt,ha,hb,ht,hpk,w2];refine⟨k+1,rfl,⟨by omega,fun x hx=>?_⟩,by omega⟩
   rw[List.take_succ_eq_append_getElem hlt,List.mem_append,List.mem_singleton]at hx;rcases hx with hx|hx
   ·exact hn x hx
   ·rw[hx];exact hpk
 ·have e1:k=xs.length:=by omega
  subst e1;simp only[go_sem,Nat.lt_irrefl];rw[List.take_length]at hn;have:¬xs.findIdx p<xs.length:=by
   rw[Nat.not_lt,Nat.le_iff_lt_or_eq];right
   exact(List.findIdx_eq_length.2 (fun x hx=>by simp [hn x hx])).symm
  simp [OC,this]
attribute [-go_sem] AV.cells cut
attribute [go_sem] AV.cells cut
end Go.Am
end
section
/- Deleting strings at the front of a row: printed by program. -/
open Go
set_option linter.unusedSimpArgs false
namespace Go.Am
attribute [-go_sem] PV.cells splice
variable {h:bA} {K:mA}
theorem z9r (id n:Nat)(l tl:List PV)(hn:n=l.length+tl.length)(hs:bC none l)(hst0:bC none tl)(hl:l.length≤100000)(hh:h[id]?=some (.row none (l++tl) 0)){g:Nat}{caps:List AV}{p:PV→Bool}(hp:z1n g caps p l id h) :
 jA X dK [.own id n 0 l.length,.fn g caps] h K=K (.own id n 0 (l.filter fun x=>!p x).length) (h.set id (.row none ((l.filter fun x=>!p x)++(List.replicate (l.length-(l.filter fun x=>!p x).length) (PV.str [])++tl)) 0)) []:=by
 refine IA ?_;rw[zga];have hid:=yB hh
 have hst:∀o,(h.set id o)[id]?=some o:=fun o=>pG hid
 have hwin:win (l++tl) 0 l.length=l:=by simp [win]
 have hi:=fun K=>zaS (h:=h) (K:=K) (v:=.own id n 0 l.length) (xs:=l) (by
  have:=KL (sh:=none) (id:=id) (off:=0) (len:=l.length) (fz:=0) (xs:=l++tl) (zr0 hs hst0) hh (by simp)
  rw[hwin,List.length_append,←hn]at this;exact this) (fun x hx K=>by have:=hp (.row none (l++tl) 0) x hx K;rwa [qG hh]at this) (by omega)
 have hln:l.length≤n:=by omega
 simp only[nQ,go_sem,hi];by_cases hf:l.findIdx p<l.length
 ·have e1:OC p l=(l.findIdx p:Int):=by simp [OC,hf]
  have e2:¬((l.findIdx p:Int) = -1):=by omega
  have w0:IntKind.i64.wrap ((l.findIdx p:Int)+1)=((l.findIdx p+1:Nat):Int):=JA _ (by omega) (by omega)
  simp only[go_sem,e1,e2,w0];have hF0:((l.take (l.findIdx p+1)).filter fun x=>!p x)=l.take (l.findIdx p):=by
   rw[List.take_succ_eq_append_getElem hf,List.filter_append];have q1:(l.take (l.findIdx p)).filter (fun x=>!p x)=l.take (l.findIdx p):=by
    rw[List.filter_eq_self];intro x hx;obtain⟨j,hj,rfl⟩:=List.mem_take_iff_getElem.1 hx;have:=List.not_of_lt_findIdx (show j<l.findIdx p by omega)
    simpa using this
   rw[q1];have:p l[l.findIdx p]=true:=List.findIdx_getElem (w:=hf)
   simp [this]
  refine UA (fun t:List PV×Nat×Nat=>⟨[(0,.own id n 0 l.length),(1,.fn g caps),(5,AI t.2.1),(6,AI t.2.2)],h.set id (.row none (t.1++tl) 0),[]⟩)
   (fun t=>t.1.length=l.length∧bC none t.1∧t.2.1<t.2.2∧t.2.2≤l.length∧t.1.take t.2.1=((l.take t.2.2).filter fun x=>!p x)∧t.1.drop t.2.2=l.drop t.2.2) (fun t=>l.length-t.2.2)
   (l,l.findIdx p,l.findIdx p+1) (by rw[qG hh]) ⟨rfl,hs,by simp,hf,by rw[hF0],rfl⟩ ?_
  rintro⟨row,i,j⟩ ⟨r1,r2,r3,r4,r5,r6⟩
  dsimp only at r1 r2 r3 r4 r5 r6;have w1:IntKind.i64.wrap ((j:Int)+1)=((j+1:Nat):Int):=JA _ (by omega) (by omega)
  have w2:IntKind.i64.wrap ((i:Int)+1)=((i+1:Nat):Int):=JA _ (by omega) (by omega)
  rcases Nat.lt_or_ge j l.length with hlt|hge
  ·have g1:row[j]?=some l[j]:=by
    have:=congrArg (·[0]?) r6
    simp only[List.getElem?_drop,Nat.add_zero]at this;rw[this,List.getElem?_eq_getElem hlt]
   have hsj:=SG hs hlt
   have cx:=EF hsj
   have hil:i<l.length:=by omega
   have g2:row[i]?=some row[i]:=List.getElem?_eq_getElem (by omega)
   have g1t:(row++tl)[j]?=some l[j]:=by rw[List.getElem?_append_left (by omega)];exact g1
   have g2t:(row++tl)[i]?=some row[i]:=by rw[List.getElem?_append_left (by omega)];exact g2
   have hrl:(row++tl).length=n:=by rw[List.length_append,r1];omega
   have hset:(row++tl).set i l[j]=row.set i l[j]++tl:=List.set_append_left _ _ (by omega)
   generalize hRT:row++tl=rt at *;have hsi:=SG r2 (show i<row.length by omega)
   have t1:=fun xs h1=>NL hsj hsi id i 0 xs h1
   have lx:=ML hsj
   have sx:=LL hsj
   simp only[lA]at lx;have hpj:=fun o K=>hp o _ (List.getElem_mem hlt) K
   cases hpx:p l[j]with
   | true=>
    simp only[go_sem,hst,hrl,hln,hlt,g1t,cx,hpj,hpx,w1];refine⟨(row,i,j+1),by rw[hRT],⟨r1,r2,by dsimp only;omega,by dsimp only;omega,?_,?_⟩,by dsimp only;omega⟩
    ·rw[List.take_succ_eq_append_getElem hlt,List.filter_append]
     simp [hpx,r5]
    ·rw[←List.drop_drop,r6,List.drop_drop]
   | false=>
    simp only[go_sem,hst,hrl,hln,hlt,hil,g1t,g2t,cx,hpj,hpx,w1,w2,lx,sx,t1,hset];refine⟨(row.set i l[j],i+1,j+1),rfl,⟨by simpa using r1,fun x hx=>?_,by dsimp only;omega,by dsimp only;omega,?_,?_⟩,by dsimp only;omega⟩
    ·rcases List.mem_or_eq_of_mem_set hx with hx|rfl
     ·exact r2 x hx
     ·exact hsj
    ·dsimp only
     rw[List.take_succ_eq_append_getElem hlt,List.filter_append,←r5,List.take_succ_eq_append_getElem (by simp;omega)]
     simp [hpx,List.take_set_of_le]
    ·dsimp only
     rw[List.drop_set_of_lt (by omega),←List.drop_drop,r6,List.drop_drop]
  ·have ej:j=l.length:=by omega
   subst ej;rw[List.take_length]at r5;have hm:(l.filter fun x=>!p x).length=i:=by rw[←r5];simp;omega
   have hil:i≤l.length:=by omega
   have e3:l.length-i+i=l.length:=by omega
   have sp:splice (row++tl) i (List.replicate (l.length-i) (PV.str []))=(l.filter fun x=>!p x)++(List.replicate (l.length-i) (PV.str [])++tl):=by
    unfold splice;rw[List.take_append_of_le_length (by omega),r5,List.length_replicate,List.drop_append,List.drop_of_length_le (by omega),List.nil_append,List.append_assoc]
    rw[show i+(l.length-i)-row.length=0 by omega,List.drop_zero]
   have rl:((l.filter fun x=>!p x)++(List.replicate (l.length-i) (PV.str [])++tl)).length=n:=by simp only[List.length_append,hm,List.length_replicate];omega
   have rl2:(row++tl).length=n:=by rw[List.length_append,r1];omega
   rw[hm];generalize (l.filter fun x=>!p x)++(List.replicate (l.length-i) (PV.str [])++tl)=row' at *
   generalize row++tl=rt at *;have hb:¬h.length≤id:=by omega
   have hb2:max h.length (id+1)=h.length:=by omega
   have hb3:id+1≤h.length:=hid
   simp only[go_sem,Nat.lt_irrefl,hst,rl2,rl,hil,hln,sp,show i+(l.length-i)=l.length by omega,hb,hb2,hb3]
 ·have e1:OC p l = -1:=by simp [OC,hf]
  have hF:(l.filter fun x=>!p x)=l:=by
   rw[List.filter_eq_self];intro x hx;cases hpx:p x with
   | false=>rfl
   | true=>exact absurd (List.findIdx_lt_length_of_exists ⟨x,hx,hpx⟩) hf
  have hb:¬h.length≤id:=by omega
  have hb2:max h.length (id+1)=h.length:=by omega
  have hb3:id+1≤h.length:=hid
  simp only[go_sem,e1,hF,Nat.sub_self,List.replicate_zero,List.append_nil,hb,hb2,hb3];rw[qG hh]
end Go.Am
end
section
/- Clashes: the program. -/
open Go
set_option linter.all false
set_option maxRecDepth 100000
namespace Go.Am
variable {h:bA} {K:mA}
attribute [-go_sem] YA bB EB BB
def JC (b:Brd)(bits:List Nm2):List Nm2:=(tA b).filter fun n=>decide ((AA n (oB b bits)).getD 0=3)
def rP (b:Brd)(bits:List Nm2):List Nm2×Int:=if cC b bits≠0 then([],cC b bits) else(JC b bits,0)
theorem zq1 (b:Brd)(bits:List Nm2)(ho:BrdOk b)(hb:BitsL bits):jA X JJ [.p b.pv,nB bits] h K=K (.tup [.p (.sl none ((rP b bits).1.map PV.str)),AI (rP b bits).2]) h []:=by
 refine IA ?_;rw[zfb rfl];have ck:=fun hh K=>yS (h:=hh) (K:=K) b bits ho hb
 simp only[Brd.pv]at ck;unfold rP;by_cases h1:cC b bits=0
 ·rw[if_neg (by simp [h1])]
  have lv:=fun hh K=>SY (h:=hh) (K:=K) ho h1
  simp only[Brd.pv]at lv;simp only[yP,Brd.pv,go_sem,ck,h1,lv];have R:=UH (OF h1).1
  have hj:=R.j
  obtain⟨xs,x1,x2,x3,x4,sn⟩:=JL (h:=h++[qA b,qA b,BA PV.str TA (oB b bits),Obj.box [AV.mp (h.length+1+1)]]) b (by omega)
  simp only[Brd.pv]at sn;have hb0:Obj.box [AV.p (PV.sl (some 2) (List.map Prt.pv b.parts)),AV.p (PV.sl (some 3) (List.map Jon.pv b.joins)),AV.p (PV.sl (some 2) (List.map Pul.pv b.pulls))]=qA b:=rfl
  rw[hb0,sn];simp only[go_sem];have hx:xs=(tA b).map PV.str++xs.drop (tA b).length:=by
   have:xs.take (tA b).length=(tA b).map PV.str:=by rw[←x2];simp [win]
   rw[←this,List.take_append_drop]
  have lk:=fun(n:Nm2) (t:bA)=>rF (kk:=(none,[2])) (h:=h++qA b::qA b::BA PV.str TA (oB b bits)::t) (id:=h.length+2) (k:=n) (val:=TA) (l:=oB b bits) eG (by simp) fG (ok:=false) (z:=AI 0)
  simp only[cond_false]at lk;generalize hdr:xs.drop (tA b).length=tl at *;have ln0:((tA b).map PV.str).length=(tA b).length:=List.length_map ..
  have ltl:b.joins.length=((tA b).map PV.str).length+tl.length:=by rw[←x1,hx,List.length_append]
  have hst:bC none tl:=fun x hx'=>x4 x (by rw[hx];exact List.mem_append_right _ hx')
  have hsn:bC none ((tA b).map PV.str):=fun x hx'=>x4 x (by rw[hx];exact List.mem_append_left _ hx')
  let pf:PV→Bool:=fun v=>match v with | .str n=>!decide ((AA n (oB b bits)).getD 0=3)|_=>false
  have fl:((tA b).map PV.str).filter (fun x=>!pf x)=(JC b bits).map PV.str:=by
   unfold JC;rw[List.filter_map];congr 1
   refine List.filter_congr fun n _=>?_
   show(!(!decide _))=_
   rw[Bool.not_not]
  have TS:z1n KJ [AV.ref (h.length+3) 0] pf ((tA b).map PV.str) (h.length+5) (h++[qA b,qA b,BA PV.str TA (oB b bits),Obj.box [AV.mp (h.length+1+1)],qA b,Obj.row none ((tA b).map PV.str++tl) 0]):=by
   intro o x hx' K';obtain⟨n,hn,rfl⟩:=List.mem_map.1 hx';refine IA ?_;rw[zfc rfl];have gv:((AA n (oB b bits)).map TA).getD (AI 0)=AI ((AA n (oB b bits)).getD 0):=by
    cases AA n (oB b bits) <;> rfl
   have lkn:=lk n
   rw[gv]at lkn;have pe:pf (.str n) = !decide ((AA n (oB b bits)).getD 0=3):=rfl
   generalize (AA n (oB b bits)).getD 0=v at *;generalize BA PV.str TA (oB b bits)=mo at *;generalize qA b=bo at *;simp only[QU,go_sem,lkn,pe]
  have DF:=fun K=>z9r (h:=h++[qA b,qA b,BA PV.str TA (oB b bits),Obj.box [AV.mp (h.length+1+1)],qA b,Obj.row none ((tA b).map PV.str++tl) 0]) (K:=K) (h.length+5) b.joins.length ((tA b).map PV.str) tl ltl hsn hst (by simp;omega) (by simp) TS
  rw[fl,ln0]at DF;subst hx;rw[DF];have es:TB (h.length+3) (AV.mp (h.length+1+1))=[]:=if_neg (show ¬h.length+3<h.length+3 by omega)
  have lc:(JC b bits).length≤b.joins.length:=by
   have:(JC b bits).length≤(tA b).length:=List.length_filter_le _ _
   omega
  have lt2:((JC b bits).map PV.str).length=(JC b bits).length:=List.length_map ..
  generalize hrow:(List.map PV.str (JC b bits)++(List.replicate ((tA b).length-((JC b bits).map PV.str).length) (PV.str [])++tl))=row at *;have wr:win row 0 (JC b bits).length=(JC b bits).map PV.str:=by
   rw[←hrow];unfold win;rw[List.drop_zero,List.take_append_of_le_length (by simp)]
   exact List.take_of_length_le (by simp)
  have rl:row.length=b.joins.length:=by
   have:(JC b bits).length≤(tA b).length:=List.length_filter_le _ _
   rw[←hrow];simp at ltl ⊢;omega
  simp only[lt2,go_sem,es,wr,rl,lc]
 ·rw[if_pos h1]
  simp only[yP,Brd.pv,go_sem,ck,h1]
end Go.Am
end
section
/- Captured: the program,all parts. -/
open Go
set_option linter.all false
set_option maxRecDepth 100000
namespace Go.Am
variable {h:bA} {K:mA}
attribute [-go_sem] YA bB EB BB
theorem toB2:∀ s:List UInt8,FF (iB s)=some s
 | []=>rfl
 | c::r=>by
  have ih:=toB2 r
  unfold iB at ih ⊢;rw[List.map_cons];unfold FF;rw[ih];have:((c.toNat:Int))<256:=by have:=c.toNat_lt;omega
  rw[if_pos ⟨by omega,this⟩]
  simp
theorem zgy {b:Brd}{bits:List Nm2}(h:bits.length=b.parts.length):(SB b bits).length=b.parts.length:=by unfold SB;simp [h]
theorem z8d (b:Brd)(bits:List Nm2)(ho:BrdOk b)(hb:BitsL bits):jA X lH [.p b.pv,nB bits] h K=K (.tup [.p (.sl none ((capP b bits).1.map PV.str)),AI (capP b bits).2]) h []:=by
 refine IA ?_;rw[zeY rfl];have ck:=fun hh K=>yS (h:=hh) (K:=K) b bits ho hb
 simp only[Brd.pv]at ck;unfold capP;by_cases h1:cC b bits=0
 ·rw[if_neg (by simp [h1])]
  have R:=UH (OF h1).1
  have hj:=R.j
  have hp40:=R.p
  have lv:=fun hh K=>SY (h:=hh) (K:=K) ho h1
  have nt:=fun hh K=>z8r (h:=hh) (K:=K) b (by omega) R.w
  simp only[Brd.pv]at lv nt;have ln:(b.parts.map Prt.pv).length=b.parts.length:=List.length_map ..
  simp only[jM,Brd.pv,go_sem,ck,h1,lv,nt,ln];obtain⟨f1,f2,f3⟩:=OF h1;have bo:=aF h1
  have cl:=zgy f2
  generalize hM:oB b bits=M at *;refine UA (fun k:Nat=>⟨[(1,nB bits),(7,.mp (h.length+2)),(8,.mp (h.length+4)),(9,.own (h.length+5) k 0 k),(29,aD b.parts),(30,AI b.parts.length),(31,AI k)],H6 h b M (((SB b bits).take k).map PV.str) [],[]⟩) (fun k=>k≤b.parts.length) (fun k=>b.parts.length-k) 0 rfl (by omega) ?_
  intro k hk;rcases Nat.lt_or_ge k b.parts.length with hlt|hge
  ·have g:=ZA Prt.pv hlt
   have w2:IntKind.i64.wrap ((k:Int)+1)=((k+1:Nat):Int):=JA _ (by omega) (by omega)
   have c1:QA (some 2) 0 b.parts[k].pv=some b.parts[k].pv:=rfl
   obtain⟨s,hs,hsl,_⟩:=bo.l k hlt;have gs:(bits.map PV.str)[k]?=some (.str s):=by rw[List.getElem?_map,hs];rfl
   have kb:k<bits.length:=by omega
   have tk:(SB b bits).take (k+1)=(SB b bits).take k++[ZB b M b.parts[k] s]:=by
    rw[List.take_succ_eq_append_getElem (by omega)]
    have:bits[k]=s:=by rw[List.getElem?_eq_getElem kb]at hs;exact Option.some.inj hs
    simp [SB,hM,this]
   have c200:=R.c _ (List.getElem_mem hlt)
   have tl:(((SB b bits).take k).map PV.str).length=k:=by simp;omega
   generalize hp:b.parts[k]=p at *;have cr0:iD b M p s 0=s.map fun z=>PV.int .u8 z.toNat:=by unfold iD;simp
   have hcs:(ZB b M p s).length=s.length:=by simp [ZB,hsl]
   have lc:(p.cells.map Cel.pv).length=p.cells.length:=List.length_map ..
   simp only[Prt.pv]at g c1;generalize hrows:((SB b bits).take k).map PV.str=rows at *;have km:k+1≤XA:=by unfold XA;omega
   have sm:s.length≤XA:=by unfold XA;omega
   have e0:=fun K fin=>zqG (h:=h) (K:=K) b bits (M:=M) (rows:=rows) (p:=p) (s:=s) (i:=k) (m:=k) hsl (by omega) fin
   rw[cr0]at e0;simp only[H6,go_sem,hlt,g,c1,w2,gs,lc,sm];refine e0 (wA 2 _) fun z=>?_
   have hcm:(ZB b M p s).map (fun z=>PV.int .u8 z.toNat)=iB (ZB b M p s):=rfl
   rw[hcm];generalize hC:ZB b M p s=cs at *;have bl:(iB cs).length=s.length:=by simp [iB,hcs]
   have wb:win (iB cs) 0 s.length=iB cs:=HF bl
   have tb:=toB2 cs
   simp only[H6,Prt.bx,go_sem,w2,tl,km,bl,wb,tb];refine⟨k+1,?_,by omega,by omega⟩
   rw[tk,List.map_append,hrows];rfl
  ·have e:k=b.parts.length:=by omega
   subst e;rw[List.take_of_length_le (by omega)]
   have wf:win ((SB b bits).map PV.str) 0 b.parts.length=(SB b bits).map PV.str:=HF (by simp [cl])
   simp only[H6,go_sem,Nat.lt_irrefl,cl,wf]
 ·rw[if_pos h1]
  simp only[jM,Brd.pv,go_sem,ck,h1]
end Go.Am
end
section
/- The reference: bits' fault,the net of a pin. -/
open Go
set_option linter.all false
set_option maxRecDepth 100000
namespace Go.Am
variable {h:bA} {K:mA}
attribute [-go_sem] YA bB EB BB
theorem zqx (b:Brd)(bits:List Nm2)(ho:BrdOk b)(hb:BitsL bits):jA X WJ [.p b.pv,nB bits] h K=K (AI (cC b bits)) h []:=by
 refine IA ?_;rw[zfH rfl];have ln:(b.parts.map Prt.pv).length=b.parts.length:=List.length_map ..
 have lb:(bits.map PV.str).length=bits.length:=List.length_map ..
 have ck:=fun hh K=>z8c (h:=hh) (K:=K) b ho
 simp only[Brd.pv]at ck;unfold cC;have hn:=hb.n
 by_cases h1:fD b=0
 ·rw[if_neg (by simp [h1])]
  by_cases h2:bits.length=b.parts.length
  ·rw[if_neg (by simp [h2])]
   have h2':((bits.length:Int)=b.parts.length)=True:=eq_true (by omega)
   simp only[CJ,Brd.pv,go_sem,ck,h1,ln,lb,h2'];refine UA (fun k:Nat=>⟨[(2,.ref h.length 0),(19,nB bits),(20,AI bits.length),(21,AI k)],h++[qA b],[]⟩) (fun k=>k≤bits.length∧∀j (j1:j<bits.length) (j2:j<b.parts.length),j<k→okB bits[j] b.parts[j]=true) (fun k=>bits.length-k) 0 rfl ⟨by omega,fun j _ _ hj=>absurd hj (by omega)⟩ ?_
   rintro k ⟨hk,hpre⟩
   rcases Nat.lt_or_ge k bits.length with hlt|hge
   ·have hlt2:k<b.parts.length:=by omega
    have g1:=ZA PV.str hlt
    have g2:=ZA Prt.pv hlt2
    have hs:bits[k].length≤1000000:=hb.l _ (List.getElem_mem hlt)
    have w2:IntKind.i64.wrap ((k:Int)+1)=((k+1:Nat):Int):=JA _ (by omega) (by omega)
    have ihk:=hpre
    have okd:okB bits[k] b.parts[k]=(decide (bits[k].length=b.parts[k].cells.length)&&vD bits[k]):=rfl
    have bad:=fun h=>rU (b:=b) (bits:=bits) hlt hlt2 h
    have nxt:okB bits[k] b.parts[k]=true→∀j (j1:j<bits.length) (j2:j<b.parts.length),j<k+1→okB bits[j] b.parts[j]=true:=fun h j j1 j2 hj=>by
     by_cases e:j=k
     ·subst e;exact h
     ·exact hpre j j1 j2 (by omega)
    generalize okB bits[k] b.parts[k]=ok at *;generalize bits[k]=s at *;generalize b.parts[k]=p at *;have lc:(p.cells.map Cel.pv).length=p.cells.length:=List.length_map ..
    have sB:=fun hh K=>zqz (h:=hh) (K:=K) s hs
    simp only[Prt.pv]at g2;cases hB:vD s with
    | false=>
     rw[bad (by rw[okd,hB,Bool.and_false])]
     simp only[qA,go_sem,hlt,hlt2,g1,g2,w2,ln,lb,lc,sB,hB]
    | true=>
     by_cases hle:s.length=p.cells.length
     ·have e1:((s.length:Int)=p.cells.length)=True:=eq_true (by omega)
      rw[decide_eq_true hle,hB,Bool.true_and]at okd;simp only[qA,go_sem,hlt,hlt2,g1,g2,w2,ln,lb,lc,e1,sB,hB];exact⟨k+1,rfl,⟨hlt,nxt okd⟩,by omega⟩
     ·have e1:((s.length:Int)=p.cells.length)=False:=eq_false (by omega)
      rw[decide_eq_false hle,Bool.false_and]at okd;rw[bad okd];simp only[qA,go_sem,hlt,hlt2,g1,g2,w2,ln,lb,lc,e1,sB,hB]
   ·have e:k=bits.length:=by omega
    subst e;rw[sU fun j j1 j2=>hpre j j1 j2 j1]
    simp only[go_sem,Nat.lt_irrefl]
  ·rw[if_pos h2]
   have h2':((bits.length:Int)=b.parts.length)=False:=eq_false (by omega)
   simp only[CJ,Brd.pv,go_sem,ck,h1,ln,lb,h2']
 ·rw[if_pos h1]
  simp only[CJ,Brd.pv,go_sem,ck,h1,ln,lb]
end Go.Am
end
section
/- CapturedIsSeen returns true. -/
open Go
set_option linter.all false
set_option maxRecDepth 100000
namespace Go.Am
variable {h:bA} {K:mA}
attribute [-go_sem] YA bB EB BB
attribute [-go_sem] iW RP
theorem zq3 (l:List Nm2)(hl:l.length≤1000000):jA X eK [nB l,nB l] h K=K (AB true) h []:=by
 refine IA ?_;rw[zgb rfl];have ln:(l.map PV.str).length=l.length:=List.length_map ..
 simp only[oQ,go_sem,ln];refine UA (fun k:Nat=>⟨[(0,nB l),(1,nB l),(12,AI l.length),(13,AI k)],h,[]⟩) (fun k=>k≤l.length) (fun k=>l.length-k) 0 rfl (by simp) ?_
 intro k hk;rcases Nat.lt_or_ge k l.length with hlt|hge
 ·have hg:=ZA PV.str hlt
  have w2:IntKind.i64.wrap ((k:Int)+1)=((k+1:Nat):Int):=JA _ (by omega) (by omega)
  simp only[go_sem,hlt,hg,w2,ln];exact⟨k+1,rfl,by omega,by omega⟩
 ·have e1:k=l.length:=by omega
  subst e1;simp only[go_sem,Nat.lt_irrefl]
theorem DD (s:List UInt8)(c:UInt8)(hs:s.length≤1000000):jA X wH [AS s,AS [c]] h K=K (AB (s.contains c)) h []:=by
 refine IA ?_;rw[zgp rfl];have IX:∀(hh:bA) (K:mA),jA X nK [AS s,AS [c]] hh K=K (AI (oD s c)) hh []:=fun hh K=>by
  refine IA ?_;rw[zgq rfl];have q:=fun h K=>zrj (h:=h) (K:=K) s c hs
  simp only[ZV,go_sem,↓q,q]
 have e:=z67 s c
 have e2:decide (0≤oD s c)=s.contains c:=by
  cases hc:s.contains c with
  | true=>
   rw[hc]at e;have:¬oD s c<0:=by simpa using e
   exact decide_eq_true (by omega)
  | false=>
   rw[hc]at e;have:oD s c<0:=by simpa using e
   exact decide_eq_false (by omega)
 simp only[YV,go_sem,↓IX,IX,e2]
theorem zq9 (b:Brd)(ho:BrdOk b)(h0:fD b=0):jA X LJ [.p b.pv] h K=K (.tup [nB (tA b),AI 0]) h []:=by
 refine IA ?_;rw[zfe rfl];have ck:=fun hh K=>z8e (h:=hh) (K:=K) b ho
 rw[h0]at ck;have hj:=ho.j.l
 obtain⟨xs,x1,x2,x3,x4,sn⟩:=JL (h:=h++[qA b]) b (by omega)
 simp only[Brd.pv]at ck sn;have hB:Obj.box [AV.p (PV.sl (some 2) (b.parts.map Prt.pv)),AV.p (PV.sl (some 3) (b.joins.map Jon.pv)),AV.p (PV.sl (some 2) (b.pulls.map Pul.pv))]=qA b:=rfl
 simp only[RU,Brd.pv,go_sem,↓ck,ck];rw[hB,sn];have e:VA h.length (h++[qA b,qA b,.row none xs 0]) (kB [.own (h.length+1+1) b.joins.length 0 (tA b).length,AI 0])=some (.tup [nB (tA b),AI 0]):=by
  have hB:h.length≤h.length+1+1:=by omega
  have r1:VA h.length (h++[qA b,qA b,.row none xs 0]) (.own (h.length+1+1) b.joins.length 0 (tA b).length)=some (nB (tA b)):=by
   simp only[VA,hB,if_true,rd];rw[List.getElem?_append_right (by omega),show h.length+1+1-h.length=2 by omega]
   simp [x1,x2,x3]
  show(ZD h.length _ [.own (h.length+1+1) b.joins.length 0 (tA b).length,AI 0]).map AV.tup=_
  simp only[ZD,r1];rfl
 have t0:(AV.tup [nB (tA b),AI 0]).top=0:=by simp [AV.top,AV.tops]
 have RT:∀P:mA,LC false h.length P (some [.own (h.length+1+1) b.joins.length 0 (tA b).length,AI 0]) (h++[qA b,qA b,.row none xs 0]) []=P (.tup [nB (tA b),AI 0]) h []:=fun P=>by
  rw[DY,e];dsimp only;rw[t0,Nat.max_eq_left (Nat.zero_le _),e];dsimp only;rw[t0];simp
 simp only[go_sem,↓RT,RT]
theorem cs_k1 {K:Ex→St→Prop}{b:Brd}{bits:List Nm2}(ho:BrdOk b)(hbL:BitsL (SB b bits))(hf:cC b bits=0){z0:Obj}(hn12:(tA b).length≤12)
 (fin:∀z,K (.exit 0) ⟨[(4,.ref 1 0),(6,nB (SB b bits)),(10,.p (.sl none ((BD b bits).map eI))),(14,nB (JC b bits)),(84,nB (tA b)),(85,AI (tA b).length),(86,AI (tA b).length),z],[z0,qA b],[]⟩) :
 FA (jA X) X.gl PI K [(4,.ref 1 0),(6,nB (SB b bits)),(10,.p (.sl none ((BD b bits).map eI))),(14,nB (JC b bits)),(84,nB (tA b)),(85,AI (tA b).length),(86,AI 0)] [z0,qA b] []:=by
 refine UA (fun k:Nat=>⟨[(4,.ref 1 0),(6,nB (SB b bits)),(10,.p (.sl none ((BD b bits).map eI))),(14,nB (JC b bits)),(84,nB (tA b)),(85,AI (tA b).length),(86,AI k)],[z0,qA b],[]⟩) (fun k=>k≤(tA b).length) (fun k=>(tA b).length-k) 0 rfl (by omega) ?_
 intro k hk;have lN:((tA b).map PV.str).length=(tA b).length:=List.length_map ..
 rcases Nat.lt_or_ge k (tA b).length with hlt|hge
 ·have w2:IntKind.i64.wrap ((k:Int)+1)=((k+1:Nat):Int):=JA _ (by omega) (by omega)
  have g:=ZA PV.str hlt
  have hn:=List.getElem_mem hlt
  have lv:((BD b bits).map eI)[k]?=some (.int .i64 (xK b bits (tA b)[k])):=by
   unfold BD;rw[List.map_map,List.getElem?_map,List.getElem?_eq_getElem hlt];rfl
  generalize (tA b)[k]=n at *;have SN:=fun hh K=>zqC (h:=hh) (K:=K) ho hbL (xU hf) hn
  have cl:(JC b bits).contains n=decide (xK b bits n=3):=by
   unfold JC;rw[Bool.eq_iff_iff];simp only[List.contains_iff_mem,List.mem_filter,decide_eq_true_eq];exact⟨fun q=>q.2,fun q=>⟨hn,q⟩⟩
  have cll:(JC b bits).length≤1000000:=by
   have:=List.length_filter_le (fun n=>decide ((AA n (oB b bits)).getD 0=3)) (tA b)
   unfold JC;omega
  have CC:=fun hh K=>pO (h:=hh) (K:=K) (v:=nB (JC b bits)) (JC b bits) (fun h' _=>GS KS) n cll
  rw[cl]at CC;rw[zru hf n]at SN;have lg:(grp (wB b 1 b.parts.length) n).length≤1000000:=by
   have R:=UH (OF hf).1
   have h1:=VQ (wB b 1 b.parts.length) n
   have h2:=iN b 1 b.parts.length (Nat.le_refl _) fun p hp=>by have:=R.c p hp;omega
   have:b.parts.length*1000≤40*1000:=Nat.mul_le_mul (by have:=R.p;omega) (Nat.le_refl _)
   omega
  generalize (grp (wB b 1 b.parts.length) n).length=m at *;generalize xK b bits n=lvl at *;simp only[Brd.pv]at SN;have hB:qA b=Obj.box [AV.p (PV.sl (some 2) (b.parts.map Prt.pv)),AV.p (PV.sl (some 3) (b.joins.map Jon.pv)),AV.p (PV.sl (some 2) (b.pulls.map Pul.pv))]:=rfl
  rw[hB];generalize b.parts.map Prt.pv=ps at *;generalize b.joins.map Jon.pv=js at *;generalize b.pulls.map Pul.pv=us at *;have SC:=fun hh K (c:UInt8) (z:UInt8)=>DD (h:=hh) (K:=K) (List.replicate m z) c (by simpa using lg)
  have nlt:((k:Int)<((tA b).length:Int))=True:=eq_true (by omega)
  have cx:∀(m:Nat) (z c:UInt8),(List.replicate (m+1) z).contains c=(c==z):=fun m z c=>by
   rw[Bool.eq_iff_iff];simp [List.mem_replicate]
  have q1:((48:UInt8)==49)=false:=rfl
  have q2:((49:UInt8)==49)=true:=rfl
  have q3:((48:UInt8)==48)=true:=rfl
  have q4:((49:UInt8)==48)=false:=rfl
  have c0:∀c:UInt8,([]:List UInt8).contains c=false:=fun c=>rfl
  have g0:∀(m:Nat) (z:UInt8),(List.replicate (m+1) z)[0]?=some z:=fun m z=>by simp
  have nn:∀(m:Nat) (z:UInt8),(List.replicate (m+1) z=[])=False:=fun m z=>by simp
  by_cases h1:lvl=1
  ·subst h1
   have d3:decide ((1:Int)=3)=false:=rfl
   have zz:(if(1:Int)=1∨(1:Int)=2 then(49:UInt8) else 48)=49:=rfl
   rw[zz]at SN;rw[d3]at CC;rcases m with _|m
   ·have A0:=fun hh K=>DD (h:=hh) (K:=K) [] 48 (by simp)
    have A1:=fun hh K=>DD (h:=hh) (K:=K) [] 49 (by simp)
    simp only[c0]at A0 A1;simp only[List.replicate_zero]at SN;simp only[go_sem,nlt,g,w2,lv,↓SN,SN,↓A0,A0,↓A1,A1,↓CC,CC,lN];exact⟨k+1,rfl,hlt,by omega⟩
   ·have A0:=fun hh K=>DD (h:=hh) (K:=K) (List.replicate (m+1) 49) 48 (by simp;omega)
    have A1:=fun hh K=>DD (h:=hh) (K:=K) (List.replicate (m+1) 49) 49 (by simp;omega)
    simp only[cx,q1,q2,q3,q4]at A0 A1;have G0:=g0 m 49
    have N0:=nn m 49
    generalize List.replicate (m+1) (49:UInt8)=S at *;simp only[go_sem,nlt,g,w2,lv,↓SN,SN,↓A0,A0,↓A1,A1,↓CC,CC,lN,G0,N0,q1,q2,q3,q4];exact⟨k+1,rfl,hlt,by omega⟩
  ·by_cases h2:lvl=2
   ·subst h2
    have d3:decide ((2:Int)=3)=false:=rfl
    have zz:(if(2:Int)=1∨(2:Int)=2 then(49:UInt8) else 48)=49:=rfl
    rw[zz]at SN;rw[d3]at CC;rcases m with _|m
    ·have A0:=fun hh K=>DD (h:=hh) (K:=K) [] 48 (by simp)
     have A1:=fun hh K=>DD (h:=hh) (K:=K) [] 49 (by simp)
     simp only[c0]at A0 A1;simp only[List.replicate_zero]at SN;simp only[go_sem,nlt,g,w2,lv,↓SN,SN,↓A0,A0,↓A1,A1,↓CC,CC,lN];exact⟨k+1,rfl,hlt,by omega⟩
    ·have A0:=fun hh K=>DD (h:=hh) (K:=K) (List.replicate (m+1) 49) 48 (by simp;omega)
     have A1:=fun hh K=>DD (h:=hh) (K:=K) (List.replicate (m+1) 49) 49 (by simp;omega)
     simp only[cx,q1,q2,q3,q4]at A0 A1;have G0:=g0 m 49
     have N0:=nn m 49
     generalize List.replicate (m+1) (49:UInt8)=S at *;simp only[go_sem,nlt,g,w2,lv,↓SN,SN,↓A0,A0,↓A1,A1,↓CC,CC,lN,G0,N0,q1,q2,q3,q4];exact⟨k+1,rfl,hlt,by omega⟩
   ·have zz:(if lvl=1∨lvl=2 then(49:UInt8) else 48)=48:=if_neg (by omega)
    by_cases h3:lvl=3
    ·subst h3
     have d3:decide ((3:Int)=3)=true:=rfl
     rw[zz]at SN;rw[d3]at CC;rcases m with _|m
     ·have A0:=fun hh K=>DD (h:=hh) (K:=K) [] 48 (by simp)
      have A1:=fun hh K=>DD (h:=hh) (K:=K) [] 49 (by simp)
      simp only[c0]at A0 A1;simp only[List.replicate_zero]at SN;simp only[go_sem,nlt,g,w2,lv,↓SN,SN,↓A0,A0,↓A1,A1,↓CC,CC,lN,h1,h2];exact⟨k+1,rfl,hlt,by omega⟩
     ·have A0:=fun hh K=>DD (h:=hh) (K:=K) (List.replicate (m+1) 48) 48 (by simp;omega)
      have A1:=fun hh K=>DD (h:=hh) (K:=K) (List.replicate (m+1) 48) 49 (by simp;omega)
      simp only[cx,q1,q2,q3,q4]at A0 A1;have G0:=g0 m 48
      have N0:=nn m 48
      generalize List.replicate (m+1) (48:UInt8)=S at *;simp only[go_sem,nlt,g,w2,lv,↓SN,SN,↓A0,A0,↓A1,A1,↓CC,CC,lN,G0,N0,q1,q2,q3,q4,h1,h2];exact⟨k+1,rfl,hlt,by omega⟩
    ·have d3:decide (lvl=3)=false:=decide_eq_false h3
     rw[zz]at SN;rw[d3]at CC;rcases m with _|m
     ·have A0:=fun hh K=>DD (h:=hh) (K:=K) [] 48 (by simp)
      have A1:=fun hh K=>DD (h:=hh) (K:=K) [] 49 (by simp)
      simp only[c0]at A0 A1;simp only[List.replicate_zero]at SN;simp only[go_sem,nlt,g,w2,lv,↓SN,SN,↓A0,A0,↓A1,A1,↓CC,CC,lN,h1,h2,h3];exact⟨k+1,rfl,hlt,by omega⟩
     ·have A0:=fun hh K=>DD (h:=hh) (K:=K) (List.replicate (m+1) 48) 48 (by simp;omega)
      have A1:=fun hh K=>DD (h:=hh) (K:=K) (List.replicate (m+1) 48) 49 (by simp;omega)
      simp only[cx,q1,q2,q3,q4]at A0 A1;have G0:=g0 m 48
      have N0:=nn m 48
      generalize List.replicate (m+1) (48:UInt8)=S at *;simp only[go_sem,nlt,g,w2,lv,↓SN,SN,↓A0,A0,↓A1,A1,↓CC,CC,lN,G0,N0,q1,q2,q3,q4,h1,h2,h3];exact⟨k+1,rfl,hlt,by omega⟩
 ·have e:k=(tA b).length:=by omega
  subst e;simp only[go_sem,Nat.lt_irrefl];exact fin _
set_option maxHeartbeats 2000000 in
theorem law_CS (L:List Int){K:mA}:jA X OQ [AL L] [] K=K (AB true) [] []:=by
 refine IA ?_;rw[zf2 rfl];obtain⟨_,a1,⟨b,E,h0,rfl,h1,h2⟩,V1⟩:=(zlw (L:=L) (a:=0) (by unfold sA;omega)).hd (l:=[])
 have ho:=z1J E
 have hp40:b.parts.length≤40:=by have:=E.p;omega
 have hc200:∀p∈b.parts,p.cells.length≤200:=fun p hp=>by have:=(E.e p hp).2.1;omega
 have V2:=fun(l:bA) K=>(zlv (L:=L) b (a:=a1) hp40 hc200 (by unfold sA;omega)).hd (l:=l) (K:=K)
 have hb:=(zeL (L:=L) (a:=a1) hp40 hc200).1
 generalize (vG b L a1).1=bits at *;generalize (vG b L a1).2=a2 at *;have C5:=fun hh K=>zqx (h:=hh) (K:=K) b bits ho hb
 have D1:=fun hh K=>zrh (h:=hh) (K:=K)
 by_cases hf:cC b bits=0
 ·have O:=aF hf
  have cok:=xU hf
  have hbL:BitsL (SB b bits):=by
   refine⟨by rw[VH O.n];omega,fun s hs=>?_⟩
   have O2:=aF cok
   obtain⟨i,hi,rfl⟩:=List.mem_iff_getElem.1 hs;rw[VH O.n]at hi;obtain⟨t,t1,t2,_⟩:=O2.l i hi;rw[List.getElem?_eq_getElem (by rw[VH O.n];exact hi)]at t1
   rw[Option.some.inj t1,t2];have:=hc200 _ (List.getElem_mem hi);omega
  have C1:=fun hh K=>zq6 (h:=hh) (K:=K) b bits ho hb
  have C2:=fun hh K=>z8d (h:=hh) (K:=K) b bits ho hb
  have C6:=fun hh K=>z8d (h:=hh) (K:=K) b (SB b bits) ho hbL
  have C3:=fun hh K=>zq1 (h:=hh) (K:=K) b bits ho hb
  have C4:=fun hh K=>zq9 (h:=hh) (K:=K) b ho h0
  have ER:∀(hh:bA) (K:mA),jA X EG [.p (.sl none [.int .i64 0,.int .i64 0,.int .i64 0,.int .i64 0,.int .i64 0])] hh K=K (AI 0) hh []:=fun hh K=>zqU (h:=hh) (K:=K) [0,0,0,0,0] (by simp)
  unfold cR at C1;unfold capP at C2 C6;unfold rP at C3;rw[if_neg (by simp [hf])]at C1 C2 C3
  rw[if_neg (by simp [cok]),zg2 hf]at C6
  rw[hf]at C5;dsimp only at C1 C2 C3 C6;have l3:(SB b bits).length≤1000000:=by rw[VH O.n];omega
  have EQ:=fun hh K=>zq3 (h:=hh) (K:=K) (SB b bits) l3
  have n12:(tA b).length≤12:=by
   have:=z22 eqN (b.joins.map Jon.net);have hj:=E.j
   unfold tA;simp at this;omega
  have k1:=fun(z0:Obj) (K:Ex→St→Prop)=>cs_k1 (K:=K) (b:=b) (bits:=bits) (z0:=z0) ho hbL hf n12
  have ll:((BD b bits).map eI).length=(tA b).length:=by simp [BD]
  have ln:((tA b).map PV.str).length=(tA b).length:=List.length_map ..
  have hB:qA b=Obj.box [AV.p (PV.sl (some 2) (b.parts.map Prt.pv)),AV.p (PV.sl (some 3) (b.joins.map Jon.pv)),AV.p (PV.sl (some 2) (b.pulls.map Pul.pv))]:=rfl
  rw[hB]at k1;simp only[Brd.pv]at V1 V2 C1 C2 C3 C4 C5 C6;generalize b.parts.map Prt.pv=ps at *;generalize b.joins.map Jon.pv=js at *;generalize b.pulls.map Pul.pv=us at *;simp only[rM,go_sem,↓V1,V1,↓V2,V2,↓C5,C5,↓C2,C2,↓C6,C6,↓C1,C1,↓C4,C4,↓C3,C3,↓ER,ER,↓EQ,EQ,ll,ln];refine k1 _ (wA 0 _) fun z=>?_
  simp only[go_sem];rw[iW];simp only[RP,go_sem,↓D1,D1]
 ·simp only[Brd.pv]at V1 V2 C5
  generalize cC b bits=f at *;generalize b.parts.map Prt.pv=ps at *;generalize b.joins.map Jon.pv=js at *;generalize b.pulls.map Pul.pv=us at *;simp only[rM,go_sem,↓V1,V1,↓V2,V2,↓C5,C5,hf,↓D1,D1]
end Go.Am
end
section
/- From a law that is true here tov the model's calls at what came in. -/
open Go
namespace Go.Am
variable {P:Program}
theorem law_nil {X:Ctx}(HX:Fits P X){f:Nat}{F:AFun}(hF:X.fn f=some F)(H:∀ L:List Int,jA X f [mS L] [] fun v _ _=>v = .p (.bool true))(W:World)(hG:gE X.gl (imm [] [] W)) :
 Calls P f #[.slice none 0 0] W fun e W'=>e = .returned (.bool true)∧RowKit.Below W.heap.size W W':=by
 refine(z1W HX hF (H []) (W:=W) (vs:=[.slice none 0 0]) hG rfl (fun j y v hy hv=>?_)).mono fun e W' he=>?_
 ·cases j with
  | zero=>cases hy;cases hv;exact zgw W
  | succ j=>cases hy
 ·cases e with
  | returned r=>
   obtain⟨⟨v,h,x,μ,hk,hr⟩,hb⟩:=he;subst hk;exact⟨by rw[hr.p_bool],hb⟩
  | panicked _=>exact he.elim
  | outgrown=>exact he.elim
theorem law_ints {X:Ctx}(HX:Fits P X){f:Nat}{F:AFun}(hF:X.fn f=some F)(H:∀ L:List Int,jA X f [mS L] [] fun v _ _=>v = .p (.bool true)){W:World}(hG:gE X.gl (imm [] [] W)){a:Addr}{len cap:Nat}{zs:List Int}
 (hl:len≤cap) (hz:len≤zs.length) (hc:∀i,i<zs.length→W.cell? (a.add i)=some (.int .i64 (zs.getD i 0))) :
 Calls P f #[.slice (some a) len cap] W fun e W'=>e = .returned (.bool true)∧RowKit.Below W.heap.size W W':=by
 refine(z1W HX hF (H (zs.take len)) (W:=W) (vs:=[.slice (some a) len cap]) hG rfl (fun j y v hy hv=>?_)).mono fun e W' he=>?_
 ·cases j with
  | zero=>
   cases hy;cases hv
   rcases Nat.eq_zero_or_pos len with h0|h0
   ·subst h0
    exact .p _ _ (.nils _ _ _)
   ·exact zgv (by simpa [Addr.add] using World.cell?_spot (hc 0 (by omega))) hl hz hc
  | succ j=>cases hy
 ·cases e with
  | returned r=>
   obtain⟨⟨v,h,x,μ,hk,hr⟩,hb⟩:=he;subst hk;exact⟨by rw[hr.p_bool],hb⟩
  | panicked _=>exact he.elim
  | outgrown=>exact he.elim
end Go.Am
namespace Go.ChangeShapes
open Go.RowKit Go.WideShapes
section
variable {H:Type} {enc:TypeId × Value→H} {P:Program}
end
end Go.ChangeShapes
end
section
/- The abstract machine,part L2: the kit's contracts asv rows. -/
set_option linter.unusedSimpArgs false
set_option linter.unusedVariables false
namespace Go.Am
variable {P:Program} {gl:Nat→Option PV}
open Go.Shelf
end Go.Am
end
