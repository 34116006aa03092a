/- Texts of the proof, laid together: SpFlo4, SpFlo5, SpFlo6, SpFlo7, SpFlo8, SpFlo9, SpFlo10, SpFlo11, PUnd, PEMrg, PEMrg2, SpEntO, SpEMrgO, AmK, SpRun, SpStyE, PPdq, SpPdqE, SpPartE, SpPdqT, SpEMrg4, SpEMrg5, SpEMrg60, SpEWrO, SpCts, SpSortN, PBusy, SpBusy, SpWtg0, SpWtgO, SpWtg1, PBoo, PRefQ, PRefQ2, SpMapN, PThr, SpThr, SpThr2, SpThr3, PThr2, SpStp1, SpStp2, SpStp3, PStp, PStp2, PNext, SpQFlo3, SpQFlo1, SpQFlo2, SpQFlo5, SpQFlo4, SpQFlo6, SpSortT, SpSrtS, SpDelR, SpQFlo7, SpQFlo8, SpSortP, SpQFlo9, SpQFlo12, SpStp4, SpWaitO, SpStnd. -/
import Derived.KernelRfl
import Derived.Test.YtecgafmljfghcaaGreatDoorlawSS7
set_option linter.all false
section
/- The floor: a run that ends. -/
open Go
set_option linter.all false
set_option maxRecDepth 100000
namespace Go.Am
variable {h:aA} {K:jA}
attribute [-go_sem] GA IA OA mB
attribute [local go_sem] TC yD qD zD BE CE DE EE pE FE GE HE IE JE KE LE
theorem zke (fb:Obj)(steps:List Nm)(tries:Int)(hst:steps.length≤1000)(k:Nm)(o1 o2 o3 o4 o5 o6:Obj)(r1 r2 r3 r4 r5 r6:AV)(B l:aA) :
 bA X LJ [.ref (h.length+7) 0,AS k] (FH h fb o1 o2 o3 o4 o5 o6 (.box [rB steps,AI tries,r1,r2,r3,r4,r5,r6]) B l) K=K (AI (if steps.findIdx (fun y=>decide (y=k))<steps.length then(steps.findIdx (fun y=>decide (y=k)):Int) else -1)) (FH h fb o1 o2 o3 o4 o5 o6 (.box [rB steps,AI tries,r1,r2,r3,r4,r5,r6]) B l) []:=by
 refine tA ?_;rw[z9P rfl];have q:=fun h K=>XZ (h:=h) (K:=K) steps (strS _) k (by omega)
 simp only[IP,go_sem,q];exact List.take_of_length_le (by rw[TC];exact Nat.le_refl _)
def Flo.finish (S:Flo)(steps:List Nm)(tries:Int)(i:Nat)(x0:Ent)(st:Sta)(x:Ent):Flo:=
 { S with bs:=S.bs.set i (x0,XD steps tries st x.time (decide (x.kind=3))),sm:=RE S.sm st.site,ends:=S.ends++[⟨x.board,st.step,st.since,x.time,decide (x.kind=3)⟩],runs:=VC S.runs st.site x.time }
def Flo.finishR (S:Flo)(steps:List Nm)(tries:Int)(i:Nat)(x0:Ent)(st:Sta)(x:Ent):Int×Flo:=
 if st.state≠2 then(11,S) else if st.site≠x.site then(13,S) else(0,S.finish steps tries i x0 st x)
set_option maxHeartbeats 8000000 in
theorem zkd (fb:Obj)(steps:List Nm)(tries:Int)(hst:steps.length≤1000)(S:Flo)(l:aA)(i:Nat)(x0:Ent)(st:Sta)(hi:S.bs[i]?=some (x0,st))(hr:S.runs.length≤1000000)(he:S.ends.length≤1000000)(hs:st.state=2→st.step∈steps)(hf:0≤st.failed∧st.failed≤1000000)(x:Ent) :
 bA X MJ [.ref (h.length+7) 0,.ref (qB h i) 0,.p x.pv] (FS h fb steps tries S l) K =
  K (AI (S.finishR steps tries i x0 st x).1) (FS h fb steps tries (S.finishR steps tries i x0 st x).2 l) []:=by
 refine tA ?_;rw[z9Q rfl];obtain⟨Bx,b1,b2,b3,G,Sq,T,Tk⟩:=dU (h:=h) hi;obtain⟨bs,sm,ck,ends,runs,ref,why⟩:=S;obtain⟨s1,s2,s3,s4,s5⟩:=st;have lv:=fun K=>z56 (h:=h) (K:=K) fb steps tries ⟨bs,sm,ck,ends++[⟨x.board,s3,s2,x.time,decide (x.kind=3)⟩],runs,ref,why⟩ (l++[x.bx]) i _ hi hr x.time
 have ml:=fun s=>SM (h.length+8) bs i _ s hi
 obtain⟨site,no,time,kind,board,step,of,other⟩:=x;unfold FS wbx at lv;unfold Flo.finishR FS wbx Flo.finish;dsimp only at hi hr he hs hf b1 b2 b3 T Tk ml lv ⊢;rw[b1,b2,ml]at lv;rw[b1];have m1:ends.length+1≤YA:=by unfold YA;omega
 have e3:=fun n o m=>esc7 h 3 n o m (by decide)
 have ev:∀e:EndP,EndP.pv e = .agg [.str e.board,.str e.step,eI e.frm,eI e.til,.bool e.pass]:=fun _=>rfl
 have cl:(VC runs s4 time).length=runs.length:=by simp [VC]
 simp only[List.map_append,List.map_cons,List.map_nil,List.length_append,List.length_cons,List.length_nil,Nat.zero_add,ev,cl,Ent.bx]at lv;by_cases h1:s1=2
 ·subst h1
  rw[if_neg (by simp)]
  by_cases h2:s4=site
  ·subst h2
   rw[if_neg (by simp)]
   by_cases k3:kind=3
   ·subst k3
    have hin:=hs rfl
    obtain⟨j,hj⟩:∃j,steps.findIdx (fun y=>decide (y=s3))=j:=⟨_,rfl⟩
    have jl:j<steps.length:=by rw[←hj];exact List.findIdx_lt_length_of_exists ⟨s3,hin,by simp⟩
    have at1:=fun(o1 o2 o3 o4 o5 o6:Obj) (r1 r2 r3 r4 r5 r6:AV) (B l:aA) K=>zke (h:=h) (K:=K) fb steps tries hst s3 o1 o2 o3 o4 o5 o6 r1 r2 r3 r4 r5 r6 B l
    rw[hj,if_pos jl]at at1;have w1:IntKind.i64.wrap ((j:Int)+1)=((j+1:Nat):Int):=BA _ (by omega) (by omega)
    unfold XD;rw[if_pos (by simp),hj]
    simp only[decide_true]at lv;by_cases hl:j+1=steps.length
    ·rw[if_pos hl]
     have hl':((j+1:Nat):Int)=(steps.length:Int):=by omega
     simp only[oG,Ent.pv,go_sem,b3,T,G,Sq,splice,m1,e3,↓lv,lv,↓at1,at1,w1,eq_true hl'];rw[Tk,b2,ml,List.map_append,cl];rfl
    ·rw[if_neg hl]
     have hl':¬((j+1:Nat):Int)=(steps.length:Int):=by omega
     have hlt:j+1<steps.length:=by omega
     have gs:=dC PV.str hlt
     have cw:∀v:List UInt8,ZA none 0 (PV.str v)=some (PV.str v):=fun _=>rfl
     have gd:(steps[j+1]?).getD []=steps[j+1]:=by rw[List.getElem?_eq_getElem hlt];rfl
     rw[gd];simp only[oG,Ent.pv,go_sem,b3,T,G,Sq,splice,m1,e3,↓lv,lv,↓at1,at1,w1,hl',gs,cw,hlt];rw[Tk,b2,ml,List.map_append,cl];rfl
   ·have w1:IntKind.i64.wrap (s5+1)=s5+1:=BA _ (by omega) (by omega)
    unfold XD;rw[if_neg (by simp [k3])]
    rw[decide_eq_false k3]at lv ⊢;by_cases ht:s5+1=tries
    ·rw[if_pos ht]
     simp only[oG,Ent.pv,go_sem,b3,T,G,Sq,splice,m1,e3,↓lv,lv,k3,w1,eq_true ht];rw[Tk,b2,ml,List.map_append,cl];rfl
    ·rw[if_neg ht]
     simp only[oG,Ent.pv,go_sem,b3,T,G,Sq,splice,m1,e3,↓lv,lv,k3,w1,ht];rw[Tk,b2,ml,List.map_append,cl];rfl
  ·rw[if_pos h2]
   simp only[oG,Ent.pv,go_sem,b3,T,G,h2];rw[b1];exact Tk _ _ _ _ _ _ _ _ _ _ _
 ·rw[if_pos h1]
  simp only[oG,Ent.pv,go_sem,b3,T,G,h1];rw[b1];exact Tk _ _ _ _ _ _ _ _ _ _ _
end Go.Am
end
section
/- The floor: an entry taken. -/
open Go
set_option linter.all false
set_option maxRecDepth 100000
namespace Go.Am
variable {h:aA} {K:jA}
attribute [-go_sem] GA IA OA mB
attribute [local go_sem] TC yD qD zD BE CE DE EE pE FE GE HE IE JE KE LE
def Flo.put (S:Flo)(i:Nat)(x0:Ent)(st:Sta):Flo:={ S with bs:=S.bs.set i (x0,st) }
def Flo.old (S:Flo)(steps:List Nm)(tries:Int)(x:Ent)(i:Nat)(x0:Ent)(st:Sta):Int×Flo:=
 if x.kind=2 then S.startR i x0 st x
 else if x.kind=3∨x.kind=4 then S.finishR steps tries i x0 st x
 else if x.kind=5 then(if st.state≠3 then(11,S) else(0,S.put i x0 ⟨1,x.time,st.step,st.site,st.failed⟩))
 else if st.state=4∨st.state=5 then(11,S)
 else if st.state=2 then(0,{ S with bs:=S.bs.set i (x0,⟨5,x.time,st.step,[],st.failed⟩),sm:=RE S.sm st.site,runs:=VC S.runs st.site x.time })
 else(0,S.put i x0 ⟨5,x.time,st.step,st.site,st.failed⟩)
theorem zeR {k:Nm}:∀{bs:aB} {i:Nat},ixB k bs=some i→∃e,bs[i]?=some e:=fun {bs i} h=>by
 obtain⟨e,h1,_⟩:=(MM k bs).2 i h;exact⟨e,h1⟩
theorem z4R (h:aA)(i:Nat):eC (h.length+8+(3*i+2)) = .ref (qB h i) 0:=by unfold eC qB;rw[Nat.add_assoc]
set_option maxHeartbeats 8000000 in
theorem zkq (fb:Obj)(steps:List Nm)(tries:Int)(hst:steps.length≤1000)(S:Flo)(l:aA)(i:Nat)(x0:Ent)(st:Sta)(x:Ent)(hx:ixB x.board S.bs=some i)(hi:S.bs[i]?=some (x0,st))(hr:S.runs.length≤1000000)(he:S.ends.length≤1000000)(hs:st.state=2→st.step∈steps)(hf:0≤st.failed∧st.failed≤1000000)(hk:x.kind≠1) :
 bA X NF [.ref (h.length+7) 0,.p x.pv] (FS h fb steps tries S l) K=K (AI (S.old steps tries x i x0 st).1) (FS h fb steps tries (S.old steps tries x i x0 st).2 l) []:=by
 refine tA ?_;rw[tO rfl];have sS:=fun K=>zkm (h:=h) (K:=K) fb steps tries S (l++[x.bx]) i x0 st hi hr x
 have sF:=fun K=>zkd (h:=h) (K:=K) fb steps tries hst S (l++[x.bx]) i x0 st hi hr he hs hf x
 have lv:=fun K=>z56 (h:=h) (K:=K) fb steps tries S (l++[x.bx]) i _ hi hr x.time
 have tkS:∀S',S'.bs.length=S.bs.length→(FS h fb steps tries S' (l++[x.bx])).take (h.length+(8+3*S.bs.length+l.length))=FS h fb steps tries S' l:=fun S' hl=>by
  unfold FS;have:=LH (h:=h) (B:=zA S'.bs) (l:=l++[x.bx]) (o0:=fb) (o1:=vA PV.str eC (lB (h.length+8) S'.bs)) (o2:=tC S'.sm S'.ck) (o3:=.row (some 5) (S'.ends.map EndP.pv) 0) (o4:=.row (some 3) (S'.runs.map RunP.pv) 0) (o5:=.row none (S'.ref.map eI) 0) (o6:=.row none (S'.why.map eI) 0) (o7:=wbx h steps tries S'.ends.length S'.runs.length S'.ref.length S'.why.length) l.length;rw[jD,hl]at this;rw[this];simp
 have lenS:∀r,(S.startR i x0 st x)=r→r.2.bs.length=S.bs.length:=fun r hr=>by
  subst hr;unfold Flo.startR Flo.start
  split
  ·rfl
  split
  ·rfl
  split
  ·rfl
  ·simp
 have lenF:∀r,(S.finishR steps tries i x0 st x)=r→r.2.bs.length=S.bs.length:=fun r hr=>by
  subst hr;unfold Flo.finishR Flo.finish
  split
  ·rfl
  split
  ·rfl
  ·simp
 have lk:=fun(o0 o2 o3 o4 o5 o6 o7:Obj) (B l:aA)=>oH (kk:=(none,[2])) (k:=x.board) (h:=FH h o0 (vA PV.str eC (lB (h.length+8) S.bs)) o2 o3 o4 o5 o6 o7 B l) (id:=h.length+1) OM qD nH (ok:=false) (z:=.nilp)
 rw[xQ,hx]at lk;simp only[Option.map_some,Option.getD_some,z4R,cond_false]at lk;generalize hR:S.startR i x0 st x=R1 at *;generalize hF:S.finishR steps tries i x0 st x=R2 at *;have tk1:=tkS R1.2 (lenS R1 rfl)
 have tk2:=tkS R2.2 (lenF R2 rfl)
 obtain⟨Bx,b1,b2,b3,G,Sq,T,Tk⟩:=dU (h:=h) hi;obtain⟨H1,hH1⟩:∃H,FS h fb steps tries R1.2 (l++[x.bx])=H:=⟨_,rfl⟩;obtain⟨H2,hH2⟩:∃H,FS h fb steps tries R2.2 (l++[x.bx])=H:=⟨_,rfl⟩;rw[hH1]at sS tk1;rw[hH2]at sF tk2;have ml:=fun s=>SM (h.length+8) S.bs i _ s hi
 have cl:(VC S.runs st.site x.time).length=S.runs.length:=by simp [VC]
 unfold FS wbx Ent.bx at sS sF lv;dsimp only at lv ml;rw[b1]at sS sF;rw[b1,b2,ml,cl]at lv;simp only[Ent.pv]at sS sF;have e1:∀v:AV,splice [AI st.state,AI st.since,AS st.step,AS st.site,AI st.failed] 0 [v]=[v,AI st.since,AS st.step,AS st.site,AI st.failed]:=fun _=>rfl
 have G':=G st.state st.since st.step st.site st.failed
 have est:(⟨st.state,st.since,st.step,st.site,st.failed⟩:Sta)=st:=rfl
 rw[est]at G';by_cases k2:x.kind=2
 ·have e:S.old steps tries x i x0 st=R1:=by unfold Flo.old;rw[if_pos k2,hR]
  rw[e];obtain⟨G1,hG1⟩:∃H,FS h fb steps tries R1.2 l=H:=⟨_,rfl⟩;rw[hG1]at tk1 ⊢;unfold FS wbx;rw[b1];simp only[LD,Ent.pv,go_sem,b3,T,lk,hk,eq_true k2,↓sS,sS];exact tk1
 by_cases k34:x.kind=3∨x.kind=4
 ·have e:S.old steps tries x i x0 st=R2:=by unfold Flo.old;rw[if_neg k2,if_pos k34,hF]
  rw[e];obtain⟨G1,hG1⟩:∃H,FS h fb steps tries R2.2 l=H:=⟨_,rfl⟩;rw[hG1]at tk2 ⊢;unfold FS wbx;rw[b1];rcases k34 with k3|k4
  ·simp only[LD,Ent.pv,go_sem,b3,T,lk,hk,k2,eq_true k3,↓sF,sF]
   exact tk2
  ·have k3:¬x.kind=3:=by omega
   simp only[LD,Ent.pv,go_sem,b3,T,lk,hk,k2,k3,eq_true k4,↓sF,sF];exact tk2
 have k3:¬x.kind=3:=fun z=>k34 (.inl z)
 have k4:¬x.kind=4:=fun z=>k34 (.inr z)
 by_cases k5:x.kind=5
 ·by_cases h3:st.state=3
  ·have e:S.old steps tries x i x0 st=(0,S.put i x0 ⟨1,x.time,st.step,st.site,st.failed⟩):=by unfold Flo.old;rw[if_neg k2,if_neg k34,if_pos k5,if_neg (by simp [h3])]
   rw[e];unfold Flo.put FS wbx;dsimp only;rw[b1];simp only[LD,Ent.pv,go_sem,b3,T,lk,hk,k2,k3,k4,eq_true k5,G',G,Sq,splice,eq_true h3];rw[Tk,b2,ml]
  ·have e:S.old steps tries x i x0 st=(11,S):=by unfold Flo.old;rw[if_neg k2,if_neg k34,if_pos k5,if_pos h3]
   rw[e];unfold FS wbx;dsimp only;rw[b1];simp only[LD,Ent.pv,go_sem,b3,T,lk,hk,k2,k3,k4,eq_true k5,G',h3];exact Tk _ _ _ _ _ _ _ _ _ _ _
 by_cases h45:st.state=4∨st.state=5
 ·have e:S.old steps tries x i x0 st=(11,S):=by unfold Flo.old;rw[if_neg k2,if_neg k34,if_neg k5,if_pos h45]
  rw[e];unfold FS wbx;dsimp only;rw[b1];rcases h45 with h4|h5
  ·simp only[LD,Ent.pv,go_sem,b3,T,lk,hk,k2,k3,k4,k5,G',eq_true h4]
   exact Tk _ _ _ _ _ _ _ _ _ _ _
  ·have h4:¬st.state=4:=by omega
   simp only[LD,Ent.pv,go_sem,b3,T,lk,hk,k2,k3,k4,k5,G',h4,eq_true h5];exact Tk _ _ _ _ _ _ _ _ _ _ _
 have h4:¬st.state=4:=fun z=>h45 (.inl z)
 have h5:¬st.state=5:=fun z=>h45 (.inr z)
 by_cases h2:st.state=2
 ·have e:S.old steps tries x i x0 st=(0,{ S with bs:=S.bs.set i (x0,⟨5,x.time,st.step,[],st.failed⟩),sm:=RE S.sm st.site,runs:=VC S.runs st.site x.time }):=by unfold Flo.old;rw[if_neg k2,if_neg k34,if_neg k5,if_neg h45,if_pos h2]
  rw[e];unfold FS wbx;dsimp only;rw[b1];simp only[LD,Ent.pv,go_sem,b3,T,lk,hk,k2,k3,k4,k5,G',G,Sq,splice,h4,h5,eq_true h2,↓lv,lv];rw[Tk,b2,ml,cl]
 ·have e:S.old steps tries x i x0 st=(0,S.put i x0 ⟨5,x.time,st.step,st.site,st.failed⟩):=by unfold Flo.old;rw[if_neg k2,if_neg k34,if_neg k5,if_neg h45,if_neg h2]
  rw[e];unfold Flo.put FS wbx;dsimp only;rw[b1];simp only[LD,Ent.pv,go_sem,b3,T,lk,hk,k2,k3,k4,k5,G',G,Sq,splice,h4,h5,h2];rw[Tk,b2,ml]
end Go.Am
end
section
/- The floor: a board that WP;what an entry does,plainly. -/
open Go
set_option linter.all false
set_option maxRecDepth 100000
namespace Go.Am
variable {h:aA} {K:jA}
attribute [-go_sem] GA IA OA mB
attribute [local go_sem] TC yD qD zD BE CE DE EE pE FE GE HE IE JE KE LE
theorem uL (fb:Obj)(steps:List Nm)(tries:Int)(S:Flo)(l l2:aA):(FS h fb steps tries S (l++l2)).take (h.length+(8+3*S.bs.length+l.length))=FS h fb steps tries S l:=by
 unfold FS;have:=LH (h:=h) (B:=zA S.bs) (l:=l++l2) (o0:=fb) (o1:=vA PV.str eC (lB (h.length+8) S.bs)) (o2:=tC S.sm S.ck) (o3:=.row (some 5) (S.ends.map EndP.pv) 0) (o4:=.row (some 3) (S.runs.map RunP.pv) 0) (o5:=.row none (S.ref.map eI) 0) (o6:=.row none (S.why.map eI) 0) (o7:=wbx h steps tries S.ends.length S.runs.length S.ref.length S.why.length) l.length;rw[jD]at this;rw[this];simp
theorem QM (S:Flo)(k:Nm)(o0 o2 o3 o4 o5 o6 o7:Obj)(B l:aA):IA (none,[2]) false .nilp (.mp (h.length+1)) (AS k) (FH h o0 (vA PV.str eC (lB (h.length+8) S.bs)) o2 o3 o4 o5 o6 o7 B l)=some (match ixB k S.bs with|some i=>.ref (qB h i) 0|none=>.nilp):=by
 have lk:=oH (kk:=(none,[2])) (k:=k) (h:=FH h o0 (vA PV.str eC (lB (h.length+8) S.bs)) o2 o3 o4 o5 o6 o7 B l) (id:=h.length+1) OM qD nH (ok:=false) (z:=.nilp)
 rw[xQ]at lk;rw[lk];cases ixB k S.bs with
 | none=>rfl
 | some i=>simp only[Option.map_some,Option.getD_some,z4R,cond_false]
theorem tl1 {o0 o1 o2 o3 o4 o5 o6 o7 o:Obj}{bs:aB}{l:aA}:(FH h o0 o1 o2 o3 o4 o5 o6 o7 (zA bs) (l++[o]))[h.length+(8+3*bs.length+l.length)]?=some o:=by
 have:=UI (h:=h) (o0:=o0) (o1:=o1) (o2:=o2) (o3:=o3) (o4:=o4) (o5:=o5) (o6:=o6) (o7:=o7) (B:=zA bs) (l:=l++[o]) l.length;rw[jD]at this;rw[this];simp
theorem zkp (fb:Obj)(steps:List Nm)(tries:Int)(S:Flo)(l:aA)(x:Ent)(hx:ixB x.board S.bs=none)(hk:x.kind≠1) :
 bA X NF [.ref (h.length+7) 0,.p x.pv] (FS h fb steps tries S l) K=K (AI 8) (FS h fb steps tries S l) []:=by
 refine tA ?_;rw[tO rfl];have lk:=fun(o0 o2 o3 o4 o5 o6 o7:Obj) (B l:aA)=>QM (h:=h) S x.board o0 o2 o3 o4 o5 o6 o7 B l
 rw[hx]at lk;have tk:=uL (h:=h) fb steps tries S l [x.bx]
 obtain⟨G1,hG1⟩:∃H,FS h fb steps tries S l=H:=⟨_,rfl⟩;rw[hG1]at tk ⊢;rw[←hG1];unfold Ent.bx at tk;unfold FS wbx at tk ⊢;dsimp only at lk;simp only[LD,Ent.pv,go_sem,jD,tl1,lk,hk];unfold FS wbx at hG1;rw[hG1];exact tk
theorem zks (fb:Obj)(steps:List Nm)(tries:Int)(S:Flo)(l:aA)(x:Ent)(i:Nat)(hx:ixB x.board S.bs=some i)(hk:x.kind=1) :
 bA X NF [.ref (h.length+7) 0,.p x.pv] (FS h fb steps tries S l) K=K (AI 6) (FS h fb steps tries S l) []:=by
 refine tA ?_;rw[tO rfl];have lk:=fun(o0 o2 o3 o4 o5 o6 o7:Obj) (B l:aA)=>QM (h:=h) S x.board o0 o2 o3 o4 o5 o6 o7 B l
 rw[hx]at lk;have tk:=uL (h:=h) fb steps tries S l [x.bx]
 obtain⟨G1,hG1⟩:∃H,FS h fb steps tries S l=H:=⟨_,rfl⟩;rw[hG1]at tk ⊢;rw[←hG1];unfold Ent.bx at tk;unfold FS wbx at tk ⊢;dsimp only at lk;simp only[LD,Ent.pv,go_sem,jD,tl1,lk,eq_true hk];unfold FS wbx at hG1;rw[hG1];exact tk
def Flo.enter (S:Flo)(steps:List Nm)(x:Ent):Flo:={ S with bs:=S.bs++[(x,⟨1,x.time,steps.headD [],[],0⟩)] }
theorem zjE {b i t:Nat}{n:Int}{P:jA}{H:aA}(hi:i<b)(ht:b≤t)(k:P (AI n) (H.take t) [(i,t)]):lE false b P (some [AI n]) H [(i,t)]:=by
 have e1:∀m,PA m H (AI n)=some (AI n):=fun m=>by simp [PA]
 have e2:AV.top (AI n)=0:=by simp [AV.top]
 have e3:close 1 [(i,t)] b=t:=by simp [close,FD,hi];omega
 have e4:bB [(i,t)] t=true:=by simp [bB]
 have e5:[(i,t)].filter (fun y=>decide (y.1<t))=[(i,t)]:=by simp;omega
 have e6:LA [AI n]=AI n:=rfl
 simp only[lE,e6,e1,e2,Nat.max_zero,List.length_cons,List.length_nil,Nat.zero_add,e3,e4,if_true,e5];exact⟨Nat.zero_le _,k⟩
set_option maxHeartbeats 4000000 in
theorem zko (fb:Obj)(steps:List Nm)(tries:Int)(hst:steps≠[])(S:Flo)(x:Ent)(hx:ixB x.board S.bs=none)(hk:x.kind=1) :
 bA X NF [.ref (h.length+7) 0,.p x.pv] (FS h fb steps tries S [x.bx]) K=K (AI 0) (FS h fb steps tries (S.enter steps x) []) [(h.length+1,h.length+(8+3*(S.bs.length+1)))]:=by
 refine tA ?_;rw[tO rfl];have lk:=fun(o0 o2 o3 o4 o5 o6 o7:Obj) (B l:aA)=>QM (h:=h) S x.board o0 o2 o3 o4 o5 o6 o7 B l
 rw[hx]at lk;obtain⟨s0,sr,rfl⟩:∃a r,steps=a::r:=by
  cases steps with
  | nil=>exact absurd rfl hst
  | cons a r=>exact⟨a,r,rfl⟩
 have wn:wC x.board (lB (h.length+8) S.bs)=none:=by
  have:=z6m (k:=x.board) (l:=lB (h.length+8) S.bs);rw[xQ,hx]at this;simpa using this
 have q0:h.length+8+3*S.bs.length+2=h.length+(8+3*S.bs.length+2):=by omega
 have up:=fun(o0 o2 o3 o4 o5 o6 o7:Obj) (B l:aA)=>ZJ (kk:=(none,[2])) (k:=x.board) (h:=FH h o0 (vA PV.str eC (lB (h.length+8) S.bs)) o2 o3 o4 o5 o6 o7 B l) (id:=h.length+1) OM qD nH (v:=h.length+(8+3*S.bs.length+2)) (val:=eC) rfl
 rw[GS wn]at up;have ms:=z4o (h.length+8) S.bs (x,⟨1,x.time,s0,[],0⟩)
 rw[q0]at ms;dsimp only at ms;rw[←ms]at up;have es:YB (h.length+1) (eC (h.length+(8+3*S.bs.length+2)))=[(h.length+1,h.length+(8+3*(S.bs.length+1)))]:=by
  unfold YB eC;have e9:h.length+(8+3*S.bs.length+2)+1=h.length+(8+3*(S.bs.length+1)):=by omega
  simp only[AV.top,e9];rw[if_pos (by omega)]
 rw[es]at up;simp only[eC]at up;unfold Flo.enter;obtain⟨bs,sm,ck,ends,runs,ref,why⟩:=S;unfold FS wbx Ent.bx;dsimp only at lk hx up ms ⊢;have t1:∀(o0 o1 o2 o3 o4 o5 o6 o7 a b:Obj),(FH h o0 o1 o2 o3 o4 o5 o6 o7 (zA bs) [a,b])[h.length+(8+3*bs.length+1)]?=some b:=fun o0 o1 o2 o3 o4 o5 o6 o7 a b=>tl1 (l:=[a])
 have t2:∀(o0 o1 o2 o3 o4 o5 o6 o7 a b c:Obj),(FH h o0 o1 o2 o3 o4 o5 o6 o7 (zA bs) [a,b,c])[h.length+(8+3*bs.length+1)]?=some b:=fun o0 o1 o2 o3 o4 o5 o6 o7 a b c=>by
  have:=UI (h:=h) (o0:=o0) (o1:=o1) (o2:=o2) (o3:=o3) (o4:=o4) (o5:=o5) (o6:=o6) (o7:=o7) (B:=zA bs) (l:=[a,b,c]) 1;rw[jD]at this;rw[this];rfl
 have cw:∀v:List UInt8,ZA none 0 (PV.str v)=some (PV.str v):=fun _=>rfl
 simp only[LD,Ent.pv,go_sem,jD,t1,t2,lk,eq_true hk,cw,up];refine zjE (by omega) (by omega) ⟨rfl,?_,rfl⟩
 rw[List.take_of_length_le (by rw[TC,jD];simp;omega)]
 have sh:∀(o0 o1 o2 o3 o4 o5 o6 o7:Obj) (B l:aA),FH h o0 o1 o2 o3 o4 o5 o6 o7 B l=FH h o0 o1 o2 o3 o4 o5 o6 o7 (B++l) []:=fun _ _ _ _ _ _ _ _ _ _=>by unfold FH;simp
 rw[sh,z0G];rfl
end Go.Am
end
section
/- Entries that count;entries up tov a moment. -/
open Go
set_option linter.all false
set_option maxRecDepth 100000
namespace Go.Am
variable {h:aA} {K:jA}
attribute [-go_sem] GA IA OA mB
theorem zay {l:List Ent}{k:Nat}(hk:k<l.length):zB (l.drop k)=(!decide ((l[k].site,l[k].no)∈BC (l.drop (k+1))))::zB (l.drop (k+1)):=by
 rw[List.drop_eq_getElem_cons hk,zax]
theorem zlJ {l:List Ent}{k:Nat}(hk:k<l.length):BC (l.drop k)=if decide ((l[k].site,l[k].no)∈BC (l.drop (k+1)))=false∧l[k].kind=7 then(l[k].of,l[k].other)::BC (l.drop (k+1)) else BC (l.drop (k+1)):=by
 rw[List.drop_eq_getElem_cons hk,BC]
abbrev DB (b:Bool):PV:=.bool b
def UndM (m:List ((List UInt8 × Int) × Bool))(u:List (Nm × Int)):Prop:=∀k,RA k m=if k∈u then some true else none
set_option maxHeartbeats 4000000 in
theorem zkc (l:List Ent)(hl:l.length≤100000):bA X KJ [QA l] h K=K (.p (.sl none ((zB l).map DB))) h []:=by
 refine tA ?_;rw[z9M rfl];have mx:l.length≤YA:=by unfold YA;omega
 have w0:IntKind.i64.wrap ((l.length:Int)-1)=(l.length:Int)-1:=BA _ (by omega) (by omega)
 simp only[GP,go_sem,mx,w0];refine XA (fun t:Nat×List ((List UInt8×Int)×Bool)=>⟨[(0,QA l),(3,.mp h.length),(4,.own (h.length+1) l.length 0 l.length),(5,AI ((t.1:Int)-1))],h++[vA uC PB t.2,.row none (List.replicate t.1 (DB false)++(zB (l.drop t.1)).map DB) 0],[]⟩)
  (fun t=>t.1≤l.length∧UndM t.2 (BC (l.drop t.1))) (fun t=>t.1) (l.length,[]) ?_ ⟨Nat.le_refl _,fun k=>by simp [BC,RA]⟩ ?_
 ·simp only[List.drop_length,zB,List.map_nil,List.append_nil]
  rfl
 rintro⟨k,m⟩ ⟨hk,hm⟩
 dsimp only at hk hm ⊢;cases k with
 | zero=>
  have c0:¬(0:Int)≤((0:Nat):Int)-1:=by omega
  have cl:=WH l
  simp only[go_sem,c0,List.drop_zero,List.replicate_zero,List.nil_append];have hw:win ((zB l).map DB) 0 l.length=(zB l).map DB:=AZ (by simp [cl])
  simp only[List.length_map,cl,hw,if_true];rw[if_pos ⟨trivial,Nat.le_refl _⟩];simp [AV.top]
 | succ k=>
  have hlt:k<l.length:=by omega
  have c0:(0:Int)≤((k+1:Nat):Int)-1:=by omega
  have ek:(((k+1:Nat):Int)-1)=(k:Int):=by omega
  have w1:IntKind.i64.wrap ((k:Int)-1)=(k:Int)-1:=BA _ (by omega) (by omega)
  have hk0:(0:Int)≤(k:Int):=by omega
  have hg:=dC Ent.pv hlt
  have cx:=LF (x:=l[k])
  have cs:=zay hlt
  have us:=zlJ hlt
  have lrow:(List.replicate (k+1) (DB false)++(zB (l.drop (k+1))).map DB).length=l.length:=by
   rw[List.length_append,List.length_replicate,List.length_map,WH,List.length_drop];omega
  have grow:(List.replicate (k+1) (DB false)++(zB (l.drop (k+1))).map DB)[k]?=some (DB false):=by
   rw[List.getElem?_append_left (by simp),List.getElem?_replicate];simp
  have srow:∀b:Bool,(List.replicate (k+1) (DB false)++(zB (l.drop (k+1))).map DB).set k (DB b)=List.replicate k (DB false)++(b::zB (l.drop (k+1))).map DB:=fun b=>by
   rw[List.replicate_succ',List.append_assoc,List.set_append_right _ _ (by simp)]
   simp
  have grow2:∀b:Bool,(List.replicate k (DB false)++(b::zB (l.drop (k+1))).map DB)[k]?=some (DB b):=fun b=>by
   rw[List.getElem?_append_right (by simp)];simp
  have lrow2:∀b:Bool,(List.replicate k (DB false)++(b::zB (l.drop (k+1))).map DB).length=l.length:=fun b=>by
   rw[List.length_append,List.length_replicate,List.length_map,List.length_cons,WH,List.length_drop];omega
  obtain⟨R2,hR2⟩:∃R2:Bool→List PV,∀b,List.replicate k (DB false)++(b::zB (l.drop (k+1))).map DB=R2 b:=⟨_,fun _=>rfl⟩
  simp only[hR2]at srow grow2 lrow2;have cb:∀b:Bool,ZA none 0 (DB b)=some (DB b):=fun _=>rfl
  generalize hx:l[k]=x at *;have lk:=fun(hp:aA) (e:hp[h.length]?=some (vA uC PB m))=>oH (kk:=(some 2,[2,0])) (k:=(x.site,x.no)) UJ e VJ (ok:=false) (z:=PB false)
  have up:=fun(hp:aA) (e:hp[h.length]?=some (vA uC PB m))=>ZJ (kk:=(some 2,[2,0])) (k:=(x.of,x.other)) UJ e VJ (v:=true) rfl
  have l1:=fun t=>lk (h++vA uC PB m::t) (by simp)
  have u1:=fun t=>up (h++vA uC PB m::t) (by simp)
  have es:(Option.map PB (RA (x.site,x.no) m)).getD (PB false)=AB (decide ((x.site,x.no)∈BC (l.drop (k+1)))):=by
   rw[hm];by_cases e:(x.site,x.no)∈BC (l.drop (k+1)) <;> simp [e,PB]
  simp only[cond_false,es]at l1;have nl0:¬h.length<0:=by omega
  simp only[PB,uC,YB,AV.top,nl0,if_false]at l1 u1;generalize hb:decide ((x.site,x.no)∈BC (l.drop (k+1)))=b at *;generalize hrow:List.replicate (k+1) (DB false)++(zB (l.drop (k+1))).map DB=row at *;cases b with
  | true=>
   rw[if_neg (by simp)]at us
   simp only[go_sem,c0,ek,hk0,hlt,hg,cx,Ent.pv,splice,l1,lrow,grow,srow,grow2,lrow2,cb,w1];refine⟨(k,m),?_,⟨by dsimp only;omega,by rw[us];exact hm⟩,by dsimp only;omega⟩
   dsimp only;rw[cs,hR2];rfl
  | false=>
   by_cases k7:x.kind=7
   ·rw[if_pos ⟨rfl,k7⟩]at us
    simp only[go_sem,c0,ek,hk0,hlt,hg,cx,Ent.pv,splice,l1,u1,lrow,grow,srow,grow2,lrow2,cb,w1,eq_true k7];refine⟨(k,gC (x.of,x.other) true m),?_,⟨by dsimp only;omega,?_⟩,by dsimp only;omega⟩
    ·dsimp only
     rw[cs,hR2];rfl
    ·rw[us]
     intro j;rw[oQ,hm j];by_cases e:j=(x.of,x.other)
     ·simp [e]
     ·rw[if_neg e];simp [e]
   ·rw[if_neg (by simp [k7])]at us
    simp only[go_sem,c0,ek,hk0,hlt,hg,cx,Ent.pv,splice,l1,lrow,grow,srow,grow2,lrow2,cb,w1,k7];refine⟨(k,m),?_,⟨by dsimp only;omega,by rw[us];exact hm⟩,by dsimp only;omega⟩
    dsimp only;rw[cs,hR2];rfl
end Go.Am
end
section
/- Entries followed. -/
open Go
set_option linter.all false
set_option maxRecDepth 100000
namespace Go.Am
variable {h:aA} {K:jA}
attribute [-go_sem] GA IA OA mB
attribute [local go_sem] TC yD qD zD BE CE DE EE pE FE GE HE IE JE KE LE
def Flo.act (S:Flo)(steps:List Nm)(tries:Int)(x:Ent):Int×Flo:=match ixB x.board S.bs with
 | none=>if x.kind=1 then(0,S.enter steps x) else(8,S)
 | some i=>match S.bs[i]? with
  | none=>(8,S)
  | some e=>if x.kind=1 then(6,S) else S.old steps tries x i e.1 e.2
structure FlI (S:Flo) (steps:List Nm) (n:Nat):Prop where
 st:∀e∈S.bs,(e.2.state=1∨e.2.state=2∨e.2.state=3)→e.2.step∈steps
 fl:∀e∈S.bs,0≤e.2.failed∧e.2.failed≤n
 nb:(S.bs.map fun e=>e.1.board).Nodup
 ns:(S.sm.map fun e=>e.1.1).Nodup
 bl:S.bs.length≤n
 rl:S.runs.length≤n
 el:S.ends.length≤n
 fr:S.ref.length≤n
 fw:S.why.length≤n
theorem yQ {α:Type}{l:List α}{i:Nat}{a y:α}(h:y∈l.set i a):y∈l∨y=a:=by
 rw[List.mem_iff_getElem?]at h;obtain⟨j,hj⟩:=h;rw[List.getElem?_set]at hj;split at hj
 ·split at hj
  ·right;exact(Option.some.inj hj).symm
  ·cases hj
 ·left;exact List.mem_of_getElem? hj
theorem zkE {bs:aB}{i:Nat}{e:Ent × Sta}(he:bs[i]?=some e)(s:Sta):(bs.set i (e.1,s)).map (fun e=>e.1.board)=bs.map fun e=>e.1.board:=by
 rw[List.map_set];apply List.ext_getElem?
 intro j;rw[List.getElem?_set];split
 ·rename_i h;subst h
  rw[List.getElem?_map,he];have:i<(bs.map fun e=>e.1.board).length:=by
   rw[List.length_map];rcases Nat.lt_or_ge i bs.length with h|h
   ·exact h
   ·rw[List.getElem?_eq_none h]at he;cases he
  rw[if_pos this];rfl
 ·rfl
theorem FlI.set {S:Flo}{steps:List Nm}{n:Nat}(I:FlI S steps n){i:Nat}{e:Ent × Sta}(he:S.bs[i]?=some e)(s:Sta)(h1:(s.state=1∨s.state=2∨s.state=3)→s.step∈steps)(h2:0≤s.failed∧s.failed≤n+1)
 (S':Flo) (hb:S'.bs=S.bs.set i (e.1,s)) (hn:(S'.sm.map fun e=>e.1.1).Nodup) (hr:S'.runs.length≤n+1) (hl:S'.ends.length≤n+1) (hf:S'.ref=S.ref) (hw:S'.why=S.why):FlI S' steps (n+1) where
 st y hy:=by
  rw[hb]at hy;rcases yQ hy with h|h
  ·exact I.st y h
  ·rw[h];exact h1
 fl y hy:=by
  rw[hb]at hy;rcases yQ hy with h|h
  ·have:=I.fl y h;omega
  ·rw[h];dsimp only;omega
 nb:=by rw[hb,zkE he];exact I.nb
 ns:=hn
 bl:=by rw[hb,List.length_set];have:=I.bl;omega
 rl:=hr
 el:=hl
 fr:=by rw[hf];have:=I.fr;omega
 fw:=by rw[hw];have:=I.fw;omega
theorem FlI.up {S:Flo}{steps:List Nm}{n:Nat}(I:FlI S steps n):FlI S steps (n+1):=
 ⟨I.st,fun e he=>by have:=I.fl e he;omega,I.nb,I.ns,by have:=I.bl;omega,by have:=I.rl;omega,by have:=I.el;omega,by have:=I.fr;omega,by have:=I.fw;omega⟩
theorem z84 {m:sD}{k v:Nm}{c:Nat}(hn:lA (asS m) k=none):asS (m++[((k,v),c)])=MA (asS m) k v∧((m.map fun e=>e.1.1).Nodup→((m++[((k,v),c)]).map fun e=>e.1.1).Nodup):=by
 have ha:(asS m).any (fun e=>decide (e.1=k))=false:=by
  cases h:(asS m).any (fun e=>decide (e.1=k)) with
  | false=>rfl
  | true=>
   exfalso;obtain⟨e,he,hk⟩:=List.any_eq_true.1 h;unfold lA at hn;rw[Option.map_eq_none_iff,List.find?_eq_none]at hn;exact hn e he hk
 constructor
 ·unfold MA
  rw[if_neg (by simp [ha])]
  unfold asS;simp
 ·intro hu
  rw[List.map_append,List.nodup_append];refine⟨hu,by simp,fun a ha2 b hb2 e=>?_⟩
  have hb3:b=k:=by simpa using hb2
  subst hb3;subst e;obtain⟨y,hy,e2⟩:=List.mem_map.1 ha2;have:(asS m).any (fun e=>decide (e.1=a))=true:=List.any_eq_true.2 ⟨y.1,List.mem_map_of_mem hy,by simpa using e2⟩
  rw[ha]at this;cases this
theorem z4c {k:Nm}:∀{bs:aB},ixB k bs=none→k∉bs.map fun e=>e.1.board
 | [],_=>by simp
 | e::r,h=>by
  unfold ixB at h;by_cases hk:k=e.1.board
  ·rw[if_pos hk]at h;cases h
  ·rw[if_neg hk]at h
   have:=z4c (bs:=r) (by simpa using h)
   simp only[List.map_cons,List.mem_cons,not_or];exact⟨hk,this⟩
theorem z0r {S:Flo}{steps:List Nm}{tries:Int}{n:Nat}(I:FlI S steps n)(hst:steps≠[])(x:Ent) :
 (S.act steps tries x).1=(iD steps tries S.P x).2∧(S.act steps tries x).2.P=(iD steps tries S.P x).1∧FlI (S.act steps tries x).2 steps (n+1)∧(S.act steps tries x).2.ref=S.ref∧(S.act steps tries x).2.why=S.why:=by
 obtain⟨g1,g2⟩:=MM x.board S.bs;unfold Flo.act;cases hx:ixB x.board S.bs with
 | none=>
  have hg:lA S.P.bs x.board=none:=g1 hx
  dsimp only;by_cases k1:x.kind=1
  ·rw[if_pos k1]
   unfold iD;rw[if_pos k1,hg];refine⟨rfl,?_,?_,rfl,rfl⟩
   ·unfold Flo.enter Flo.P
    dsimp only;rw[z82 hx x rfl]
   ·obtain⟨a,r,rfl⟩:∃a r,steps=a::r:=by
     cases steps with
     | nil=>exact absurd rfl hst
     | cons a r=>exact⟨a,r,rfl⟩
    unfold Flo.enter;refine⟨fun e he=>?_,fun e he=>?_,?_,I.ns,?_,by have:=I.rl;dsimp only;omega,by have:=I.el;dsimp only;omega,by have:=I.fr;dsimp only;omega,by have:=I.fw;dsimp only;omega⟩
    ·rcases List.mem_append.1 he with h|h
     ·exact I.st e h
     ·rw[List.mem_singleton.1 h];intro _;simp
    ·rcases List.mem_append.1 he with h|h
     ·have:=I.fl e h;omega
     ·rw[List.mem_singleton.1 h];dsimp only;omega
    ·dsimp only
     rw[List.map_append,List.nodup_append];refine⟨I.nb,by simp,fun a ha b hb e=>?_⟩
     have hb2:b=x.board:=by simpa using hb
     subst hb2;subst e
     exact z4c hx ha
    ·dsimp only;rw[List.length_append];have:=I.bl;simp;omega
  ·rw[if_neg k1]
   unfold iD;rw[if_neg k1,hg];exact⟨rfl,rfl,I.up,rfl,rfl⟩
 | some i=>
  obtain⟨e,he,hk,hg⟩:=g2 i hx;have hg':lA S.P.bs x.board=some e.2:=hg
  have pu:=fun s=>z83 hx he I.nb s
  have hm:e∈S.bs:=List.mem_of_getElem? he
  have hfl:=I.fl e hm
  have hse:=I.st e hm
  dsimp only;rw[he];dsimp only;unfold iD;by_cases k1:x.kind=1
  ·rw[if_pos k1,if_pos k1,hg']
   exact⟨rfl,rfl,I.up,rfl,rfl⟩
  rw[if_neg k1,if_neg k1,hg'];dsimp only;unfold Flo.old;have rl:=I.rl
  have el:=I.el
  by_cases k2:x.kind=2
  ·rw[if_pos k2,if_pos k2]
   unfold Flo.startR;by_cases h1:e.2.state≠1
   ·rw[if_pos h1,if_pos h1];exact⟨rfl,rfl,I.up,rfl,rfl⟩
   rw[if_neg h1,if_neg h1];by_cases h2:x.step≠e.2.step
   ·rw[if_pos h2,if_pos h2];exact⟨rfl,rfl,I.up,rfl,rfl⟩
   rw[if_neg h2,if_neg h2];have hb:S.P.sites=asS S.sm:=rfl
   rw[hb];by_cases h3:(lA (asS S.sm) x.site).isSome=true
   ·rw[if_pos h3,if_pos h3];exact⟨rfl,rfl,I.up,rfl,rfl⟩
   rw[if_neg h3,if_neg h3];have hn:lA (asS S.sm) x.site=none:=by simpa using h3
   obtain⟨q1,q2⟩:=z84 (v:=x.board) (c:=S.ck) hn;refine⟨rfl,?_,?_,rfl,rfl⟩
   ·unfold Flo.start Flo.P
    dsimp only;rw[pu,q1]
   ·have hs1:e.2.state=1:=by simpa using h1
    exact I.set he ⟨2,x.time,e.2.step,x.site,e.2.failed⟩ (fun _=>hse (.inl hs1)) (by dsimp only;omega) _ rfl (q2 I.ns) (by unfold Flo.start;dsimp only;rw[List.length_append];simp;omega) (by unfold Flo.start;dsimp only;omega) rfl rfl
  rw[if_neg k2,if_neg k2];by_cases k34:x.kind=3∨x.kind=4
  ·rw[if_pos k34,if_pos k34]
   unfold Flo.finishR;by_cases h1:e.2.state≠2
   ·rw[if_pos h1,if_pos h1];exact⟨rfl,rfl,I.up,rfl,rfl⟩
   rw[if_neg h1,if_neg h1];by_cases h2:e.2.site≠x.site
   ·rw[if_pos h2,if_pos h2];exact⟨rfl,rfl,I.up,rfl,rfl⟩
   rw[if_neg h2,if_neg h2];have hs2:e.2.state=2:=by simpa using h1
   have hin:=hse (.inr (.inl hs2))
   obtain⟨q1,q2⟩:=z13 (m:=S.sm) (k:=e.2.site) I.ns;refine⟨rfl,?_,?_,rfl,rfl⟩
   ·unfold Flo.finish Flo.P
    dsimp only;rw[pu,q1]
   ·refine I.set he (XD steps tries e.2 x.time (decide (x.kind=3))) (fun h=>?_) ?_ _ rfl q2 (by unfold Flo.finish VC;dsimp only;rw[List.length_map];omega) (by unfold Flo.finish;dsimp only;rw[List.length_append];simp;omega) rfl rfl
    ·unfold XD at h ⊢
     by_cases k3:x.kind=3
     ·rw[if_pos (by simp [k3])]at h ⊢
      by_cases hj:steps.findIdx (fun y=>decide (y=e.2.step))+1=steps.length
      ·rw[if_pos hj]at h;dsimp only at h;omega
      ·rw[if_neg hj]
       have jl:steps.findIdx (fun y=>decide (y=e.2.step))<steps.length:=List.findIdx_lt_length_of_exists ⟨e.2.step,hin,by simp⟩
       have jl2:steps.findIdx (fun y=>decide (y=e.2.step))+1<steps.length:=by omega
       dsimp only;rw[List.getElem?_eq_getElem jl2];exact List.getElem_mem jl2
     ·rw[if_neg (by simp [k3])];exact hin
    ·unfold XD
     split
     ·split <;> (dsimp only;omega)
     ·dsimp only;omega
  rw[if_neg k34,if_neg k34];by_cases k5:x.kind=5
  ·rw[if_pos k5,if_pos k5]
   by_cases h1:e.2.state≠3
   ·rw[if_pos h1,if_pos h1];exact⟨rfl,rfl,I.up,rfl,rfl⟩
   rw[if_neg h1,if_neg h1];have hs3:e.2.state=3:=by simpa using h1
   refine⟨rfl,?_,?_,rfl,rfl⟩
   ·unfold Flo.put Flo.P
    dsimp only;rw[pu]
   ·exact I.set he ⟨1,x.time,e.2.step,e.2.site,e.2.failed⟩ (fun _=>hse (.inr (.inr hs3))) (by dsimp only;omega) _ rfl I.ns (by unfold Flo.put;dsimp only;omega) (by unfold Flo.put;dsimp only;omega) rfl rfl
  rw[if_neg k5,if_neg k5];by_cases h45:e.2.state=4∨e.2.state=5
  ·rw[if_pos h45,if_pos h45];exact⟨rfl,rfl,I.up,rfl,rfl⟩
  rw[if_neg h45,if_neg h45];have no5:∀(a:Int) (b c:Nm) (f:Int),((⟨5,a,b,c,f⟩:Sta).state=1∨(⟨5,a,b,c,f⟩:Sta).state=2∨(⟨5,a,b,c,f⟩:Sta).state=3)→b∈steps:=fun a b c f h=>by dsimp only at h;omega
  by_cases h2:e.2.state=2
  ·rw[if_pos h2,if_pos h2]
   obtain⟨q1,q2⟩:=z13 (m:=S.sm) (k:=e.2.site) I.ns;refine⟨rfl,?_,?_,rfl,rfl⟩
   ·unfold Flo.P
    dsimp only;rw[pu,q1]
   ·exact I.set he ⟨5,x.time,e.2.step,[],e.2.failed⟩ (no5 _ _ _ _) (by dsimp only;omega) _ rfl q2 (by unfold VC;dsimp only;rw[List.length_map];omega) (by dsimp only;omega) rfl rfl
  ·rw[if_neg h2,if_neg h2]
   refine⟨rfl,?_,?_,rfl,rfl⟩
   ·unfold Flo.put Flo.P
    dsimp only;rw[pu]
   ·exact I.set he ⟨5,x.time,e.2.step,e.2.site,e.2.failed⟩ (no5 _ _ _ _) (by dsimp only;omega) _ rfl I.ns (by unfold Flo.put;dsimp only;omega) (by unfold Flo.put;dsimp only;omega) rfl rfl
end Go.Am
end
section
/- Entries followed: the walk. -/
open Go
set_option linter.all false
set_option maxRecDepth 100000
namespace Go.Am
variable {h:aA} {K:jA}
attribute [-go_sem] GA IA OA mB
attribute [local go_sem] TC yD qD zD BE CE DE EE pE FE GE HE IE JE KE LE
def upK (l:List Ent)(at_:Int):Nat→Nat
 | 0=>0
 | k+1=>if at_<((l[k]?).map Ent.time).getD 0 then upK l at_ k else k+1
def upL (l:List Ent)(at_:Int):List Ent:=l.take (upK l at_ l.length)
theorem z59 (l:List Ent)(at_:Int)(hl:l.length≤1000000):bA X lH [QA l,AI at_] h K=K (QA (upL l at_)) h []:=by
 refine tA ?_;rw[z9Y rfl];simp only[NP,go_sem];refine XA (fun k:Nat=>⟨[(0,QA l),(1,AI at_),(5,AI k)],h,[]⟩) (fun k=>k≤l.length∧upK l at_ k=upK l at_ l.length) (fun k=>k) l.length rfl ⟨Nat.le_refl _,rfl⟩ ?_
 rintro k ⟨hk,hp⟩
 have fin:upK l at_ l.length=k→(∀P:Prop,True)→QA (upL l at_)=QA (l.take k):=fun e _=>by unfold upL;rw[e]
 have hw:∀k,win (l.map Ent.pv) 0 k=(l.take k).map Ent.pv:=fun k=>by simp [win,List.map_take]
 cases k with
 | zero=>
  have c0:¬(0:Int)<((0:Nat):Int):=by omega
  have e:=fin hp.symm (fun _=>trivial)
  simp only[go_sem,Int.lt_irrefl,hw,Nat.zero_le,e,c0];first|done|rfl
 | succ k=>
  have hlt:k<l.length:=by omega
  have c0:(0:Int)<((k+1:Nat):Int):=by omega
  have w1:IntKind.i64.wrap (((k+1:Nat):Int)-1)=(k:Int):=by rw[BA _ (by omega) (by omega)];omega
  have hg:=dC Ent.pv hlt
  have ct:ZA none 2 (Ent.pv l[k])=some (eI l[k].time):=rfl
  rw[upK,List.getElem?_eq_getElem hlt]at hp;have e0:(Option.map Ent.time (some l[k])).getD 0=l[k].time:=rfl
  rw[e0]at hp;by_cases h1:at_<l[k].time
  ·rw[if_pos h1]at hp
   simp only[go_sem,c0,w1,hlt,hg,ct,h1];exact⟨k,rfl,⟨by omega,hp⟩,by omega⟩
  ·rw[if_neg h1]at hp
   have e:=fin hp.symm (fun _=>trivial)
   have hk':k+1≤l.length:=hk
   simp only[go_sem,c0,w1,hlt,hg,ct,h1,hw,hk',e];first|done|rfl
def wI (S:Flo)(x:Ent):Bool:=(ixB x.board S.bs).isNone&&decide (x.kind=1)
theorem zkr (fb:Obj)(steps:List Nm)(tries:Int)(hst:steps.length≤1000){n:Nat}(hn:n≤1000000)(S:Flo)(I:FlI S steps n)(l:aA)(x:Ent)(hx:wI S x=false) :
 bA X NF [.ref (h.length+7) 0,.p x.pv] (FS h fb steps tries S l) K=K (AI (S.act steps tries x).1) (FS h fb steps tries (S.act steps tries x).2 l) []:=by
 unfold Flo.act;cases hi:ixB x.board S.bs with
 | none=>
  have k1:x.kind≠1:=by
   intro e;unfold wI at hx;rw[hi,e]at hx;simp at hx
  dsimp only;rw[if_neg k1];exact zkp fb steps tries S l x hi k1
 | some i=>
  obtain⟨e,he⟩:=zeR hi;have hm:e∈S.bs:=List.mem_of_getElem? he
  dsimp only;rw[he];dsimp only;by_cases k1:x.kind=1
  ·rw[if_pos k1]
   exact zks fb steps tries S l x i hi k1
  ·rw[if_neg k1]
   have:=I.fl e hm;have:=I.rl;have:=I.el;exact zkq fb steps tries hst S l i e.1 e.2 x hi he (by omega) (by omega) (fun h2=>I.st e hm (.inr (.inl h2))) (by omega) k1
def Flo.step (S:Flo)(steps:List Nm)(tries:Int)(i:Nat)(x:Ent):Flo:=
 if(S.act steps tries x).1≠0 then { (S.act steps tries x).2 with ref:=(S.act steps tries x).2.ref++[(i:Int)],why:=(S.act steps tries x).2.why++[(S.act steps tries x).1] } else(S.act steps tries x).2
def Flo.go (steps:List Nm)(tries:Int):Flo→Nat→List (Ent×Bool)→Flo
 | S,_,[]=>S
 | S,i,(x,c)::r=>if c=false∨x.kind=7 then Flo.go steps tries S (i+1) r else Flo.go steps tries (S.step steps tries i x) (i+1) r
def zG:Flo:=⟨[],[],0,[],[],[],[]⟩
theorem flI0 (steps:List Nm):FlI zG steps 0:=
 ⟨fun e he=>(by cases he),fun e he=>(by cases he),List.nodup_nil,List.nodup_nil,Nat.le_refl _,Nat.le_refl _,Nat.le_refl _,Nat.le_refl _,Nat.le_refl _⟩
theorem pZ {S:Flo}{steps:List Nm}{tries:Int}{n:Nat}(I:FlI S steps n)(hst:steps≠[])(i:Nat)(x:Ent) :
 FlI (S.step steps tries i x) steps (n+1)∧(S.step steps tries i x).P=(iD steps tries S.P x).1∧(S.step steps tries i x).ref=(if(iD steps tries S.P x).2≠0 then S.ref++[(i:Int)] else S.ref)∧(S.step steps tries i x).why=(if(iD steps tries S.P x).2≠0 then S.why++[(iD steps tries S.P x).2] else S.why):=by
 obtain⟨a1,a2,a3,a4,a5⟩:=z0r (tries:=tries) I hst x;unfold Flo.step;rw[←a1];by_cases h0:(S.act steps tries x).1≠0
 ·rw[if_pos h0,if_pos h0,if_pos h0]
  refine⟨⟨a3.st,a3.fl,a3.nb,a3.ns,a3.bl,a3.rl,a3.el,?_,?_⟩,a2,by dsimp only;rw[a4],by dsimp only;rw[a5]⟩
  ·dsimp only;rw[List.length_append,a4];have:=I.fr;simp;omega
  ·dsimp only;rw[List.length_append,a5];have:=I.fw;simp;omega
 ·rw[if_neg h0,if_neg h0,if_neg h0]
  exact⟨a3,a2,a4,a5⟩
def JC (h:aA):Nat→Esc
 | 0=>[]
 | n+1=>(h.length+1,h.length+(8+3*(n+1)))::JC h n
theorem xJ {h:aA}:∀{n:Nat} {y:Nat×Nat},y∈JC h n→y.1=h.length+1∧y.2≤h.length+(8+3*n)
 | 0,y,hy=>by cases hy
 | n+1,y,hy=>by
  rcases List.mem_cons.1 hy with e|e
  ·rw[e];exact⟨rfl,Nat.le_refl _⟩
  ·have:=xJ e;omega
theorem z1T (h:aA):∀(n m:Nat),h.length+8≤m→m≤h.length+(8+3*n)→FD (JC h n) m=h.length+(8+3*n)
 | 0,m,h1,h2=>by simp [JC,FD];omega
 | n+1,m,h1,h2=>by
  unfold JC FD;rw[List.foldl_cons,if_pos (by dsimp only;omega)]
  have e:max m (h.length+(8+3*(n+1)))=h.length+(8+3*(n+1)):=by omega
  dsimp only;rw[e];have:∀(x:Esc) (m:Nat),(∀y∈x,y.2≤m)→x.foldl (fun m y=>if y.1<m then max m y.2 else m) m=m:=by
   intro x;induction x with
   | nil=>intro m _;rfl
   | cons y r ih=>
    intro m hm;rw[List.foldl_cons];have h1:=hm y (List.mem_cons_self ..)
    have:(if y.1<m then max m y.2 else m)=m:=by split <;> omega
    rw[this];exact ih m fun z hz=>hm z (List.mem_cons_of_mem _ hz)
  exact this _ _ fun y hy=>by have:=(xJ hy).2;omega
theorem zjF {b q n:Nat}{P:jA}{H:aA}(hq:q=b+7)(hH:H.length=b+(8+3*n))(x:Esc)(hx:∃ h:aA,h.length=b∧x=JC h n)(k:P (.ref q 0) H x):lE false b P (some [.ref q 0]) H x:=by
 obtain⟨h,rfl,rfl⟩:=hx;subst hq;have e1:∀m,PA m H (.ref (h.length+7) 0)=some (.ref (h.length+7) 0):=fun m=>by simp [PA]
 have e2:AV.top (.ref (h.length+7) 0)=h.length+8:=by simp [AV.top]
 have e6:LA [AV.ref (h.length+7) 0] = .ref (h.length+7) 0:=rfl
 have e7:max h.length (h.length+8)=h.length+8:=by omega
 have e3:∀c,FD (JC h n) c=h.length+(8+3*n)→close (JC h n).length (JC h n) (h.length+8)=h.length+(8+3*n):=by
  intro c _;have hb:=fun m h1 h2=>z1T h n m h1 h2
  have:∀k m,h.length+8≤m→m≤h.length+(8+3*n)→(m=h.length+(8+3*n)∨1≤k)→close k (JC h n) m=h.length+(8+3*n):=by
   intro k;induction k with
   | zero=>intro m h1 h2 h3;unfold close;omega
   | succ k ih=>
    intro m h1 h2 _;unfold close;rw[hb m h1 h2];exact ih _ (by omega) (Nat.le_refl _) (.inl rfl)
  refine this _ _ (Nat.le_refl _) (by omega) ?_
  cases n with
  | zero=>left;omega
  | succ n=>right;simp [JC]
 have e3':=e3 _ (z1T h n _ (Nat.le_refl _) (by omega))
 have e4:bB (JC h n) (h.length+(8+3*n))=true:=by
  unfold bB;rw[List.all_eq_true];intro y hy;have:=(xJ hy).2;simp [this]
 have e5:(JC h n).filter (fun y=>decide (y.1<h.length+(8+3*n)))=JC h n:=by
  rw[List.filter_eq_self];intro y hy;have:=(xJ hy).1;simp;omega
 have e8:H.take (h.length+(8+3*n))=H:=List.take_of_length_le (by omega)
 simp only[lE,e6,e1,e2,e7,e3',e4,e5,e8,if_true];exact⟨by omega,k⟩
theorem XS (fb:Obj)(steps:List Nm)(tries:Int)(S:Flo)(l:aA):(FS h fb steps tries S l).length=h.length+(8+3*S.bs.length+l.length):=by unfold FS;rw[TC,jD]
end Go.Am
end
section
/- Entries followed: the walk,all. -/
open Go
set_option linter.all false
set_option maxRecDepth 100000
namespace Go.Am
variable {h:aA} {K:jA}
attribute [-go_sem] GA IA OA mB
attribute [local go_sem] TC yD qD zD BE CE DE EE pE FE GE HE IE JE KE LE
abbrev fF (steps:List Nm)(tries:Int):AV:=.p (.agg [.sl none (steps.map .str),eI tries])
def flB (steps:List Nm)(tries:Int):Obj:=.box [rB steps,AI tries]
def nE (l:List Ent):List (Ent×Bool):=l.zip (zB l)
theorem NS (l:List Ent):(nE l).length=l.length:=by unfold nE;rw[List.length_zip,WH];simp
theorem znn {l:List Ent}{k:Nat}(hk:k<l.length):(nE l)[k]'(by rw[NS];exact hk)=(l[k],(zB l)[k]'(by rw[WH];exact hk)):=by unfold nE;rw[List.getElem_zip]
theorem z8k {S:Flo}{steps:List Nm}{tries:Int}{x:Ent}(hx:wI S x=false):(S.act steps tries x).2.bs.length=S.bs.length:=by
 unfold Flo.act;cases hi:ixB x.board S.bs with
 | none=>
  have k1:x.kind≠1:=by
   intro e;unfold wI at hx;rw[hi,e]at hx;simp at hx
  dsimp only;rw[if_neg k1]
 | some i=>
  dsimp only;cases S.bs[i]? with
  | none=>rfl
  | some e=>
   dsimp only;split
   ·rfl
   ·unfold Flo.old Flo.startR Flo.start Flo.finishR Flo.finish Flo.put
    split
    ·split
     ·rfl
     split
     ·rfl
     split
     ·rfl
     ·simp
    split
    ·split
     ·rfl
     split
     ·rfl
     ·simp
    split
    ·split
     ·rfl
     ·simp
    split
    ·rfl
    split
    ·simp
    ·simp
abbrev yB (steps:List Nm)(tries:Int)(l:List Ent):Flo:=Flo.go steps tries zG 0 (nE l)
set_option maxHeartbeats 8000000 in
theorem z55 (steps:List Nm)(tries:Int)(h1:steps.length≤1000)(h0:steps≠[])(l:List Ent)(hl:l.length≤1000) :
 bA X OF [fF steps tries,QA l] h K=K (.ref (h.length+7) 0) (FS h (flB steps tries) steps tries (yB steps tries l) []) (JC h (yB steps tries l).bs.length):=by
 refine tA ?_;rw[z9V rfl];have cnt:=fun h K=>zkc (h:=h) (K:=K) l (by omega)
 simp only[MP,go_sem,↓cnt,cnt];have hF0:Flo.go steps tries zG 0 ((nE l).drop 0)=yB steps tries l:=rfl
 generalize yB steps tries l=F at *;refine XA (fun t:Nat×Flo=>⟨[(5,.ref (h.length+7) 0),(6,.p (.sl none ((zB l).map DB))),(17,QA l),(18,AI l.length),(19,AI t.1)],FS h (flB steps tries) steps tries t.2 [],JC h t.2.bs.length⟩)
  (fun t=>t.1≤l.length∧Flo.go steps tries t.2 t.1 ((nE l).drop t.1)=F∧FlI t.2 steps t.1) (fun t=>l.length-t.1) (0,zG) ?_ ⟨Nat.zero_le _,hF0,flI0 steps⟩ ?_
 ·rfl
 rintro⟨k,S⟩ ⟨hk,hp,I⟩
 dsimp only at hk hp I ⊢;rcases Nat.lt_or_ge k l.length with hlt|hge
 ·have w1:IntKind.i64.wrap ((k:Int)+1)=((k+1:Nat):Int):=BA _ (by omega) (by omega)
  have hkc:k<(zB l).length:=by rw[WH];exact hlt
  have hg:=dC Ent.pv hlt
  have hc:=dC DB hkc
  have cx:=LF (x:=l[k])
  have cc:∀b:Bool,ZA none 0 (DB b)=some (DB b):=fun _=>rfl
  have hzl:k<(nE l).length:=by rw[NS];exact hlt
  rw[List.drop_eq_getElem_cons hzl,znn hlt]at hp;unfold Flo.go at hp;generalize (zB l)[k]=c at *;generalize hx:l[k]=x at *;have lenS:=XS (h:=h) (flB steps tries) steps tries S []
  simp only[List.length_nil,Nat.add_zero]at lenS;have app0:∀(S:Flo) (l2:aA),FS h (flB steps tries) steps tries S []++l2=FS h (flB steps tries) steps tries S l2:=fun S l2=>by unfold FS;rw[yD];rfl
  have gt:∀(o:Obj),(FS h (flB steps tries) steps tries S [o])[h.length+(8+3*S.bs.length)]?=some o:=fun o=>by unfold FS;exact tl1 (l:=[])
  have st:∀(o o':Obj),(FS h (flB steps tries) steps tries S [o]).set (h.length+(8+3*S.bs.length)) o'=FS h (flB steps tries) steps tries S [o']:=fun o o'=>by
   unfold FS;have:=US (h:=h) (B:=zA S.bs) (l:=[o]) (o:=o') (o0:=flB steps tries) (o1:=vA PV.str eC (lB (h.length+8) S.bs)) (o2:=tC S.sm S.ck) (o3:=.row (some 5) (S.ends.map EndP.pv) 0) (o4:=.row (some 3) (S.runs.map RunP.pv) 0) (o5:=.row none (S.ref.map eI) 0) (o6:=.row none (S.why.map eI) 0) (o7:=wbx h steps tries S.ends.length S.runs.length S.ref.length S.why.length) 0;rw[jD]at this;exact this
  have tk0:∀(o:Obj),(FS h (flB steps tries) steps tries S [o]).take (h.length+(8+3*S.bs.length))=FS h (flB steps tries) steps tries S []:=fun o=>uL (h:=h) (flB steps tries) steps tries S [] [o]
  have f1:h.length+7+1≤h.length+(8+3*S.bs.length):=by omega
  by_cases hskip:c=false∨x.kind=7
  ·rw[if_pos hskip]at hp
   rcases hskip with e|e
   ·subst e
    simp only[go_sem,hlt,hg,hc,cx,cc,Ent.pv,lenS,app0,gt,st,splice,w1,tk0,f1];exact⟨(k+1,S),rfl,⟨by dsimp only;omega,hp,I.up⟩,by dsimp only;omega⟩
   ·cases c with
    | false=>
     simp only[go_sem,hlt,hg,hc,cx,cc,Ent.pv,lenS,app0,gt,st,splice,w1,tk0,f1];exact⟨(k+1,S),rfl,⟨by dsimp only;omega,hp,I.up⟩,by dsimp only;omega⟩
    | true=>
     simp only[go_sem,hlt,hg,hc,cx,cc,Ent.pv,lenS,app0,gt,st,splice,w1,tk0,f1,eq_true e];exact⟨(k+1,S),rfl,⟨by dsimp only;omega,hp,I.up⟩,by dsimp only;omega⟩
  ·rw[if_neg hskip]at hp
   rw[not_or]at hskip;have c1:c=true:=by simpa using hskip.1
   have k7:=hskip.2
   subst c1;obtain⟨I2,_⟩:=pZ (tries:=tries) I h0 k x;by_cases hnew:wI S x=true
   ·unfold wI at hnew
    rw[Bool.and_eq_true,Option.isNone_iff_eq_none]at hnew;obtain⟨n1,n2⟩:=hnew;have n2:x.kind=1:=by simpa using n2
    have ea:S.act steps tries x=(0,S.enter steps x):=by unfold Flo.act;rw[n1];dsimp only;rw[if_pos n2]
    have es:S.step steps tries k x=S.enter steps x:=by unfold Flo.step;rw[ea];exact if_neg (by simp)
    rw[es]at hp I2;have tkN:=fun K=>zko (h:=h) (K:=K) (flB steps tries) steps tries h0 S x n1 n2
    simp only[Ent.pv,Ent.bx]at tkN;have lenE:(S.enter steps x).bs.length=S.bs.length+1:=by unfold Flo.enter;simp
    have tkE:(FS h (flB steps tries) steps tries (S.enter steps x) []).take (h.length+(8+3*(S.bs.length+1)))=FS h (flB steps tries) steps tries (S.enter steps x) []:=by
     have:=uL (h:=h) (flB steps tries) steps tries (S.enter steps x) [] [];rw[lenE]at this;exact this
    have mx:max (h.length+(8+3*S.bs.length)) (h.length+(8+3*(S.bs.length+1)))=h.length+(8+3*(S.bs.length+1)):=by omega
    have tr:∀(x0:Esc) (e:List (Nat×AV)) (H:aA),SC (h.length+(8+3*S.bs.length)) x0 ⟨e,H,[(h.length+1,h.length+(8+3*(S.bs.length+1)))]⟩=⟨bE (h.length+(8+3*(S.bs.length+1))) e,H.take (h.length+(8+3*(S.bs.length+1))),(h.length+1,h.length+(8+3*(S.bs.length+1)))::x0⟩:=fun x0 e H=>by rw[zlD (by omega),mx]
    have f2:h.length+7+1≤h.length+(8+3*(S.bs.length+1)):=by omega
    simp only[go_sem,hlt,hg,hc,cx,cc,Ent.pv,lenS,app0,gt,st,splice,w1,k7,↓tkN,tkN,tr,tkE,f2];exact⟨(k+1,S.enter steps x),by dsimp only;rw[lenE];rfl,⟨by dsimp only;omega,hp,I2⟩,by dsimp only;omega⟩
   ·have hnew:wI S x=false:=by simpa using hnew
    have tkO:=fun K=>zkr (h:=h) (K:=K) (flB steps tries) steps tries h1 (n:=k) (by omega) S I [x.bx] x hnew
    have lenA:(S.act steps tries x).2.bs.length=S.bs.length:=z8k hnew
    simp only[Ent.pv,Ent.bx]at tkO;obtain⟨_,_,I3,a4,a5⟩:=z0r (tries:=tries) I h0 x;have fr:=I3.fr
    have fw:=I3.fw
    unfold Flo.step at hp I2;generalize S.act steps tries x=R at *;obtain⟨e,S2⟩:=R;dsimp only at *;have tk2:∀(o:Obj),(FS h (flB steps tries) steps tries S2 [o]).take (h.length+(8+3*S.bs.length))=FS h (flB steps tries) steps tries S2 []:=fun o=>by
     have:=uL (h:=h) (flB steps tries) steps tries S2 [] [o];rw[lenA]at this;exact this
    by_cases e0:e=0
    ·rw[if_neg (by simp [e0])]at hp I2
     simp only[go_sem,hlt,hg,hc,cx,cc,Ent.pv,lenS,app0,gt,st,splice,w1,k7,↓tkO,tkO,eq_true e0,tk2,f1];exact⟨(k+1,S2),by dsimp only;rw[lenA],⟨by dsimp only;omega,hp,I2⟩,by dsimp only;omega⟩
    ·rw[if_pos e0]at hp I2
     obtain⟨bs2,sm2,ck2,ends2,runs2,ref2,why2⟩:=S2;dsimp only at *;have m1:ref2.length+1≤YA:=by unfold YA;omega
     have m2:why2.length+1≤YA:=by unfold YA;omega
     have e5:=fun n o m=>esc7 h 5 n o m (by decide)
     have e6:=fun n o m=>esc7 h 6 n o m (by decide)
     have tkF:∀(o0 o1 o2 o3 o4 o5 o6 o7 b:Obj),(FH h o0 o1 o2 o3 o4 o5 o6 o7 (zA bs2) [b]).take (h.length+(8+3*S.bs.length))=FH h o0 o1 o2 o3 o4 o5 o6 o7 (zA bs2) []:=fun o0 o1 o2 o3 o4 o5 o6 o7 b=>by
      have:=LH (h:=h) (o0:=o0) (o1:=o1) (o2:=o2) (o3:=o3) (o4:=o4) (o5:=o5) (o6:=o6) (o7:=o7) (B:=zA bs2) (l:=[b]) 0;rw[jD,lenA]at this;exact this
     have eS:∀l,FS h (flB steps tries) steps tries ⟨bs2,sm2,ck2,ends2,runs2,ref2,why2⟩ l=FH h (flB steps tries) (vA PV.str eC (lB (h.length+8) bs2)) (tC sm2 ck2) (.row (some 5) (ends2.map EndP.pv) 0) (.row (some 3) (runs2.map RunP.pv) 0) (.row none (ref2.map eI) 0) (.row none (why2.map eI) 0)
      (.box [rB steps,AI tries,.mp (h.length+1),.mp (h.length+2),.own (h.length+3) ends2.length 0 ends2.length,.own (h.length+4) runs2.length 0 runs2.length,.own (h.length+5) ref2.length 0 ref2.length,.own (h.length+6) why2.length 0 why2.length]) (zA bs2) l:=fun l=>rfl
     simp only[eS]at tkO;simp only[go_sem,hlt,hg,hc,cx,cc,Ent.pv,lenS,app0,gt,st,splice,w1,k7,↓tkO,tkO,e0,tkF,f1,m1,m2,e5,e6];refine⟨(k+1,⟨bs2,sm2,ck2,ends2,runs2,ref2++[(k:Int)],why2++[e]⟩),?_,⟨by dsimp only;omega,hp,I2⟩,by dsimp only;omega⟩
     dsimp only;rw[lenA];unfold FS wbx;simp only[List.map_append,List.length_append,List.map_cons,List.map_nil,List.length_cons,List.length_nil,Nat.zero_add]
 ·have ek:k=l.length:=by omega
  subst ek;rw[show(nE l).drop l.length=[] from List.drop_of_length_le (by rw[NS];exact Nat.le_refl _)]at hp
  unfold Flo.go at hp;subst hp;have fl:h.length+7+1≤(FS h (flB steps tries) steps tries S []).length:=by rw[XS];omega
  simp only[go_sem,Nat.lt_irrefl,fl];refine zjF (n:=S.bs.length) (H:=FS h (flB steps tries) steps tries S []) rfl (XS (flB steps tries) steps tries S []) _ ⟨h,rfl,rfl⟩ ?_;exact⟨rfl,rfl,rfl⟩
end Go.Am
end
section
/- Flows;what is refused;the status of a board: the program. -/
open Go
set_option linter.all false
set_option maxRecDepth 100000
namespace Go.Am
variable {h:aA} {K:jA}
attribute [-go_sem] GA IA OA mB
attribute [local go_sem] TC yD qD zD BE CE DE EE pE FE GE HE IE JE KE LE
def vI:List Nm→List Nm→Int
 | _,[]=>0
 | pre,s::r=>if tB s=false then 5 else if pre.contains s=true then 6 else vI (pre++[s]) r
def uI (steps:List Nm)(tries:Int):Int:=if steps.length=0 then 8 else if(20:Int)<steps.length then 2 else if vI [] steps≠0 then vI [] steps else if inB 1 tries 10=false then 1 else 0
attribute [-go_sem] mW
theorem zjN (steps:List Nm)(tries:Int)(hl:steps.length≤1000)(hk:∀ s∈steps,s.length≤1000000):bA X IJ [fF steps tries] h K=K (AI (uI steps tries)) h []:=by
 refine tA ?_;rw[z9J rfl];unfold uI;by_cases h0:steps.length=0
 ·have h0':(steps.length:Int)=0:=by omega
  simp only[pJ,go_sem,eq_true h0',h0]
 have h0':¬(steps.length:Int)=0:=by omega
 by_cases h1:(20:Int)<steps.length
 ·simp only[pJ,go_sem,h0',h0,h1]
 simp only[pJ,go_sem,h0',h0,h1];refine XA (fun k:Nat=>⟨[(1,.ref h.length 0),(16,rB steps),(17,AI steps.length),(18,AI k)],h++[.box [rB steps,AI tries]],[]⟩) (fun k=>k≤steps.length∧vI (steps.take k) (steps.drop k)=vI [] steps) (fun k=>steps.length-k) 0 rfl ⟨by omega,rfl⟩ ?_
 rintro k ⟨hkl,hp⟩
 rcases Nat.lt_or_ge k steps.length with hlt|hge
 ·have hg:=dC PV.str hlt
  have cw:∀v:List UInt8,ZA none 0 (PV.str v)=some (PV.str v):=fun _=>rfl
  have w2:IntKind.i64.wrap ((k:Int)+1)=((k+1:Nat):Int):=BA _ (by omega) (by omega)
  have ky:=fun h K=>vN (h:=h) (K:=K) steps[k] (by have:=hk _ (List.getElem_mem hlt);omega)
  have ct:=fun h K=>SZ (h:=h) (K:=K) (steps.take k) (fun h' _=>strS _) steps[k] (by simp;omega)
  have hw:win (steps.map PV.str) 0 k=(steps.take k).map PV.str:=by simp [win,List.map_take]
  have hk2:k≤steps.length:=by omega
  rw[List.drop_eq_getElem_cons hlt,vI]at hp;cases h2:tB steps[k]with
  | false=>
   rw[if_pos h2]at hp;simp only[go_sem,hlt,hg,cw,↓ky,ky,h2];rw[←hp];first|done|rfl
  | true=>
   rw[if_neg (by simp [h2])]at hp
   cases h3:(steps.take k).contains steps[k]with
   | true=>
    rw[if_pos h3]at hp;rw[h3]at ct;simp only[go_sem,hlt,hg,cw,↓ky,ky,h2,hw,hk2,↓ct,ct];rw[←hp];first|done|rfl
   | false=>
    rw[if_neg (by rw[h3];simp),←List.take_succ_eq_append_getElem hlt]at hp
    rw[h3]at ct;simp only[go_sem,hlt,hg,cw,↓ky,ky,h2,hw,hk2,↓ct,ct,w2];exact⟨k+1,rfl,⟨by omega,hp⟩,by omega⟩
 ·have ek:k=steps.length:=by omega
  subst ek;rw[List.drop_length]at hp;have hz:vI [] steps=0:=by rw[←hp];rfl
  rw[if_neg (by simp [hz])]
  simp only[go_sem,Nat.lt_irrefl];rw[mW];cases h4:inB 1 tries 10 with
  | false=>simp only[PL,go_sem,mE,h4];first|done|rfl
  | true=>simp only[PL,go_sem,mE,h4];first|done|rfl
def momF (n:Int):Int:=if YE n=true then 0 else 1
theorem zkg (n:Int):bA X QJ [AI n] h K=K (AI (momF n)) h []:=by
 refine tA ?_;rw[z9W rfl];unfold momF;cases h1:YE n with
 | false=>simp only[TL,go_sem,NG,h1,Bool.false_eq_true]
 | true=>simp only[TL,go_sem,NG,h1]
def WE (steps:List Nm)(tries:Int)(l:List Ent)(at_:Int):Int:=orL [uI steps tries,nB l,momF at_]
structure StOk (steps:List Nm) (l:List Ent):Prop where
 n:steps.length≤1000
 k:∀s∈steps,s.length≤1000000
 e:∀x∈l,EntOk x
 l:l.length≤1000
theorem z53 (steps:List Nm)(tries:Int)(l:List Ent)(O:StOk steps l)(at_:Int):bA X kH [fF steps tries,QA l,AI at_] h K=K (AI (WE steps tries l at_)) h []:=by
 refine tA ?_;rw[z9O rfl];have q1:=fun h K=>zjN (h:=h) (K:=K) steps tries O.n O.k
 have q2:=fun h K=>nS (h:=h) (K:=K) l O.e (by have:=O.l;omega)
 have q3:=fun h K=>zkg (h:=h) (K:=K) at_
 have q4:=fun h K=>z5q (h:=h) (K:=K) [uI steps tries,nB l,momF at_] (by simp)
 simp only[AL,List.map_cons,List.map_nil]at q4;simp only[HP,go_sem,↓q1,q1,↓q2,q2,↓q3,q3,↓q4,q4];rfl
theorem ES {steps:List Nm}{l:List Ent}(O:StOk steps l)(at_:Int):StOk steps (upL l at_):=
 ⟨O.n,O.k,fun x hx=>O.e x (List.mem_of_mem_take hx),by unfold upL;rw[List.length_take];have:=O.l;omega⟩
theorem DM {steps:List Nm}{tries:Int}{l:List Ent}{at_:Int}(h:WE steps tries l at_=0):steps≠[]:=by
 intro e;subst e;unfold WE at h;have:uI [] tries=8:=rfl
 rw[this]at h;simp [orL]at h
end Go.Am
end
section
/- What is BC at once is nothing;refused entries left out: plainly. -/
open Go
set_option linter.all false
set_option maxRecDepth 100000
namespace Go.Am
def gtE (a b:Ent):Prop:=0<AA b a
theorem lG {x y:Int}:0<gB x y↔y<x:=by unfold gB;split <;> (try split) <;> omega
theorem mG {x y:Int}:gB x y=0↔x=y:=by unfold gB;split <;> (try split) <;> omega
theorem ze0 {a b c:Ent}(h1:gtE a b)(h2:gtE b c):gtE a c:=by
 unfold gtE AA at *;have lt1:∀{x y:List UInt8},0<DA x y↔DA y x<0:=fun {x y}=>by rw[YG y x];omega
 by_cases t1:gB b.time a.time=0
 ·rw[if_neg (by simp [t1])]at h1
  have e1:=mG.1 t1
  by_cases t2:gB c.time b.time=0
  ·rw[if_neg (by simp [t2])]at h2
   have e2:=mG.1 t2
   rw[if_neg (by rw[e2,e1];simp [mG])]
   by_cases s1:DA b.site a.site=0
   ·rw[if_neg (by simp [s1])]at h1
    have f1:=HF s1
    by_cases s2:DA c.site b.site=0
    ·rw[if_neg (by simp [s2])]at h2
     have f2:=HF s2
     rw[if_neg (by rw[f2,f1];simp [KO])]
     rw[lG]at *;omega
    ·rw[if_pos s2]at h2
     rw[f1]at s2 h2;rw[if_pos s2];exact h2
   ·rw[if_pos s1]at h1
    by_cases s2:DA c.site b.site=0
    ·have f2:=HF s2
     rw[f2,if_pos s1];exact h1
    ·rw[if_pos s2]at h2
     have q:=LO (lt1.1 h1) (lt1.1 h2)
     have q2:=lt1.2 q
     rw[if_pos (by omega)];exact q2
  ·rw[if_pos t2,lG]at h2
   have:¬gB c.time a.time=0:=fun z=>by have:=mG.1 z;omega
   rw[if_pos this,lG];omega
 ·rw[if_pos t1,lG]at h1
  by_cases t2:gB c.time b.time=0
  ·have e2:=mG.1 t2
   have:¬gB c.time a.time=0:=fun z=>by have:=mG.1 z;omega
   rw[if_pos this,lG];omega
  ·rw[if_pos t2,lG]at h2
   have:¬gB c.time a.time=0:=fun z=>by have:=mG.1 z;omega
   rw[if_pos this,lG];omega
theorem zd8 (p:Option Ent)(x:Ent)(r:List Ent):MC p (x::r)=(if sB x≠0 then sB x else if(p.elim false fun q=>decide (AA x q≤0))=true then 7 else MC (some x) r):=by cases p <;> rfl
theorem z1I:∀ (l:List Ent) (p:Option Ent),MC p l=0↔(∀ x∈l,sB x=0)∧(p.toList++l).Pairwise gtE∨l=[]
 | [],p=>by simp [MC]
 | x::r,p=>by
  have ih:=z1I r (some x)
  rw[zd8];have ord:((p.elim false fun q=>decide (AA x q≤0))=true)↔¬ ∀q∈p.toList,gtE q x:=by
   cases p with
   | none=>simp
   | some q=>simp [gtE]
  constructor
  ·intro h
   left;by_cases h1:sB x=0
   ·rw[if_neg (by simp [h1])]at h
    by_cases h2:(p.elim false fun q=>decide (AA x q≤0))=true
    ·rw[if_pos h2]at h;exact absurd h (by decide)
    ·rw[if_neg h2]at h
     have h2':∀q∈p.toList,gtE q x:=by
      rw[ord]at h2;exact Classical.not_not.1 h2
     have hr:(x::r).Pairwise gtE:=by
      rcases ih.1 h with⟨_,q⟩|q
      ·exact q
      ·rw[q];exact List.pairwise_singleton ..
     refine⟨fun y hy=>?_,?_⟩
     ·rcases List.mem_cons.1 hy with e|e
      ·rw[e];exact h1
      ·rcases ih.1 h with⟨q,_⟩|q
       ·exact q y e
       ·rw[q]at e;cases e
     ·cases p with
      | none=>exact hr
      | some q=>
       refine List.pairwise_cons.2 ⟨fun y hy=>?_,hr⟩
       have hq:=h2' q (by simp)
       rcases List.mem_cons.1 hy with e|e
       ·rw[e];exact hq
       ·exact ze0 hq ((List.pairwise_cons.1 hr).1 y e)
   ·rw[if_pos h1]at h;exact absurd h h1
  ·intro h
   rcases h with⟨h1,h2⟩|h
   ·have hx:=h1 x (List.mem_cons_self ..)
    rw[if_neg (by simp [hx])]
    have hr:(x::r).Pairwise gtE:=(List.pairwise_append.1 h2).2.1
    have hn:¬(p.elim false fun q=>decide (AA x q≤0))=true:=by
     rw[ord];exact Classical.not_not.2 fun q hq=>(List.pairwise_append.1 h2).2.2 q hq x (List.mem_cons_self ..)
    rw[if_neg hn];exact ih.2 (.inl ⟨fun y hy=>h1 y (List.mem_cons_of_mem _ hy),hr⟩)
   ·cases h
theorem CS:∀ (l seen:List Ent),bC seen l=false↔(∀ x∈l,∀ o∈seen,iB o x=false)∧l.Pairwise fun o x=>iB o x=false
 | [],seen=>by simp [bC]
 | x::r,seen=>by
  have ih:=CS r (seen++[x])
  unfold bC;by_cases h:seen.any (fun o=>iB o x)=true
  ·rw[if_pos h]
   constructor
   ·intro q;cases q
   ·rintro⟨q,_⟩
    obtain⟨o,ho,hs⟩:=List.any_eq_true.1 h;rw[q x (List.mem_cons_self ..) o ho]at hs;cases hs
  ·rw[if_neg h,ih,List.pairwise_cons]
   have hs:∀o∈seen,iB o x=false:=by simpa using h
   constructor
   ·rintro⟨q1,q2⟩
    refine⟨fun y hy o ho=>?_,fun y hy=>q1 y hy x (by simp),q2⟩
    rcases List.mem_cons.1 hy with e|e
    ·rw[e];exact hs o ho
    ·exact q1 y e o (by simp [ho])
   ·rintro⟨q1,q2,q3⟩
    refine⟨fun y hy o ho=>?_,q3⟩
    rcases List.mem_append.1 ho with e|e
    ·exact q1 y (List.mem_cons_of_mem _ hy) o e
    ·rw[List.mem_singleton.1 e];exact q2 y hy
theorem qW (l:List Ent):nB l=0↔l.length≤2000∧(∀x∈l,sB x=0)∧l.Pairwise gtE∧l.Pairwise fun o x=>iB o x=false:=by
 have e0:MC none l=0↔(∀x∈l,sB x=0)∧l.Pairwise gtE:=by
  rw[z1I];constructor
  ·rintro (h|h)
   ·exact h
   ·rw[h];simp
  ·intro h;exact .inl h
 have t0:=CS l []
 unfold nB;constructor
 ·intro h
  split at h
  ·cases h
  rename_i h1;split at h
  ·rename_i h2;exact absurd h h2
  rename_i h2;split at h
  ·cases h
  rename_i h3;have h2':MC none l=0:=by simpa using h2
  have h3':bC [] l=false:=by simpa using h3
  exact⟨by omega,(e0.1 h2').1,(e0.1 h2').2,(t0.1 h3').2⟩
 ·rintro⟨h1,h2,h3,h4⟩
  rw[if_neg (by omega),if_neg (by simp [e0.2 ⟨h2,h3⟩]),if_neg (by rw[t0.2 ⟨fun _ _ _ h=>(by cases h),h4⟩];simp)]
theorem early {l:List Ent}(hv:∀ x∈l,EntV x)(hf:nB l=0):∀x∈l,x.time≤1000∧x.site≠[122,122]:=fun x hx=>by
 have:=(VP (zd7 hf x hx)).t;have z:=(hv x hx).z
 exact⟨by omega,z.1⟩
end Go.Am
end
section
/- Entries EB: the program's way and the reference's,plainly. -/
open Go
set_option linter.all false
namespace Go.Am
theorem nW {a b:Ent}:AA a b≤0↔a.time<b.time∨(a.time=b.time∧(DA a.site b.site<0∨(a.site=b.site∧a.no≤b.no))):=by
 unfold AA;by_cases h1:gB a.time b.time=0
 ·have e1:=mG.1 h1
  rw[if_neg (by omega)]
  by_cases h2:DA a.site b.site=0
  ·have e2:=HF h2
   rw[if_neg (by omega)]
   have n1:¬DA a.site b.site<0:=by omega
   simp only[e1,e2,Int.lt_irrefl,true_and,false_or];have:=lG (x:=a.no) (y:=b.no);have h3:DA b.site b.site=0:=by rw[←e2]at h2 ⊢;exact h2
   constructor
   ·intro h;right;omega
   ·rintro (h|h) <;> omega
  ·rw[if_pos h2]
   have n2:a.site≠b.site:=fun e=>h2 (by rw[e];have:=YG b.site b.site;omega)
   simp only[e1,Int.lt_irrefl,true_and,false_or,n2,false_and,or_false];omega
 ·rw[if_pos h1]
  have n1:a.time≠b.time:=fun e=>h1 (mG.2 e)
  have:=lG (x:=a.time) (y:=b.time);simp only[n1,false_and,or_false];omega
theorem IG:Ordr AA:=by
 refine⟨fun a b=>z1E a b,fun a b d h1 h2=>?_⟩
 rw[nW]at *;rcases h1 with h1|⟨h1,h1'⟩ <;> rcases h2 with h2|⟨h2,h2'⟩
 ·exact .inl (by omega)
 ·exact .inl (by omega)
 ·exact .inl (by omega)
 ·refine .inr ⟨by omega,?_⟩
  rcases h1' with h1'|⟨h1',h3⟩ <;> rcases h2' with h2'|⟨h2',h4⟩
  ·exact .inl (LO h1' h2')
  ·exact .inl (by rw[←h2'];exact h1')
  ·exact .inl (by rw[h1'];exact h2')
  ·exact .inr ⟨by rw[h1',h2'],by omega⟩
theorem oW {a b:Ent}(h:AA a b=0):iB a b=true:=by
 have h1:=(nW (a:=a) (b:=b)).1 (by omega)
 have h2:=(nW (a:=b) (b:=a)).1 (by have:=IG.neg a b;omega)
 have hn:=YG a.site b.site
 rcases h1 with h1|⟨_,h1|⟨h1,h3⟩⟩ <;> rcases h2 with h2|⟨_,h2|⟨h2,h4⟩⟩ <;> try omega
 ·have:=YG a.site a.site;rw[h2]at h1;omega
 ·rw[h1]at h2;have:=YG b.site b.site;omega
 ·unfold iB;simp [h1];omega
theorem z1M (a b:Ent):eqE a b=true↔a=b:=by simp [eqE]
theorem wJ {l:List Ent}(h:nB l=0):fG AA l∧l.Pairwise (fun o x=>iB o x=false)∧∀x∈l,sB x=0:=by
 obtain⟨_,h1,h2,h3⟩:=(qW l).1 h;refine⟨?_,h3,h1⟩;unfold fG;refine h2.imp fun {a b} h=>?_
 unfold gtE at h;have:=IG.neg a b;omega
def rH (a:List Ent)(x:Ent):Bool:=!a.any fun y=>iB y x
def iJ (a b:List Ent):Bool:=b.any fun x=>a.any fun y=>iB y x && !eqE y x
def XY (a b:List Ent):List Ent×Int:=if iJ a b then([],13) else(eB (ltO AA) (a++b.filter (rH a)),0)
theorem z5A (a b:Ent):iB a b=iB b a:=by
 unfold iB;rw[show decide (a.site=b.site)=decide (b.site=a.site) by simp [eq_comm],show decide (a.no=b.no)=decide (b.no=a.no) by simp [eq_comm]]
theorem VR {l:List Ent}(h:l.Pairwise (fun o x=>iB o x=false)){x y:Ent}(hx:x∈l)(hy:y∈l)(hs:iB x y=true):x=y:=by
 induction l with
 | nil=>cases hx
 | cons z r ih=>
  obtain⟨h1,h2⟩:=List.pairwise_cons.1 h;rcases List.mem_cons.1 hx with ex|hx <;> rcases List.mem_cons.1 hy with ey|hy
  ·rw[ex,ey]
  ·have:=h1 y hy;rw[←ex,hs]at this;cases this
  ·have:=h1 x hx;rw[←ey,z5A,hs]at this;cases this
  ·exact ih h2 hx hy
theorem z1N (a:Ent):eqE a a=true:=by simp [eqE]
theorem zfX {a b:List Ent}(ha:nB a=0)(hb:nB b=0):zQ a b=XY a b:=by
 obtain⟨sa,pa,_⟩:=wJ ha;obtain⟨sb,pb,_⟩:=wJ hb;have he:orL [nB a,nB b]=0:=by simp [orL,ha,hb]
 unfold zQ XY;rw[if_neg (by simp [he])]
 have mm:∀x,x∈EB AA eqE a b↔x∈a∨x∈b:=fun x=>zfY fun x y h=>(z1M x y).1 h
 have ml:=z4r (c:=AA) (q:=eqE) (a:=a) (b:=b) IG
 cases hc:iJ a b with
 | true=>
  unfold iJ at hc;obtain⟨x,hx,h1⟩:=List.any_eq_true.1 hc;obtain⟨y,hy,h2⟩:=List.any_eq_true.1 h1;simp only[Bool.and_eq_true,Bool.not_eq_true']at h2;have tw:bC [] (EB AA eqE a b)=true:=by
   cases ht:bC [] (EB AA eqE a b) with
   | true=>rfl
   | false=>
    have hp:=((CS _ _).1 ht).2
    have:=VR hp ((mm y).2 (.inl hy)) ((mm x).2 (.inr hx)) h2.1;rw[this,z1N]at h2;cases h2.2
  rw[if_pos tw];rfl
 | false=>
  have nc:∀x∈b,∀y∈a,iB y x=true→y=x:=fun x hx y hy hs=>by
   unfold iJ at hc;have h1:=List.any_eq_false.1 hc x hx
   simp only[Bool.not_eq_true,List.any_eq_false,Bool.and_eq_true,Bool.not_eq_true',not_and]at h1;have h2:=h1 y hy hs
   simpa [eqE] using h2
  have all:∀x∈EB AA eqE a b,∀y∈EB AA eqE a b,iB x y=true→x=y:=fun x hx y hy hs=>by
   rcases(mm x).1 hx with h1|h1 <;> rcases(mm y).1 hy with h2|h2
   ·exact VR pa h1 h2 hs
   ·exact nc y h2 x h1 hs
   ·exact(nc x h1 y h2 (by rw[z5A];exact hs)).symm
   ·exact VR pb h1 h2 hs
  have st:fG AA (EB AA eqE a b):=zfZ IG fun i hi hz=>by
   have:=all _ (List.getElem_mem hi) _ (List.getElem_mem (show i<(EB AA eqE a b).length by omega)) (oW hz)
   exact za1 (q:=eqE) z1M (eB (ltO AA) (a++b)) i hi this.symm
  have tw:bC [] (EB AA eqE a b)=false:=by
   rw[CS];refine⟨fun _ _ _ h=>(by cases h),?_⟩
   refine List.pairwise_iff_getElem.2 fun i j hi hj hij=>?_
   cases hs:iB (EB AA eqE a b)[i] (EB AA eqE a b)[j]with
   | false=>rfl
   | true=>
    have e:=all _ (List.getElem_mem hi) _ (List.getElem_mem hj) hs
    have:=List.pairwise_iff_getElem.1 st i j hi hj hij;rw[e,IG.refl]at this;omega
  rw[if_neg (by simp [tw])]
  have dp:(a++b.filter (rH a)).Pairwise fun x y=>AA x y≠0:=by
   rw[List.pairwise_append];refine⟨sa.imp fun h=>by omega,(sb.filter _).imp fun h=>by omega,fun x hx y hy h=>?_⟩
   have h1:=(List.mem_filter.1 hy).2
   unfold rH at h1;simp only[Bool.not_eq_true',List.any_eq_false]at h1;exact h1 x hx (oW h)
  refine congrArg (·,(0:Int)) (yS IG st (zS IG dp) fun x=>?_)
  rw[xI,mm,List.mem_append,List.mem_filter];constructor
  ·rintro (h|h)
   ·exact .inl h
   ·cases hn:rH a x with
    | true=>exact .inr ⟨h,rfl⟩
    | false=>
     unfold rH at hn;simp only[Bool.not_eq_false',List.any_eq_true]at hn;obtain⟨y,hy,hs⟩:=hn;rw[←nc x h y hy hs];exact .inl hy
  ·rintro (h|h)
   ·exact .inl h
   ·exact .inr h.1
end Go.Am
end
section
/- Parts of a right list of entries,EB,are the list: plainly. -/
set_option linter.all false
namespace Go.Am
theorem XP {x p:List Ent}(h:nB x=0)(hp:p.Sublist x):nB p=0:=by
 obtain⟨h0,h1,h2,h3⟩:=(qW x).1 h;exact(qW p).2 ⟨by have:=hp.length_le;omega,fun e he=>h1 e (hp.subset he),h2.sublist hp,h3.sublist hp⟩
theorem zfW {x p q:List Ent}(h:nB x=0)(hp:p.Sublist x)(hq:q.Sublist x)(hc:∀ e∈x,e∈p∨e∈q):zQ p q=(x,0):=by
 rw[zfX (XP h hp) (XP h hq)];obtain⟨sx,px,_⟩:=wJ h;obtain⟨sp,pp,_⟩:=wJ (XP h hp);obtain⟨sq,pq,_⟩:=wJ (XP h hq);have same:∀{a b:Ent},a∈p→b∈q→iB a b=true→a=b:=fun ha hb e=>VR px (hp.subset ha) (hq.subset hb) e
 have nc:iJ p q=false:=by
  unfold iJ;rw[List.any_eq_false];intro b hb;rw[Bool.not_eq_true,List.any_eq_false];intro a ha;rw[Bool.not_eq_true,Bool.and_eq_false_iff];cases e:iB a b with
  | false=>exact .inl rfl
  | true=>right;rw[same ha hb e,z1N];rfl
 unfold XY;rw[nc,if_neg (by simp)]
 congr 1
 have nz:∀a b:Ent,iB a b=false→AA a b≠0:=fun a b e z=>by rw[oW z]at e;cases e
 refine yS IG (zS IG ?_) sx fun e=>?_
 ·refine List.pairwise_append.2 ⟨pp.imp fun {a b} e=>nz a b e,(pq.sublist List.filter_sublist).imp fun {a b} e=>nz a b e,fun a ha b hb=>?_⟩
  have:=(List.mem_filter.1 hb).2;unfold rH at this;rw[Bool.not_eq_true',List.any_eq_false]at this;exact nz a b (by simpa using this a ha)
 ·rw[xI,List.mem_append,List.mem_filter]
  constructor
  ·rintro (he|⟨he,_⟩)
   ·exact hp.subset he
   ·exact hq.subset he
  ·intro he
   rcases hc e he with k|k
   ·exact .inl k
   ·cases hn:rH p e with
    | true=>exact .inr ⟨k,rfl⟩
    | false=>
     left;unfold rH at hn
     rw[Bool.not_eq_false',List.any_eq_true]at hn;obtain⟨y,hy,e2⟩:=hn;rw[←same hy k e2];exact hy
end Go.Am
end
section
/- Entries that are a row of its own: is one there twice. -/
open Go
set_option linter.all false
set_option maxRecDepth 100000
namespace Go.Am
variable {h:aA} {K:jA}
attribute [-go_sem] GA
attribute [-go_sem] IA OA
theorem zkv (l:List Ent)(hn:l.length≤1000000){v:AV}(ht:v.top≤h.length)(hv:∀ o,Shows (some 8) v (l.map Ent.pv) (h++[o])):bA X xG [v] h K=K (AB (bC [] l)) h []:=by
 refine tA ?_;rw[eU];have hl:=(hv (.box [])).len
 have ht1:v.top≤h.length+1:=by omega
 rw[List.length_map]at hl;simp only[UL,go_sem,hl];refine XA (fun k:Nat=>⟨[(3,.mp h.length),(8,v),(9,AI l.length),(10,AI k)],h++[vA uC PB (ZC (l.take k))],[]⟩) (fun k=>k≤l.length∧bC (l.take k) (l.drop k)=bC [] l) (fun k=>l.length-k) 0 rfl ⟨by omega,rfl⟩ ?_
 rintro k ⟨hkl,hp⟩
 rcases Nat.lt_or_ge k l.length with hlt|hge
 ·obtain⟨a,ha,hg⟩:=(hv (vA uC PB (ZC (l.take k)))).get k (by simpa using hlt)
  rw[List.getElem_map]at hg;have w2:IntKind.i64.wrap ((k:Int)+1)=((k+1:Nat):Int):=BA _ (by omega) (by omega)
  rw[List.drop_eq_getElem_cons hlt,bC,←List.take_succ_eq_append_getElem hlt]at hp;have ek:l.take (k+1)=l.take k++[l[k]]:=List.take_succ_eq_append_getElem hlt
  generalize hx:l[k]=x at *;generalize l.take k=S at *;have lk:=fun(hp:aA) (e:hp[h.length]?=some (vA uC PB (ZC S)))=>oH (kk:=(some 2,[2,0])) (k:=(x.site,x.no)) UJ e VJ (ok:=false) (z:=PB false)
  have up:=fun(hp:aA) (e:hp[h.length]?=some (vA uC PB (ZC S)))=>ZJ (kk:=(some 2,[2,0])) (k:=(x.site,x.no)) UJ e VJ (v:=true) rfl
  have l1:=fun t=>lk (h++vA uC PB (ZC S)::t) (by simp)
  have u1:=fun t=>up (h++vA uC PB (ZC S)::t) (by simp)
  rw[nQ]at l1;simp only[PB,uC,cond_false,YB,AV.top]at l1 u1;cases hc:S.any (fun o=>iB o x) with
  | true=>
   rw[hc,if_pos rfl]at hp;rw[hc]at l1;simp only[if_true,Option.map_some,Option.getD_some,PB]at l1;simp only[go_sem,hlt,ha,hg,Ent.pv,splice,l1];rw[←hp]
  | false=>
   rw[hc,if_neg (by simp)]at hp
   rw[hc]at l1;have us:=z6d S x hc
   simp only[Bool.false_eq_true,if_false,Option.map_none,Option.getD_none]at l1;have nl0:¬h.length<0:=by omega
   simp only[nl0,if_false]at u1;rw[us]at u1;simp only[go_sem,hlt,ha,hg,Ent.pv,splice,l1,u1,w2,ht1];refine⟨k+1,?_,⟨by omega,?_⟩,by omega⟩
   ·rw[ek]
   ·rw[ek];rw[←ek];exact hp
 ·have ek:k=l.length:=by omega
  subst ek;rw[List.drop_length]at hp;simp only[go_sem,Nat.lt_irrefl];rw[←hp];rfl
theorem zku (l:List Ent)(hn:l.length≤1000000){id n fz:Nat}{xs:List PV}(hx:xs.length=n)(hh:h[id]?=some (.row (some 8) xs fz))(hs:xD (some 8) xs)(hlx:l.length≤xs.length)(hw:win xs 0 l.length=l.map Ent.pv):bA X xG [.own id n 0 l.length] h K=K (AB (bC [] l)) h []:=by
 have hid:id<h.length:=(List.getElem?_eq_some_iff.1 hh).1
 refine zkv l hn (by simp [AV.top];omega) fun o=>?_
 subst hx;have:=zkF (sh:=some 8) (id:=id) (off:=0) (len:=l.length) (fz:=fz) (xs:=xs) (h:=h++[o]) hs (by rw[List.getElem?_append_left hid];exact hh) (by omega)
 rwa [hw]at this
end Go.Am
end
section
/- Entries EB with none: the row is the caller's. -/
open Go
set_option linter.all false
set_option maxRecDepth 100000
namespace Go.Am
variable {h:aA} {K:jA}
attribute [-go_sem] GA
theorem zfV {l:List Ent}(h0:nB l=0):EB AA eqE l []=l∧bC [] l=false:=by
 have m:=zfW h0 (List.Sublist.refl l) (List.nil_sublist l) (fun e he=>.inl he)
 have hn:orL [nB l,nB []]=0:=by rw[h0];rfl
 unfold zQ at m;rw[if_neg (by simp [hn])]at m
 cases hT:bC [] (EB AA eqE l []) with
 | true=>rw[if_pos hT]at m;cases m
 | false=>
  rw[if_neg (by simp [hT])]at m
  have e:=congrArg Prod.fst m
  dsimp only at e;rw[e]at hT;exact⟨e,hT⟩
theorem zjC {l:aA}{a:Obj}{i j g off len fz:Nat}{sh:Sh}{xs:List PV}{v:PV}{P:jA}:rC h.length P [.o i,.t j] (some [.own (h.length+1) g off len,.p v]) (h++a :: .row sh xs fz::l) []=P (.tup [.own h.length g off len,.p v]) (h++[.row sh xs fz]) []:=z4Y (k:=1) rfl rfl
theorem zjD {l:aA}{i j g off len fz:Nat}{sh:Sh}{xs:List PV}{v:PV}{P:jA}:rC h.length P [.o i,.t j] (some [.own h.length g off len,.p v]) (h ++ .row sh xs fz::l) []=P (.tup [.own h.length g off len,.p v]) (h++[.row sh xs fz]) []:=z4Y (k:=0) rfl rfl
set_option maxHeartbeats 4000000 in
theorem zjX (a:List Ent)(ha:∀ x∈a,EntOk x)(h0:nB a=0)(hn:a.length≤20) :
 bA X vM [QA a,.p (.sl (some 8) [])] h K=K (.tup [.own h.length a.length 0 a.length,AI 0]) (h++[.row (some 8) (a.map Ent.pv) 0]) []:=by
 obtain⟨hm,hT⟩:=zfV h0;refine tA ?_;rw[z9K rfl];have q1:=fun h K=>nS (h:=h) (K:=K) a ha (by omega)
 have q2:∀(h:aA) (K:jA),bA X rF [.p (.sl (some 8) [])] h K=K (AI (nB [])) h []:=fun h K=>nS (h:=h) (K:=K) [] (fun x hx=>by cases hx) (by simp)
 have q3:=fun h K=>z5q (h:=h) (K:=K) [nB a,nB []] (by simp)
 simp only[AL,List.map_cons,List.map_nil]at q3;have he:orL [nB a,nB []]=0:=by rw[h0];rfl
 rw[he]at q3;have q4:=fun h K=>zjP (h:=h) (K:=K) [a.map Ent.pv,[]] (fun z hz=>by
  simp only[List.mem_cons,List.not_mem_nil,or_false]at hz;rcases hz with rfl|rfl
  ·exact vJ
  ·intro x hx;cases hx) (by simp) (by simp;omega)
 have ef:[a.map Ent.pv,[]].flatten=a.map Ent.pv:=by simp
 simp only[ef,List.map_cons,List.map_nil,lsE,List.length_map]at q4;have e0:∀o o',(h++[o]).set h.length o'=h++[o']:=fun o o'=>by rw[List.set_append_right _ _ (by simp)];simp
 have st:=fun K=>z5O (h:=h++[Obj.row (some 8) (a.map Ent.pv) 0]) (K:=K) h.length (a.map Ent.pv) vJ (by simp;omega) (by simp) (g:=MF) (caps:=[]) (c:=fun x y=>AA (cD x) (cD y))
  (fun o x hx y hy K=>by
   obtain⟨p,_,rfl⟩:=List.mem_map.1 hx;obtain⟨q,_,rfl⟩:=List.mem_map.1 hy;dsimp only;rw[DH,DH];exact gZ p q)
 have em:eB (ltC fun x y=>AA (cD x) (cD y)) (a.map Ent.pv)=(eB (ltO AA) a).map Ent.pv:=z3Y Ent.pv (fun x y=>by simp only[ltC,ltO,DH]) _
 rw[em]at st;simp only[e0,List.length_map]at st;have il:=sQ (ltO AA) a
 have cp:=fun K=>z64 (h:=h++[Obj.row (some 8) ((eB (ltO AA) a).map Ent.pv) 0]) (K:=K) h.length ((eB (ltO AA) a).map Ent.pv) vJ (by simp [il];omega) (by simp) (q:=fun x y=>eqE (cD x) (cD y))
  (fun x hx y hy=>by
   obtain⟨p,hp,rfl⟩:=List.mem_map.1 hx;obtain⟨q,_,rfl⟩:=List.mem_map.1 hy;rw[DH,DH];exact eqa8p p q)
  (fun x hx y hy=>by
   obtain⟨p,hp,rfl⟩:=List.mem_map.1 hx;obtain⟨q,_,rfl⟩:=List.mem_map.1 hy;rw[DH,DH];exact rW p q)
 have ec:BB (fun x y=>eqE (cD x) (cD y)) ((eB (ltO AA) a).map Ent.pv)=a.map Ent.pv:=by
  have e1:BB (fun x y=>eqE (cD x) (cD y)) ((eB (ltO AA) a).map Ent.pv)=(BB eqE (eB (ltO AA) a)).map Ent.pv:=zaz Ent.pv (fun x y=>by simp only[DH]) _
  have e2:BB eqE (eB (ltO AA) a)=a:=by
   have:=hm;unfold EB at this;rwa [List.append_nil]at this
  rw[e1,e2]
 rw[ec]at cp;simp only[e0,List.length_map,il,Nat.sub_self,List.replicate_zero,List.append_nil]at cp;have tw:=fun K=>zku (h:=h++[Obj.row (some 8) (a.map Ent.pv) 0]) (K:=K) a (by omega) (id:=h.length) (n:=a.length) (fz:=0) (xs:=a.map Ent.pv) (by simp) (by simp) vJ (by simp) (AZ (by simp))
 rw[hT]at tw;have b2:¬(2000:Int)<a.length:=by omega
 simp only[EP,go_sem,↓q1,q1,↓q2,q2,↓q3,q3,↓q4,q4,↓st,st,↓cp,cp,↓tw,tw,b2];rw[zjD];exact⟨rfl,rfl,rfl⟩
end Go.Am
end
section
/- The abstract machine,part K: slices.Sorted(maps.Keys(m)) at a map keyed by strings: its keys,sorted;met by the kit's contract. -/
set_option linter.all false
namespace Go.Am
variable {P:Program} {gl:Nat→Option PV}
def sortS (ss:List (List UInt8)):List (List UInt8):=ss.mergeSort fun x y=>decide (x≤y)
end Go.Am
end
section
/- Which boards run,by site: the program. -/
open Go
set_option linter.all false
set_option maxRecDepth 100000
namespace Go.Am
variable {h:aA} {K:jA}
structure SmI (S:Flo) (n:Nat):Prop where
 bn:(S.sm.map (·.2)).Nodup
 bl:∀e∈S.sm,e.2<S.ck
 ln:S.sm.length≤n
 kl:∀e∈S.sm,e.1.1.length≤1000000
theorem smI0:SmI zG 0:=⟨List.nodup_nil,fun e he=>(by cases he),Nat.le_refl _,fun e he=>(by cases he)⟩
theorem SmI.sub {S S':Flo}{n:Nat}(I:SmI S n)(h:S'.sm.Sublist S.sm)(hc:S'.ck=S.ck):SmI S' (n+1):=
 ⟨I.bn.sublist (h.map _),fun e he=>by rw[hc];exact I.bl e (h.subset he),by have:=h.length_le;have:=I.ln;omega,fun e he=>I.kl e (h.subset he)⟩
theorem zaI (m:sD)(k:Nm):(RE m k).Sublist m:=by
 unfold RE;split
 ·exact List.eraseIdx_sublist ..
 ·exact List.Sublist.refl _
theorem zkL {S:Flo}{n:Nat}(I:SmI S n)(steps:List Nm)(tries:Int){x:Ent}(hx:x.site.length≤1000000):SmI (S.act steps tries x).2 (n+1):=by
 have hs:∀i x0 st,SmI (S.start i x0 st x) (n+1):=fun i x0 st=>by
  refine⟨?_,fun e he=>?_,?_,fun e he=>?_⟩
  ·show((S.sm++[((x.site,x.board),S.ck)]).map (·.2)).Nodup
   rw[List.map_append,List.nodup_append];refine⟨I.bn,by simp,fun a ha b hb=>?_⟩
   obtain⟨e,he,rfl⟩:=List.mem_map.1 ha;have:=I.bl e he;simp at hb;omega
  ·show e.2<S.ck+1
   rcases List.mem_append.1 he with he|he
   ·have:=I.bl e he;omega
   ·simp at he;subst he;exact Nat.lt_succ_self _
  ·show(S.sm++_).length≤n+1
   have:=I.ln;simp;omega
  ·rcases List.mem_append.1 he with he|he
   ·exact I.kl e he
   ·simp at he;subst he;exact hx
 unfold Flo.act Flo.old Flo.startR Flo.finishR;repeat' split
 all_goals first|exact hs _ _ _|exact I.sub (List.Sublist.refl _) rfl|exact I.sub (zaI _ _) rfl
theorem zkM {S:Flo}{n:Nat}(I:SmI S n)(steps:List Nm)(tries:Int)(i:Nat){x:Ent}(hx:x.site.length≤1000000):SmI (S.step steps tries i x) (n+1):=by
 have J:=zkL I steps tries hx
 unfold Flo.step;split
 ·exact⟨J.bn,J.bl,J.ln,J.kl⟩
 ·exact J
theorem SmI.up {S:Flo}{n:Nat}(I:SmI S n):SmI S (n+1):=I.sub (List.Sublist.refl _) rfl
theorem nZ (steps:List Nm)(tries:Int)(h0:steps≠[]):∀(l:List (Ent×Bool)) (S:Flo) (i n:Nat),FlI S steps n→SmI S n→(∀y∈l,y.1.site.length≤1000000) →
 FlI (Flo.go steps tries S i l) steps (n+l.length)∧SmI (Flo.go steps tries S i l) (n+l.length)
 | [],S,i,n,I,J,_=>⟨I,J⟩
 | (x,c)::r,S,i,n,I,J,hx=>by
  have e1:Flo.go steps tries S i ((x,c)::r)=if c=false∨x.kind=7 then Flo.go steps tries S (i+1) r else Flo.go steps tries (S.step steps tries i x) (i+1) r:=rfl
  rw[e1,List.length_cons,show n+(r.length+1)=(n+1)+r.length by omega]
  have hr:=fun y hy=>hx y (List.mem_cons_of_mem (x,c) hy)
  by_cases hs:c=false∨x.kind=7
  ·rw[if_pos hs]
   exact nZ steps tries h0 r S (i+1) (n+1) I.up J.up hr
  ·rw[if_neg hs]
   exact nZ steps tries h0 r _ (i+1) (n+1) (pZ (tries:=tries) I h0 i x).1 (zkM J steps tries i (hx (x,c) (List.mem_cons_self ..))) hr
theorem MW {steps:List Nm}(tries:Int)(h0:steps≠[]){l:List Ent}(hl:∀ x∈l,x.site.length≤1000000):FlI (yB steps tries l) steps l.length∧SmI (yB steps tries l) l.length:=by
 have:=nZ steps tries h0 (nE l) zG 0 0 (flI0 steps) smI0 (fun y hy=>hl y.1 (List.of_mem_zip hy).1)
 rw[NS,Nat.zero_add]at this;exact this
def yE (e:Nm × Nm):PV:=.agg [.str e.1,.str e.2]
abbrev z60 (l:List (Nm × Nm)):AV:=.p (.sl (some 2) (l.map yE))
attribute [-go_sem] GA IA OA mB
attribute [local go_sem] TC yD qD zD BE CE DE EE pE FE GE HE IE JE KE LE
def fZ (F:Flo):List (Nm×Nm):=(sortS (F.sm.map fun e=>e.1.1)).map fun s=>(s,(lA (asS F.sm) s).getD [])
end Go.Am
end
section
/- Lists that are overwritten: entries,pairs,texts. -/
open Go
set_option linter.all false
set_option maxRecDepth 100000
namespace Go.Am
variable {h:aA} {K:jA}
attribute [-go_sem] GA
def zeE:PV:=.agg [.str [],eI 0,eI 0,eI 0,.str [],.str [],.str [],eI 0]
theorem zki:bA X lI [QA []] h K=K (.tup []) h []:=by
 refine tA ?_;rw[z0N];simp only[EL,go_sem,List.map_nil];refine XA (fun k:Nat=>⟨[(0,QA []),(2,.ref h.length 0),(5,AI 0),(6,AI k)],h++[.box [AS [],AI 0,AI 0,AI 0,AS [],AS [],AS [],AI 0]],[]⟩) (fun k=>k=0) (fun k=>0) 0 rfl rfl ?_
 intro k hk;subst hk;simp only[SP,mJ,go_sem,Int.lt_irrefl]
theorem z58 (l:List Ent)(hl:l.length≤1000000):bA X lI [.own h.length l.length 0 l.length] (h++[.row (some 8) (l.map Ent.pv) 0]) K=K (.tup []) (h++[.row (some 8) (List.replicate l.length zeE) 0]) []:=by
 refine tA ?_;rw[z0N];simp only[EL,go_sem,List.length_map];refine XA (fun k:Nat=>⟨[(0,.own h.length l.length 0 l.length),(2,.ref (h.length+1) 0),(5,AI l.length),(6,AI k)],h++[.row (some 8) (List.replicate k zeE++(l.drop k).map Ent.pv) 0,.box [AS [],AI 0,AI 0,AI 0,AS [],AS [],AS [],AI 0]],[]⟩) (fun k=>k≤l.length) (fun k=>l.length-k) 0 (by simp) (by omega) ?_
 intro k hk;have lml:(List.replicate k zeE++(l.drop k).map Ent.pv).length=l.length:=by simp;omega
 rcases Nat.lt_or_ge k l.length with hlt|hge
 ·have hlt':(k:Int)<(l.length:Int):=by omega
  have w2:IntKind.i64.wrap ((k:Int)+1)=((k+1:Nat):Int):=BA _ (by omega) (by omega)
  have hg:(List.replicate k zeE++(l.drop k).map Ent.pv)[k]?=some (Ent.pv l[k]):=by
   rw[List.getElem?_append_right (by simp),List.length_replicate,Nat.sub_self,List.drop_eq_getElem_cons hlt];rfl
  have fp:∀c:Ent,Ent.pv c = .agg [.str c.site,eI c.no,eI c.time,eI c.kind,.str c.board,.str c.step,.str c.of,eI c.other]:=fun _=>rfl
  rw[fp]at hg;have e1:(List.replicate k zeE++(l.drop k).map Ent.pv).set k zeE=List.replicate (k+1) zeE++(l.drop (k+1)).map Ent.pv:=by
   rw[List.set_append_right _ _ (by simp),List.length_replicate,Nat.sub_self,List.drop_eq_getElem_cons hlt,List.map_cons,List.set_cons_zero,List.replicate_succ',List.append_assoc];rfl
  have ez:(PV.agg [.str [],eI 0,eI 0,eI 0,.str [],.str [],.str [],eI 0])=zeE:=rfl
  generalize (List.replicate k zeE++(l.drop k).map Ent.pv)=M at *;simp only[SP,mJ,go_sem,splice,hlt',hlt,hg,lml,w2];exact⟨k+1,by rw[←e1];rfl,by omega,by omega⟩
 ·have ek:k=l.length:=by omega
  subst ek;rw[List.drop_length,List.map_nil,List.append_nil]at lml ⊢;simp only[SP,mJ,go_sem,Int.lt_irrefl]
def zeP:PV:=.agg [.str [],.str []]
theorem zkk (l:List (Nm × Nm))(hl:l.length≤1000000):bA X fM [.own h.length l.length 0 l.length] (h++[.row (some 2) (l.map yE) 0]) K=K (.tup []) (h++[.row (some 2) (List.replicate l.length zeP) 0]) []:=by
 refine tA ?_;rw[z9l];simp only[cP,go_sem,List.length_map];refine XA (fun k:Nat=>⟨[(0,.own h.length l.length 0 l.length),(2,.ref (h.length+1) 0),(5,AI l.length),(6,AI k)],h++[.row (some 2) (List.replicate k zeP++(l.drop k).map yE) 0,.box [AS [],AS []]],[]⟩) (fun k=>k≤l.length) (fun k=>l.length-k) 0 (by simp) (by omega) ?_
 intro k hk;have lml:(List.replicate k zeP++(l.drop k).map yE).length=l.length:=by simp;omega
 rcases Nat.lt_or_ge k l.length with hlt|hge
 ·have hlt':(k:Int)<(l.length:Int):=by omega
  have w2:IntKind.i64.wrap ((k:Int)+1)=((k+1:Nat):Int):=BA _ (by omega) (by omega)
  have hg:(List.replicate k zeP++(l.drop k).map yE)[k]?=some (yE l[k]):=by
   rw[List.getElem?_append_right (by simp),List.length_replicate,Nat.sub_self,List.drop_eq_getElem_cons hlt];rfl
  have fp:∀c:Nm×Nm,yE c = .agg [.str c.1,.str c.2]:=fun _=>rfl
  rw[fp]at hg;have e1:(List.replicate k zeP++(l.drop k).map yE).set k zeP=List.replicate (k+1) zeP++(l.drop (k+1)).map yE:=by
   rw[List.set_append_right _ _ (by simp),List.length_replicate,Nat.sub_self,List.drop_eq_getElem_cons hlt,List.map_cons,List.set_cons_zero,List.replicate_succ',List.append_assoc];rfl
  have ez:(PV.agg [.str [],.str []])=zeP:=rfl
  generalize (List.replicate k zeP++(l.drop k).map yE)=M at *;simp only[iW,FL,go_sem,splice,hlt',hlt,hg,lml,w2];exact⟨k+1,by rw[←e1];rfl,by omega,by omega⟩
 ·have ek:k=l.length:=by omega
  subst ek;rw[List.drop_length,List.map_nil,List.append_nil]at lml ⊢;simp only[iW,FL,go_sem,Int.lt_irrefl]
theorem zkj:bA X CJ [rB []] h K=K (.tup []) h []:=by
 refine tA ?_;rw[z0O];simp only[HL,go_sem,List.map_nil];refine XA (fun k:Nat=>⟨[(0,rB []),(2,.p (.str [])),(5,AI 0),(6,AI k)],h,[]⟩) (fun k=>k=0) (fun k=>0) 0 rfl rfl ?_
 intro k hk;subst hk;simp only[TP,nJ,go_sem,Int.lt_irrefl]
theorem zkl (l:List Nm)(hl:l.length≤1000000):bA X CJ [.own h.length l.length 0 l.length] (h++[.row none (l.map PV.str) 0]) K=K (.tup []) (h++[.row none (List.replicate l.length (.str [])) 0]) []:=by
 refine tA ?_;rw[z0O];simp only[HL,go_sem,List.length_map];refine XA (fun k:Nat=>⟨[(0,.own h.length l.length 0 l.length),(2,.p (.str [])),(5,AI l.length),(6,AI k)],h++[.row none (List.replicate k (.str [])++(l.drop k).map PV.str) 0],[]⟩) (fun k=>k≤l.length) (fun k=>l.length-k) 0 (by simp) (by omega) ?_
 intro k hk;have lml:(List.replicate k (PV.str [])++(l.drop k).map PV.str).length=l.length:=by simp;omega
 rcases Nat.lt_or_ge k l.length with hlt|hge
 ·have hlt':(k:Int)<(l.length:Int):=by omega
  have w2:IntKind.i64.wrap ((k:Int)+1)=((k+1:Nat):Int):=BA _ (by omega) (by omega)
  have hg:(List.replicate k (PV.str [])++(l.drop k).map PV.str)[k]?=some (.str l[k]):=by
   rw[List.getElem?_append_right (by simp),List.length_replicate,Nat.sub_self,List.drop_eq_getElem_cons hlt];rfl
  have e1:(List.replicate k (PV.str [])++(l.drop k).map PV.str).set k (.str [])=List.replicate (k+1) (PV.str [])++(l.drop (k+1)).map PV.str:=by
   rw[List.set_append_right _ _ (by simp),List.length_replicate,Nat.sub_self,List.drop_eq_getElem_cons hlt,List.map_cons,List.set_cons_zero,List.replicate_succ',List.append_assoc];rfl
  generalize (List.replicate k (PV.str [])++(l.drop k).map PV.str)=M at *;simp only[TP,nJ,go_sem,splice,hlt',hlt,hg,lml,w2];exact⟨k+1,by rw[←e1],by omega,by omega⟩
 ·have ek:k=l.length:=by omega
  subst ek;rw[List.drop_length,List.map_nil,List.append_nil]at lml ⊢;simp only[TP,nJ,go_sem,Int.lt_irrefl]
end Go.Am
end
section
/- A list cut at a pivot and sorted on ED sides: plain. -/
namespace Go.Am
variable {α:Type}
structure PartI (lt:α→α→Bool) (l R:List α) (p:α) (i j:Nat):Prop where
 pm:R.Perm l
 z:R[0]?=some p
 i1:1≤i
 ij:i≤j+1
 jn:j<R.length
 lo:∀t,1≤t→t<i→∀y,R[t]?=some y→lt y p=true
 hi:∀t,j<t→∀y,R[t]?=some y→lt y p=false
theorem PartI.up {lt:α→α→Bool}{l R:List α}{p:α}{i j:Nat}(h:PartI lt l R p i j)(hij:i≤j){y:α}(hy:R[i]?=some y)(hl:lt y p=true):PartI lt l R p (i+1) j:=
 ⟨h.pm,h.z,by omega,by omega,h.jn,fun t h1 h2 z hz=>by
  by_cases e:t=i
  ·subst e;rw[hy]at hz;cases hz;exact hl
  ·exact h.lo t h1 (by omega) z hz,h.hi⟩
end Go.Am
end
section
/- Sorting 13 or 14 entries: printed by program. -/
open Go
set_option linter.unusedSimpArgs false
namespace Go.Am
attribute [-go_sem] PV.cells splice
variable {h:aA} {K:jA}
end Go.Am
end
section
/- Cutting a list of entries at a pivot: printed by program. -/
open Go
set_option linter.unusedSimpArgs false
namespace Go.Am
attribute [-go_sem] PV.cells splice
variable {h:aA} {K:jA}
section
variable {K:Ex→St→Prop} {id i j:Nat} {l R:List PV} {p:PV} {g:Nat} {caps:List AV} {c:PV→PV→Int} {env:List (Nat × AV)}
theorem PartI.lens (hP:PartI (ltC c) l R p i j):R.length=l.length:=hP.pm.length_eq
theorem PartI.mems (hP:PartI (ltC c) l R p i j):∀x∈R,x∈l:=fun _ h=>hP.pm.mem_iff.1 h
theorem PartI.shp {sh:Sh}(hs:xD sh l)(hP:PartI (ltC c) l R p i j):xD sh R:=fun x h=>hs x (hP.mems x h)
end
end Go.Am
end
section
/- Sorting 13 or 14 entries,whole: printed by program. -/
open Go
set_option linter.unusedSimpArgs false
namespace Go.Am
attribute [-go_sem] PV.cells splice
variable {h:aA} {K:jA}
end Go.Am
end
section
/- Entries EB: the reference's walk. -/
open Go
set_option linter.all false
namespace Go.Am
variable {h:aA} {K:jA}
attribute [-go_sem] GA
theorem zjO (l:List Ent)(hl:l.length≤1000000):bA X HJ [QA l] h K=K (.own h.length l.length 0 l.length) (h++[.row (some 8) (l.map Ent.pv) 0]) []:=by
 refine tA ?_;rw[z94 rfl];simp only[sP];refine⟨_,_,_,⟨rfl,rfl,rfl⟩,?_⟩;cases l with
 | nil=>
  simp only[AL,QA,List.map_nil,List.length_nil,go_sem];exact List.take_of_length_le (by simp)
 | cons x r=>
  have hm:r.length+1≤YA:=by simp only[List.length_cons]at hl;unfold YA;omega
  simp only[AL,QA,List.map_cons,List.length_cons,go_sem,hm];exact List.take_of_length_le (by simp)
end Go.Am
end
section
/- An entry written: ED ways. -/
open Go
set_option linter.all false
namespace Go.Am
variable {h:aA} {K:jA}
attribute [-go_sem] GA splice
def nC (site:List UInt8)(l:List Ent):Int:=l.foldl (fun m y=>if y.site=site then max m y.no else m) 0
theorem z41 (site:List UInt8):∀(l:List Ent) (m:Int),(∀y∈l,y.no≤1000000)→0≤m→m≤1000000→0≤l.foldl (fun m y=>if y.site=site then max m y.no else m) m∧l.foldl (fun m y=>if y.site=site then max m y.no else m) m≤1000000
 | [],m,_,h0,h1=>⟨h0,h1⟩
 | y::r,m,hy,h0,h1=>by
  have h2:=hy y (by simp)
  rw[List.foldl_cons];refine z41 site r _ (fun z hz=>hy z (by simp [hz])) ?_ ?_ <;> (split <;> omega)
theorem zgy (site:List UInt8){l:List Ent}{k:Nat}(hk:k<l.length):nC site (l.take (k+1))=if l[k].site=site then max (nC site (l.take k)) l[k].no else nC site (l.take k):=by
 unfold nC;rw[List.take_succ_eq_append_getElem hk,List.foldl_append];rfl
def RC (l:List Ent)(x:Ent):Ent:={ x with no:=nC x.site l+1 }
def WJ (l:List Ent)(x:Ent):Bool:=match l.getLast? with
 | some y=>decide (AA x y≤0)
 | none=>false
def FB (l:List Ent)(x:Ent):List Ent×Int:=
 if x.no≠0 then([],3)
 else if sB (RC l x)≠0 then([],sB (RC l x))
 else if WJ l (RC l x)=true then([],7)
 else(l++[RC l x],0)
attribute [-go_sem] VL qJ
theorem wr_k3 {K:Ex→St→Prop}(l:List Ent)(x:Ent)(hx:EntOk x)(hl:l.length≤1000)(b:List (Nat × AV))(n0:x.no=0)(nb:0≤nC x.site l∧nC x.site l≤1000000)(hB:∀ y∈l,EntB y)
 (b0:eA b 0=QA l) (b3:eA b 3 = .ref h.length 0)
 (fin1:(FB l x).1=[]→∀H,K .ret ⟨[(4,QA []),(5,AI (FB l x).2)],h++H,[]⟩) (fin2:(FB l x).2=0→∀o r:Obj,o = .row (some 8) ((FB l x).1.map Ent.pv) 0→K .ret ⟨[(4,.own (h.length+1) (FB l x).1.length 0 (FB l x).1.length),(5,AI 0)],h++[r,o],[]⟩) :
 NW (bA X) X.gl QK ⟨b,h++[.box [AS x.site,AI (nC x.site l),AI x.time,AI x.kind,AS x.board,AS x.step,AS x.of,AI x.other]],[]⟩ K:=by
 rw[VL];have w1:IntKind.i64.wrap (nC x.site l+1)=nC x.site l+1:=BA _ (by omega) (by omega)
 have nn:(RC l x).pv = .agg [.str x.site,eI (nC x.site l+1),eI x.time,eI x.kind,.str x.board,.str x.step,.str x.of,eI x.other]:=rfl
 have nk:EntOk (RC l x):=⟨hx.s,hx.b,hx.p,hx.o⟩
 have sp:splice [AS x.site,AI (nC x.site l),AI x.time,AI x.kind,AS x.board,AS x.step,AS x.of,AI x.other] 1 [AI (nC x.site l+1)]=[AS x.site,AI (nC x.site l+1),AI x.time,AI x.kind,AS x.board,AS x.step,AS x.of,AI x.other]:=rfl
 have st:∀(k:AV→aA→Esc→Prop),(pK (EA 1 none (AV.ref h.length 0)) fun t1=>pK (FA none t1 (h++[Obj.box [AS x.site,AI (nC x.site l),AI x.time,AI x.kind,AS x.board,AS x.step,AS x.of,AI x.other]])) fun t2=>
  pK (CA .add t2 (AI 1)) fun t3=>pK (EA 1 none (AV.ref h.length 0)) fun t4=>wK (vB none t4 t3 (h++[Obj.box [AS x.site,AI (nC x.site l),AI x.time,AI x.kind,AS x.board,AS x.step,AS x.of,AI x.other]])) fun t5 h6 y7=>
  pK (FA (some 8) (AV.ref h.length 0) h6) fun t8=>k t8 h6 y7)=k (.p (RC l x).pv) (h++[Obj.box [AS x.site,AI (nC x.site l+1),AI x.time,AI x.kind,AS x.board,AS x.step,AS x.of,AI x.other]]) []:=by
  intro k;rw[nn];simp only[go_sem,w1,sp,eI]
 have ef:=fun h K=>z52 (h:=h) (K:=K) (RC l x) nk
 unfold FB at fin1 fin2;rw[if_neg (by simp [n0])]at fin1 fin2
 have cl:=fun h K=>zjO (h:=h) (K:=K) l (by omega)
 have b2000:¬(2000:Int)≤(l.length:Int):=by omega
 have hm:l.length+1≤YA:=by unfold YA;omega
 rw[b0,b3];unfold qJ;rw[st];dsimp only;rw[ef];by_cases h1:sB (RC l x)=0
 ·rw[if_neg (by simp [h1])]at fin1 fin2
  rw[h1];have hx8:(h++[Obj.box [AS x.site,AI (nC x.site l+1),AI x.time,AI x.kind,AS x.board,AS x.step,AS x.of,AI x.other]])[h.length]?=some (Obj.box [AS x.site,AI (nC x.site l+1),AI x.time,AI x.kind,AS x.board,AS x.step,AS x.of,AI x.other]):=by simp
  cases hl0:l.getLast? with
  | none=>
   have el:l.length=0:=by rw[List.getLast?_eq_none_iff.1 hl0];rfl
   have lz:¬(0:Int)<(l.length:Int):=by omega
   have le:WJ l (RC l x)=false:=by unfold WJ;rw[hl0]
   rw[if_neg (by simp [le])]at fin2
   simp only[go_sem,lz,↓cl,cl,b2000,hm];have Z:=fin2 rfl (.row (some 8) ((l++[RC l x]).map Ent.pv) 0) (Obj.box [AS x.site,AI (nC x.site l+1),AI x.time,AI x.kind,AS x.board,AS x.step,AS x.of,AI x.other]) rfl
   simp only[List.map_append,List.map_cons,List.map_nil,nn,List.length_append,List.length_cons,List.length_nil,eI,Nat.zero_add]at Z;exact Z
  | some y=>
   have hy:y∈l:=List.mem_of_getLast? hl0
   have hp:0<l.length:=List.length_pos_of_mem hy
   have lz:(0:Int)<(l.length:Int):=by omega
   have w2:IntKind.i64.wrap ((l.length:Int)-1)=((l.length-1:Nat):Int):=by rw[BA _ (by omega) (by omega)];omega
   have hlt:l.length-1<l.length:=by omega
   have gl:=dC Ent.pv hlt
   have ey:l[l.length-1]=y:=by rw[List.getLast?_eq_getElem?,List.getElem?_eq_getElem hlt]at hl0;exact Option.some.inj hl0
   rw[ey]at gl;have cy:ZA (some 8) 0 y.pv=some y.pv:=rfl
   have le:WJ l (RC l x)=decide (AA (RC l x) y≤0):=by unfold WJ;rw[hl0]
   have cp:=fun h K=>gZ (h:=h) (K:=K) (RC l x) y
   simp only[Ent.pv,eI]at gl cy;simp only[nn]at cp;simp only[Ent.pv,eI]at cp;by_cases hc:AA (RC l x) y≤0
   ·rw[if_pos (by simp [le,hc])]at fin1
    have hc':=hc
    simp only[go_sem,lz,w2,hlt,gl,cy,↓cp,cp,hc'];exact fin1 rfl _
   ·rw[if_neg (by simp [le,hc])]at fin2
    have hc':=hc
    simp only[go_sem,lz,w2,hlt,gl,cy,↓cp,cp,hc',↓cl,cl,b2000,hm];have Z:=fin2 rfl (.row (some 8) ((l++[RC l x]).map Ent.pv) 0) (Obj.box [AS x.site,AI (nC x.site l+1),AI x.time,AI x.kind,AS x.board,AS x.step,AS x.of,AI x.other]) rfl
    simp only[List.map_append,List.map_cons,List.map_nil,nn,List.length_append,List.length_cons,List.length_nil,eI,Nat.zero_add]at Z;exact Z
 ·rw[if_pos h1]at fin1
  dsimp only at fin1;have e12:CA .neq (.p (.int .i64 (sB (RC l x)))) (.p (.int .i64 0))=some (AB true):=by simp only[go_sem,h1]
  rw[e12,nX,uU];exact fin1 rfl _
end Go.Am
end
section
/- An entry written: the loops. -/
open Go
set_option linter.all false
namespace Go.Am
variable {h:aA} {K:jA}
attribute [-go_sem] GA
attribute [-go_sem] VL qJ
theorem z6o {K:Ex→St→Prop}(l:List Ent)(x:Ent)(hx:EntOk x)(hl:l.length≤1000)(n0:x.no=0)(hB:∀ y∈l,EntB y)
 (fin1:(FB l x).1=[]→∀H,K .ret ⟨[(4,QA []),(5,AI (FB l x).2)],h++H,[]⟩) (fin2:(FB l x).2=0→∀o r:Obj,o = .row (some 8) ((FB l x).1.map Ent.pv) 0→K .ret ⟨[(4,.own (h.length+1) (FB l x).1.length 0 (FB l x).1.length),(5,AI 0)],h++[r,o],[]⟩) :
 VA (bA X) X.gl (.scope HI) (EC 0 (oD (bA X) X.gl QK K)) [(0,QA l),(3,.ref h.length 0),(18,QA l),(19,AI l.length),(20,AI 0)] (h++[.box [AS x.site,AI 0,AI x.time,AI x.kind,AS x.board,AS x.step,AS x.of,AI x.other]]) []:=by
 refine XA (fun k:Nat=>⟨[(0,QA l),(3,.ref h.length 0),(18,QA l),(19,AI l.length),(20,AI k)],h++[.box [AS x.site,AI (nC x.site (l.take k)),AI x.time,AI x.kind,AS x.board,AS x.step,AS x.of,AI x.other]],[]⟩) (fun k=>k≤l.length) (fun k=>l.length-k) 0 rfl (by omega) ?_
 intro k hk;have nb:∀j,0≤nC x.site (l.take j)∧nC x.site (l.take j)≤1000000:=fun j=>z41 x.site _ 0 (fun y hy=>(hB y (List.mem_of_mem_take hy)).n.2) (by omega) (by omega)
 rcases Nat.lt_or_ge k l.length with hlt|hge
 ·have g:=dC Ent.pv hlt
  have c1:ZA (some 8) 0 l[k].pv=some l[k].pv:=rfl
  have w2:IntKind.i64.wrap ((k:Int)+1)=((k+1:Nat):Int):=BA _ (by omega) (by omega)
  have ns:=zgy x.site hlt
  have hb:=hB _ (List.getElem_mem hlt)
  simp only[Ent.pv,eI]at g c1;by_cases he:l[k].site=x.site
  ·rw[if_pos he]at ns
   have he':=eq_true he
   simp only[go_sem,hlt,g,c1,w2,he'];exact⟨k+1,by rw[ns],by omega,by omega⟩
  ·rw[if_neg he]at ns
   simp only[go_sem,hlt,g,c1,w2,he];exact⟨k+1,by rw[ns],by omega,by omega⟩
 ·have e:k=l.length:=by omega
  subst e;simp only[go_sem,Nat.lt_irrefl,List.take_length];have nb':=nb l.length
  rw[List.take_length]at nb';exact wr_k3 l x hx hl _ n0 nb' hB rfl rfl fin1 fin2
end Go.Am
end
section
/- An entry written: the row is the caller's. -/
open Go
set_option linter.all false
namespace Go.Am
variable {h:aA} {K:jA}
attribute [-go_sem] GA
attribute [-go_sem] VL qJ
theorem zka (l:List Ent)(x:Ent)(hr:∀ y∈l,EntOk y)(hx:EntOk x)(hl:l.length≤1000)(he:nB l=0)(n0:x.no=0)(hne:(FB l x).2=0→(FB l x).1≠[]) :
 bA X JJ [QA l,.p x.pv] h K=if(FB l x).2=0 then K (.tup [.own h.length (FB l x).1.length 0 (FB l x).1.length,AI 0]) (h++[.row (some 8) ((FB l x).1.map Ent.pv) 0]) [] else K (.tup [QA [],AI (FB l x).2]) h []:=by
 have q1:=fun h K=>nS (h:=h) (K:=K) l hr (by omega)
 rw[he]at q1;have hB:∀y∈l,EntB y:=fun y hy=>VP ((wJ he).2.2 y hy)
 by_cases h2:(FB l x).2=0
 ·rw[if_pos h2]
  refine tA ?_;rw[z0T rfl];simp only[SL,Ent.pv,eI,go_sem,↓q1,q1,n0];refine z6o l x hx hl n0 hB (fun e1 H=>absurd e1 (hne h2)) (fun _ o r ho=>?_)
  subst ho;simp only[go_sem];rw[zjC];exact⟨rfl,rfl,rfl⟩
 ·rw[if_neg h2]
  refine tA ?_;rw[z0T rfl];simp only[SL,Ent.pv,eI,go_sem,↓q1,q1,n0];refine z6o l x hx hl n0 hB (fun e1 H=>?_) (fun h3=>absurd h3 h2)
  simp only[go_sem];first|done|rfl|exact⟨rfl,by simp,rfl⟩|simp
end Go.Am
end
section
/- How many boards are in each state: the program. -/
open Go
set_option linter.all false
set_option maxRecDepth 100000
namespace Go.Am
variable {h:aA} {K:jA}
abbrev kC:Int→PV:=fun n=>.int .i64 n
abbrev vC:Int→AV:=fun n=>AI n
theorem z4n:∀ (bs:aB) (q i:Nat) (e:Ent × Sta),bs[i]?=some e→(lB q bs)[i]?=some (e.1.board,q+(3*i+2))
 | [],q,i,e,h=>by simp at h
 | y::r,q,0,e,h=>by simp at h;subst h;rfl
 | y::r,q,i+1,e,h=>by
  have:=z4n r (q+3) i e (by simpa using h)
  simp only[lB,List.getElem?_cons_succ,this];rw[show q+3+(3*i+2)=q+(3*(i+1)+2) by omega]
attribute [-go_sem] GA IA OA mB QB RB
def GC (h:aA)(steps:List Nm)(tries:Int)(m:List (Int × Int)):aA:=h++[.box [rB steps,AI tries],vA kC vC m]
def HC (h:aA)(steps:List Nm)(tries:Int)(F:Flo)(G:Nat)(m:List (Int × Int))(l:aA):aA:=
 FH (GC h steps tries m) (flB steps tries) (vA PV.str eC (lB (G+8) F.bs)) (tC F.sm F.ck) (.row (some 5) (F.ends.map EndP.pv) 0) (.row (some 3) (F.runs.map RunP.pv) 0) (.row none (F.ref.map eI) 0) (.row none (F.why.map eI) 0)
  (.box [rB steps,AI tries,.mp (G+1),.mp (G+2),.own (G+3) F.ends.length 0 F.ends.length,.own (G+4) F.runs.length 0 F.runs.length,.own (G+5) F.ref.length 0 F.ref.length,.own (G+6) F.why.length 0 F.why.length]) (zA F.bs) l
end Go.Am
end
section
/- Sorting texts by a comparison: printed by program. -/
open Go
set_option linter.unusedSimpArgs false
namespace Go.Am
attribute [-go_sem] PV.cells splice
variable {h:aA} {K:jA}
theorem zeJ (id n:Nat)(l tl:List PV)(hn:n=l.length+tl.length)(hs:xD none l)(hl:l.length≤1000)(hh:h[id]?=some (.row none (l++tl) 0)){g:Nat}{caps:List AV}{c:PV→PV→Int}(hc:Cmps g caps c l id h) :
 bA X tM [.own id n 0 l.length,AI 0,AI l.length,.fn g caps] h K=K (.tup []) (h.set id (.row none (eB (ltC c) l++tl) 0)) []:=by
 refine tA ?_;rw[z9F];have hid:=DG hh
 have hst:∀o,(h.set id o)[id]?=some o:=fun o=>zH hid
 simp only[BP,go_sem,show IntKind.i64.wrap 1=1 from rfl]
 refine XA (fun i:Nat=>⟨[(0,.own id n 0 l.length),(1,AI 0),(2,AI l.length),(3,.fn g caps),(8,AI i)],h.set id (.row none ((QD (ltC c) (l.take i)).reverse++(l.drop i++tl)) 0),[]⟩) (fun i=>1≤i∧(i≤l.length∨i=1)) (fun i=>l.length-i) 1 ?_ (by simp) ?_
 ·have:(QD (ltC c) (l.take 1)).reverse++(l.drop 1++tl)=l++tl:=by cases l <;> rfl
  rw[this,jL hh];rfl
 rintro i ⟨hi1,hi2⟩
 rcases Nat.lt_or_ge i l.length with hlt|hge
 ·simp only[go_sem,hlt]
  have hxl:l[i]∈l:=List.getElem_mem hlt
  generalize hx:l[i]=x at *;generalize hR:QD (ltC c) (l.take i)=R;have hRl:R.length=i:=by rw[←hR,z3U];simp;omega
  have hRm:∀z∈R,z∈l:=fun z hz=>List.mem_of_mem_take ((rQ (ltC c) (l.take i)).mem_iff.1 (by rw[hR];exact hz))
  have hdrop:l.drop i=x::l.drop (i+1):=by rw[←hx];exact List.drop_eq_getElem_cons hlt
  have hnext:QD (ltC c) (l.take (i+1))=ZB (ltC c) x R:=by rw[z3X _ _ _ hlt,hR,hx]
  refine XA (fun t:List PV×List PV=>⟨[(0,.own id n 0 l.length),(1,AI 0),(2,AI l.length),(3,.fn g caps),(8,AI i),(9,AI t.1.length)],h.set id (.row none (t.1.reverse++x::t.2) 0),[]⟩)
   (fun t=>∃B,R=B++t.1∧t.2=B.reverse++(l.drop (i+1)++tl)∧∀b∈B,ltC c x b=true) (fun t=>t.1.length) (R,l.drop (i+1)++tl) (by rw[hdrop,hRl];rfl) ⟨[],rfl,rfl,by simp⟩ ?_
  rintro⟨A,C⟩ ⟨B,q1,q2,q3⟩
  dsimp only at q1 q2 q3;have hlen:(A.reverse++x::C).length=n:=by
   have:R.length=B.length+A.length:=by rw[q1];simp
   rw[q2];simp;omega
  have hBA:B.length+A.length<l.length:=by
   have:R.length=B.length+A.length:=by rw[q1];simp
   omega
  have hln:l.length≤n:=by omega
  have w1:IntKind.i64.wrap ((i:Int)+1)=((i+1:Nat):Int):=BA _ (by omega) (by omega)
  cases A with
  | nil=>
   have hd:ZB (ltC c) x R=B++[x]:=by rw[q1];exact qQ (ltC c) x [] B q3 (fun y r h=>by cases h)
   simp only[go_sem,Int.lt_irrefl,w1];refine⟨i+1,?_,by omega,by omega⟩
   simp only[hnext,hd,q2,List.reverse_append,List.reverse_nil,List.nil_append,List.reverse_cons,List.append_assoc,List.cons_append]
  | cons y A=>
   have hyl:y∈l:=hRm y (by rw[q1];simp)
   have g1:=z3R (y::A) C x
   have g2:=z3S A C x y
   have sw:=z3T A C x y
   simp only[List.length_cons]at hBA;generalize hrow:(y::A).reverse++x::C=row at *;simp only[List.length_cons]at g1;have w2:IntKind.i64.wrap (((A.length+1:Nat):Int)-1)=(A.length:Int):=by rw[BA _ (by omega) (by omega)];omega
   have p1:(0:Int)<((A.length+1:Nat):Int):=by omega
   have b1:A.length+1<l.length:=by omega
   have b2:A.length<l.length:=by omega
   have cx:=YF (hs x hxl)
   have cy:=YF (hs y hyl)
   have hcc:=fun o K=>hc o x hxl y hyl K
   by_cases hxy:c x y<0
   ·have g3:(row.set (A.length+1) y)[A.length]?=some y:=by rw[List.getElem?_set_ne (by omega),g2]
    have lx:=zN (hs x hxl)
    have ly:=zN (hs y hyl)
    have sx:=yN (hs x hxl)
    have sy:=yN (hs y hyl)
    simp only[gA]at lx ly;have t1:=fun i xs h1=>AN (hs x hxl) (hs y hyl) id i 0 xs h1
    have t2:=fun i xs h1=>AN (hs y hyl) (hs x hxl) id i 0 xs h1
    simp only[go_sem,hst,p1,hlen,g1,g2,g3,w2,b1,b2,hln,cx,cy,hcc,hxy,lx,ly,sx,sy,t1,t2,sw];refine⟨(A,y::C),rfl,⟨B++[y],by simp [q1],by simp [q2],fun b hb=>?_⟩,by simp⟩
    rw[List.mem_append,List.mem_singleton]at hb;rcases hb with hb|rfl
    ·exact q3 b hb
    ·simpa [ltC] using hxy
   ·have hd:ZB (ltC c) x R=B++x::y::A:=by rw[q1];exact qQ (ltC c) x (y::A) B q3 (fun z r h=>by cases h;simpa [ltC] using hxy)
    simp only[go_sem,hst,p1,hlen,g1,g2,w2,b1,b2,hln,cx,cy,hcc,hxy,w1];refine⟨i+1,?_,by omega,by omega⟩
    simp only[hnext,hd,←hrow,q2,List.reverse_append,List.reverse_cons,List.append_assoc,List.cons_append,List.nil_append]
 ·have hge':¬i<l.length:=by omega
  have e1:l.take i=l:=List.take_of_length_le hge
  have e2:l.drop i=[]:=List.drop_of_length_le hge
  simp only[go_sem,hge',e1,e2];rfl
theorem z6Y (id:Nat)(l:List PV)(hs:xD none l)(hl:l.length≤12)(hh:h[id]?=some (.row none l 0)){g:Nat}{caps:List AV}{c:PV→PV→Int}(hc:Cmps g caps c l id h) :
 bA X sM [.own id l.length 0 l.length,.fn g caps] h K=K (.tup []) (h.set id (.row none (eB (ltC c) l) 0)) []:=by
 refine tA ?_;rw[z9D];have w0:IntKind.u64.wrap (l.length:Int)=l.length:=zlF _ (by omega) (by omega)
 obtain⟨m,hm⟩:=zfB (l.length:Int) (by omega) (by omega)
 have is:=fun K=>zeJ (h:=h) (K:=K) id l.length l [] rfl hs (by omega) (by rw[List.append_nil];exact hh) hc
 simp only[List.append_nil]at is;have key:∀K:jA,bA X pI [.own id l.length 0 l.length,AI 0,AI l.length,AI m,.fn g caps] h K=K (.tup []) (h.set id (.row none (eB (ltC c) l) 0)) []:=by
  intro K;refine tA ?_;rw[z9G];simp only[CP,go_sem];refine XA (fun _:Unit=>⟨[(0,.own id l.length 0 l.length),(1,AI 0),(2,AI l.length),(3,AI m),(4,.fn g caps),(10,AB true),(11,AB true)],h,[]⟩) (fun _=>True) (fun _=>0) () rfl trivial ?_
  intro _ _;have w1:IntKind.i64.wrap ((l.length:Int)-0)=l.length:=by rw[BA _ (by omega) (by omega)];omega
  have b1:((l.length:Int)≤12):=by omega
  simp only[go_sem,w1,b1,is]
 simp only[zP,go_sem,w0,hm,key]
end Go.Am
end
section
/- For how long a site runs boards,plainly. -/
open Go
set_option linter.all false
set_option maxRecDepth 100000
namespace Go.Am
def CH:Int→Int→List RunP→Prop
 | lo,hi,[]=>lo≤hi
 | lo,hi,r::rest=>lo≤r.frm∧r.frm≤r.til∧0≤r.til∧CH r.til hi rest
theorem RZ:∀ {l:List RunP} {lo hi hi':Int},CH lo hi l→hi≤hi'→CH lo hi' l
 | [],lo,hi,hi',h,g=>by unfold CH at *;omega
 | r::rest,lo,hi,hi',h,g=>⟨h.1,h.2.1,h.2.2.1,RZ h.2.2.2 g⟩
def aF (frm_ til_:Int)(r:RunP):Int:=max 0 (min (if r.til<0 then til_ else r.til) til_-max r.frm frm_)
def vS (rs:List RunP)(busy:Bool)(T:Int):Prop:=if busy then ∃pre r,rs=pre++[r]∧CH 0 r.frm pre∧r.til<0∧0≤r.frm∧r.frm≤T else CH 0 T rs
theorem zkG {rs:List RunP}{busy:Bool}{T T':Int}(h:vS rs busy T)(g:T≤T'):vS rs busy T':=by
 unfold vS at *;cases busy with
 | true=>
  obtain⟨pre,r,a,b,c,d,e⟩:=h;exact⟨pre,r,a,b,c,d,by omega⟩
 | false=>exact RZ h g
def ofS (s:Nm)(l:List RunP):List RunP:=l.filter fun r=>decide (r.site=s)
structure BI (p:FlP) (T:Int):Prop where
 inv:∃q,Inv p q
 st:∀s,vS (ofS s p.runs) (lA p.sites s).isSome T
 si:∀b st,lA p.bs b=some st→0≤st.since∧st.since≤T
 en:∀e∈p.ends,0≤e.frm∧e.frm≤e.til∧e.til≤T
theorem BI.mono {p:FlP}{T T':Int}(h:BI p T)(g:T≤T'):BI p T':=
 ⟨h.inv,fun s=>zkG (h.st s) g,fun b st hb=>by have:=h.si b st hb;omega,fun e he=>by have:=h.en e he;omega⟩
end Go.Am
end
section
/- For how long a site runs boards: the program. -/
open Go
set_option linter.all false
set_option maxRecDepth 100000
namespace Go.Am
variable {h:aA} {K:jA}
attribute [-go_sem] GA IA OA mB
def PG (steps:List Nm)(tries:Int)(l:List Ent)(step:Nm)(at_:Int):Int:=if WE steps tries l at_=0 then(if steps.contains step then 0 else 8) else WE steps tries l at_
theorem zkn (steps:List Nm)(tries:Int)(l:List Ent)(O:StOk steps l)(step:Nm)(at_:Int):bA X yM [fF steps tries,QA l,AS step,AI at_] h K=K (AI (PG steps tries l step at_)) h []:=by
 refine tA ?_;rw[z9X rfl];have q1:=fun h K=>z53 (h:=h) (K:=K) steps tries l O at_
 have ct:=fun h K=>SZ (h:=h) (K:=K) steps (fun h' _=>strS _) step (by have:=O.n;omega)
 unfold PG;by_cases h0:WE steps tries l at_=0
 ·rw[if_pos h0]
  cases hc:steps.contains step with
  | true=>
   rw[hc]at ct;simp only[rJ,go_sem,↓q1,q1,h0,↓ct,ct];first|done|rfl
  | false=>
   rw[hc]at ct;simp only[rJ,go_sem,↓q1,q1,h0,↓ct,ct];first|done|rfl
 ·rw[if_neg h0]
  simp only[rJ,go_sem,↓q1,q1,h0]
end Go.Am
end
section
/- Which boards wait for a step: the program,its loop. -/
open Go
set_option linter.all false
set_option maxRecDepth 100000
namespace Go.Am
variable {h:aA} {K:jA}
attribute [-go_sem] GA IA OA mB QB RB
attribute [local go_sem] TC yD qD zD BE CE DE EE pE FE GE HE IE JE KE LE
def aC (bs:aB)(k:Nm):Int:=match lA (asA bs) k with
 | some s=>s.since
 | none=>0
def IF (bs:aB)(a b:Nm):Int:=orL [gB (aC bs a) (aC bs b),DA a b]
theorem MO (bs:aB)(a b:Nm):IF bs a b=if aC bs a<aC bs b then -1 else if aC bs b<aC bs a then 1 else DA a b:=by
 unfold IF gB;generalize aC bs a=A;generalize aC bs b=B;by_cases h1:A<B
 ·rw[if_pos h1,if_pos h1];rfl
 ·rw[if_neg h1,if_neg h1]
  by_cases h2:A=B
  ·rw[if_pos h2,if_neg (by omega)]
   show(if(0:Int)≠0 then(0:Int) else if DA a b≠0 then DA a b else 0)=DA a b
   rw[if_neg (by simp)]
   by_cases h3:DA a b=0
   ·rw[if_neg (by simp [h3]),h3]
   ·rw[if_pos h3]
  ·rw[if_neg h2,if_pos (by omega)];rfl
theorem ordW (bs:aB):Ordr (IF bs) where
 neg a b:=by
  rw[MO,MO];have:=YG a b;split <;> split <;> (try split) <;> omega
 trans a b d h1 h2:=by
  rw[MO]at h1 h2 ⊢;have key:DA a b≤0→DA b d≤0→DA a d≤0:=fun g1 g2=>by
   by_cases e1:DA a b=0
   ·rw[HF e1];exact g2
   ·by_cases e2:DA b d=0
    ·rw[←HF e2];exact g1
    ·have:=LO (a:=a) (b:=b) (c:=d) (by omega) (by omega);omega
  by_cases c1:aC bs a<aC bs d
  ·rw[if_pos c1];decide
  ·rw[if_neg c1]
   by_cases c2:aC bs a<aC bs b
   ·rw[if_pos c2]at h1
    by_cases c3:aC bs b<aC bs d
    ·omega
    ·rw[if_neg c3]at h2
     by_cases c4:aC bs d<aC bs b
     ·rw[if_pos c4]at h2;omega
     ·omega
   ·rw[if_neg c2]at h1
    by_cases c5:aC bs b<aC bs a
    ·rw[if_pos c5]at h1;omega
    ·rw[if_neg c5]at h1
     by_cases c3:aC bs b<aC bs d
     ·omega
     ·rw[if_neg c3]at h2
      by_cases c4:aC bs d<aC bs b
      ·rw[if_pos c4]at h2;omega
      ·rw[if_neg c4]at h2
       rw[if_neg (by omega)]
       exact key h1 h2
def HH (step:Nm)(e:Ent × Sta):Bool:=decide (e.2.state=1)&&decide (e.2.step=step)
def bK (bs:aB)(step:Nm):List Nm:=(bs.filter (HH step)).map fun e=>e.1.board
def uB (bs:aB)(step:Nm):List Nm:=eB (ltO (IF bs)) (bK bs step)
theorem zlR {bs:aB}{step k:Nm}:k∈uB bs step↔k∈bK bs step:=xI
theorem zlS {bs:aB}{step:Nm}(hu:(bs.map fun e=>e.1.board).Nodup){ns:List Nm}(hp:ns.Perm (bK bs step)):eB (ltO (IF bs)) ns=uB bs step:=by
 have hn:(bK bs step).Nodup:=hu.sublist (List.filter_sublist.map _)
 have ne:∀{a b:Nm},a≠b→¬IF bs a b=0:=fun {a b} hab hc=>by
  rw[MO]at hc;split at hc
  ·omega
  ·split at hc
   ·omega
   ·exact hab (HF hc)
 refine yS (ordW bs) (zS (ordW bs) ((hp.nodup_iff.2 hn).imp ne)) (zS (ordW bs) (hn.imp ne)) fun x=>?_
 rw[xI,zlR,hp.mem_iff]
theorem zkw (fb:Obj)(steps:List Nm)(tries:Int)(S:Flo)(l:aA)(q:Nat)(hq:(FS h fb steps tries S l)[q]?=some (.box [.ref (h.length+7) 0])){a b:Nm}{i j:Nat}(ha:ixB a S.bs=some i)(hb:ixB b S.bs=some j) :
 bA X PJ [AS a,AS b,.ref q 0] (FS h fb steps tries S l) K=K (AI (IF S.bs a b)) (FS h fb steps tries S l) []:=by
 refine tA ?_;rw[z9U rfl];obtain⟨e,he,_,ga⟩:=(MM a S.bs).2 i ha;obtain⟨f,hf,_,gb⟩:=(MM b S.bs).2 j hb;have sa:aC S.bs a=e.2.since:=by unfold aC;rw[ga]
 have sb:aC S.bs b=f.2.since:=by unfold aC;rw[gb]
 unfold IF;rw[sa,sb];unfold FS wbx at hq ⊢;have la:=fun(o0 o2 o3 o4 o5 o6 o7:Obj) (B l2:aA)=>QM (h:=h) S a o0 o2 o3 o4 o5 o6 o7 B l2
 have lb:=fun(o0 o2 o3 o4 o5 o6 o7:Obj) (B l2:aA)=>QM (h:=h) S b o0 o2 o3 o4 o5 o6 o7 B l2
 rw[ha]at la;rw[hb]at lb;have ge:=fun(o0 o1 o2 o3 o4 o5 o6 o7:Obj) (l2:aA)=>sL (h:=h) (o0:=o0) (o1:=o1) (o2:=o2) (o3:=o3) (o4:=o4) (o5:=o5) (o6:=o6) (o7:=o7) (l:=l2) he
 have gf:=fun(o0 o1 o2 o3 o4 o5 o6 o7:Obj) (l2:aA)=>sL (h:=h) (o0:=o0) (o1:=o1) (o2:=o2) (o3:=o3) (o4:=o4) (o5:=o5) (o6:=o6) (o7:=o7) (l:=l2) hf
 unfold Sta.bx at ge gf;have q1:=fun h K=>z50 (h:=h) (K:=K) e.2.since f.2.since
 have q2:=fun h K=>rS (h:=h) (K:=K) a b
 have q3:=fun h K=>z51 (h:=h) (K:=K) [gB e.2.since f.2.since,DA a b] (by simp)
 simp only[AL,List.map_cons,List.map_nil]at q3;simp only[LP,go_sem,hq,la,lb,ge,gf,↓q1,q1,↓q2,q2,↓q3,q3];rw[LH,List.take_length]
section
variable {fb o:Obj} {steps:List Nm} {tries:Int} {S:Flo} {l l2:aA}
theorem z6J:(FS h fb steps tries S l)[h.length+1]?=some (vA PV.str eC (lB (h.length+8) S.bs)):=qD
theorem z6K:(FS h fb steps tries S l)[h.length+7]?=some (.box [rB steps,AI tries,.mp (h.length+1),.mp (h.length+2),.own (h.length+3) S.ends.length 0 S.ends.length,.own (h.length+4) S.runs.length 0 S.runs.length,.own (h.length+5) S.ref.length 0 S.ref.length,.own (h.length+6) S.why.length 0 S.why.length]):=pE
theorem z6N:(FS h fb steps tries S l)[h.length+(8+(zA S.bs).length)]?=l[0]?:=UI 0
theorem z6M (n:Nat):(FS h fb steps tries S l).set (h.length+(8+(zA S.bs).length+n)) o=FS h fb steps tries S (l.set n o):=US n
theorem z6O (n:Nat):(FS h fb steps tries S l).take (h.length+(8+(zA S.bs).length+n))=FS h fb steps tries S (l.take n):=LH n
theorem KN:(FS h fb steps tries S l).length=h.length+(8+(zA S.bs).length+l.length):=TC
theorem z6I:FS h fb steps tries S l++l2=FS h fb steps tries S (l++l2):=yD
theorem z6L {i:Nat}{e:Ent × Sta}(hi:S.bs[i]?=some e):(FS h fb steps tries S l)[h.length+8+(3*i+2)]?=some e.2.bx:=by
 have:=sL (h:=h) (o0:=fb) (o1:=vA PV.str eC (lB (h.length+8) S.bs)) (o2:=tC S.sm S.ck) (o3:=.row (some 5) (S.ends.map EndP.pv) 0) (o4:=.row (some 3) (S.runs.map RunP.pv) 0) (o5:=.row none (S.ref.map eI) 0) (o6:=.row none (S.why.map eI) 0) (o7:=wbx h steps tries S.ends.length S.runs.length S.ref.length S.why.length) (l:=l) hi;unfold qB at this;rw[←Nat.add_assoc]at this;exact this
end
theorem z4b {k:Nm}:∀{bs:aB},k∈bs.map (fun e=>e.1.board)→∃i,ixB k bs=some i
 | [],h=>by cases h
 | e::r,h=>by
  unfold ixB;by_cases hk:k=e.1.board
  ·exact⟨0,if_pos hk⟩
  ·rw[if_neg hk]
   rw[List.map_cons,List.mem_cons]at h;obtain⟨i,hi⟩:=z4b (h.resolve_left hk);exact⟨i+1,by rw[hi];rfl⟩
def WD (bs:aB)(step:Nm)(seen:List Nat):List Nm:=seen.filterMap fun i=>(bs[i]?).bind fun e=>if HH step e then some e.1.board else none
theorem zk8 {bs:aB}{step:Nm}{seen:List Nat}{i:Nat}{e:Ent × Sta}(he:bs[i]?=some e):WD bs step (seen++[i])=WD bs step seen++if HH step e then [e.1.board] else []:=by
 unfold WD;rw[List.filterMap_append];congr 1
 simp only[List.filterMap_cons,List.filterMap_nil,he,Option.bind_some];cases HH step e <;> rfl
theorem zk5 {bs:aB}{step:Nm}{seen:List Nat}(hd:seen.Nodup)(hb:∀ i∈seen,i<bs.length)(ha:∀ i,i<bs.length→i∈seen):(WD bs step seen).Perm (bK bs step):=by
 have hp:=zk9 hd hb ha
 refine(hp.filterMap _).trans ?_;clear hp hd hb ha;have:∀(pre bs:aB),((List.range' pre.length bs.length).filterMap fun i=>((pre++bs)[i]?).bind fun e=>if HH step e then some e.1.board else none)=(bs.filter (HH step)).map fun e=>e.1.board:=by
  intro pre bs;induction bs generalizing pre with
  | nil=>rfl
  | cons e r ih=>
   have h2:=ih (pre++[e])
   rw[List.append_assoc,List.length_append]at h2;have h1:(pre++e::r)[pre.length]?=some e:=by simp
   rw[List.length_cons,List.range'_succ,List.filterMap_cons,List.filter_cons,h1];simp only[Option.bind_some];cases HH step e with
   | true=>simp only[if_true,List.map_cons];exact congrArg _ h2
   | false=>exact h2
 have:=this [] bs;rw[List.range_eq_range'];exact List.Perm.of_eq this
theorem zk6 (bs:aB)(step:Nm)(seen:List Nat):(WD bs step seen).length≤seen.length:=List.length_filterMap_le _ _
theorem zk7 {bs:aB}{step:Nm}{seen:List Nat}{k:Nm}(h:k∈WD bs step seen):k∈bs.map fun e=>e.1.board:=by
 unfold WD at h;obtain⟨i,_,h⟩:=List.mem_filterMap.1 h;obtain⟨e,he,h⟩:=Option.bind_eq_some_iff.1 h;split at h
 ·cases h;exact List.mem_map_of_mem (List.mem_of_getElem? he)
 ·cases h
def FR (h:aA)(fb:Obj)(steps:List Nm)(tries:Int)(S:Flo)(r l:aA):aA:=FS h fb steps tries S (r++l)
section
variable {fb o:Obj} {steps:List Nm} {tries:Int} {S:Flo} {l l2 r:aA}
theorem cG:FR h fb steps tries S r l=FH h fb (vA PV.str eC (lB (h.length+8) S.bs)) (tC S.sm S.ck) (.row (some 5) (S.ends.map EndP.pv) 0) (.row (some 3) (S.runs.map RunP.pv) 0) (.row none (S.ref.map eI) 0) (.row none (S.why.map eI) 0) (wbx h steps tries S.ends.length S.runs.length S.ref.length S.why.length) (zA S.bs++r) l:=by
 unfold FR FS FH;simp
theorem VS:(FR h fb steps tries S r l)[h.length+1]?=some (vA PV.str eC (lB (h.length+8) S.bs)):=z6J
theorem z6G:(FR h fb steps tries S r l)[h.length+7]?=some (.box [rB steps,AI tries,.mp (h.length+1),.mp (h.length+2),.own (h.length+3) S.ends.length 0 S.ends.length,.own (h.length+4) S.runs.length 0 S.runs.length,.own (h.length+5) S.ref.length 0 S.ref.length,.own (h.length+6) S.why.length 0 S.why.length]):=z6K
theorem WS:(FR h fb steps tries S r l)[h.length+(8+((zA S.bs).length+r.length))]?=l[0]?:=by rw[cG,← List.length_append];exact UI 0
theorem VZ (n:Nat):(FR h fb steps tries S r l)[h.length+(8+((zA S.bs).length+r.length)+n)]?=l[n]?:=by rw[cG,←List.length_append];exact UI n
theorem tL (n:Nat):(FR h fb steps tries S r l).set (h.length+(8+((zA S.bs).length+r.length)+n)) o=FR h fb steps tries S r (l.set n o):=by rw[cG,cG,←List.length_append];exact US n
theorem WZ (n:Nat):(FR h fb steps tries S r l).take (h.length+(8+((zA S.bs).length+r.length)+n))=FR h fb steps tries S r (l.take n):=by rw[cG,cG,←List.length_append];exact LH n
theorem WI:(FR h fb steps tries S r l).length=h.length+(8+((zA S.bs).length+r.length)+l.length):=by rw[cG,← List.length_append];exact TC
theorem VI:FR h fb steps tries S r l++l2=FR h fb steps tries S r (l++l2):=by rw[cG,cG];exact yD
theorem z6H {i:Nat}{e:Ent × Sta}(hi:S.bs[i]?=some e):(FR h fb steps tries S r l)[h.length+8+(3*i+2)]?=some e.2.bx:=z6L hi
end
end Go.Am
end
section
/- Which boards wait for a step: the row is the caller's. -/
open Go
set_option linter.all false
set_option maxRecDepth 100000
namespace Go.Am
variable {h:aA} {K:jA}
attribute [-go_sem] GA IA OA mB QB RB
theorem zjB {H:aA}{b id i g off len fz:Nat}{sh:Sh}{xs:List PV}{P:jA}{x:Esc}(hid:b≤id)(hl:H[id]?=some (.row sh xs fz))(hx:∀ y∈x,b≤y.1) :
 P (.own b g off len) (H.take b++[.row sh xs fz]) []→rC b P [.o i] (some [.own id g off len]) H x:=by
 intro hP;have hf:x.filter (fun y=>decide (y.1<b))=[]:=List.filter_eq_nil_iff.2 fun y hy=>by have:=hx y hy;simp;omega
 have hc:bB x b=true:=by
  unfold bB;rw[List.all_eq_true];intro y hy;have:=hx y hy;simp;omega
 simp only[rC,tE,PF,hl,hid,true_and,List.all_cons,List.all_nil,okO,Nat.beq_refl,Bool.and_self,if_true,List.map_cons,List.map_nil,mvO,cond_true,LA,hf,hc];exact hP
theorem z4Z {H:aA}{b id i j g off len fz:Nat}{sh:Sh}{xs:List PV}{v:PV}{P:jA}{x:Esc}(hid:b≤id)(hl:H[id]?=some (.row sh xs fz))(hx:∀ y∈x,b≤y.1) :
 P (.tup [.own b g off len,.p v]) (H.take b++[.row sh xs fz]) []→rC b P [.o i,.t j] (some [.own id g off len,.p v]) H x:=by
 intro hP;have hf:x.filter (fun y=>decide (y.1<b))=[]:=List.filter_eq_nil_iff.2 fun y hy=>by have:=hx y hy;simp;omega
 have hc:bB x b=true:=by
  unfold bB;rw[List.all_eq_true];intro y hy;have:=hx y hy;simp;omega
 simp only[rC,tE,PF,hl,hid,true_and,List.all_cons,List.all_nil,okO,Nat.beq_refl,AV.top,Nat.zero_le,decide_true,Bool.and_self,if_true,List.map_cons,List.map_nil,mvO,cond_true,LA,hf,hc];exact hP
attribute [local go_sem] TC yD qD zD BE CE DE EE pE FE GE HE IE JE KE LE
set_option maxHeartbeats 4000000 in
theorem z54 (r:aA)(fb:Obj)(steps:List Nm)(tries:Int)(S:Flo)(hu:(S.bs.map fun e=>e.1.board).Nodup)(hbl:S.bs.length≤12)(step:Nm) :
 bA X OJ [.ref (h.length+7) 0,AS step] (FR h fb steps tries S r []) K=K (.own (h.length+(8+((zA S.bs).length+r.length))) (uB S.bs step).length 0 (uB S.bs step).length) (FR h fb steps tries S r [.row none ((uB S.bs step).map PV.str) 0]) []:=by
 refine tA ?_;rw[z9T rfl];simp only[KP];refine⟨_,_,_,⟨rfl,rfl,rfl⟩,?_⟩;have mr:=zgh (h:=FR h fb steps tries S r [.box [.ref (h.length+7) 0],.row none [] 0]) (id:=h.length+1) (key:=PV.str) (val:=eC) (l:=lB (h.length+8) S.bs) VS
 rw[WI,VI,aX]at mr;simp only[List.length_cons,List.length_nil,Nat.zero_add,List.cons_append,List.nil_append]at mr;have f0:h.length+7+1≤h.length+(8+((zA S.bs).length+r.length)):=by omega
 have gt0:=fun l=>WS (h:=h) (fb:=fb) (steps:=steps) (tries:=tries) (S:=S) (r:=r) (l:=l)
 have gt1:=fun l=>VZ (h:=h) (fb:=fb) (steps:=steps) (tries:=tries) (S:=S) (r:=r) (l:=l) 1
 have gt2:=fun l=>VZ (h:=h) (fb:=fb) (steps:=steps) (tries:=tries) (S:=S) (r:=r) (l:=l) 2
 simp only[go_sem,WI,VI,List.length_nil,List.length_cons,Nat.add_zero,Nat.zero_add,List.nil_append,List.cons_append,gt0,gt1,gt2,z6G,mr,f0];have st1:=fun l o=>tL (h:=h) (fb:=fb) (steps:=steps) (tries:=tries) (S:=S) (r:=r) (l:=l) (o:=o) 1
 have tk:=fun l=>WZ (h:=h) (fb:=fb) (steps:=steps) (tries:=tries) (S:=S) (r:=r) (l:=l) 3
 have f1:h.length+(8+((zA S.bs).length+r.length))+1≤h.length+(8+((zA S.bs).length+r.length)+3):=by omega
 have f2:h.length+(8+((zA S.bs).length+r.length)+1)+1≤h.length+(8+((zA S.bs).length+r.length)+3):=by omega
 have f3:h.length+(8+((zA S.bs).length+r.length)+2)+1≤h.length+(8+((zA S.bs).length+r.length)+3):=by omega
 have ml:(lB (h.length+8) S.bs).length=S.bs.length:=aX _ _
 refine XA (fun t:List Nat×Option Nm=>⟨match t.2 with
  | none=>[(1,AS step),(2,.ref (h.length+(8+((zA S.bs).length+r.length))) 0),(5,.own (h.length+(8+((zA S.bs).length+r.length)+1)) (WD S.bs step t.1).length 0 (WD S.bs step t.1).length),(12,.it (h.length+(8+((zA S.bs).length+r.length)+2)))]
  | some nm=>[(1,AS step),(2,.ref (h.length+(8+((zA S.bs).length+r.length))) 0),(5,.own (h.length+(8+((zA S.bs).length+r.length)+1)) (WD S.bs step t.1).length 0 (WD S.bs step t.1).length),(6,AS nm),(12,.it (h.length+(8+((zA S.bs).length+r.length)+2))),(30,AB false)],
  FR h fb steps tries S r [.box [.ref (h.length+7) 0],.row none ((WD S.bs step t.1).map PV.str) 0,.iter (some (h.length+1)) S.bs.length t.1 S.bs.length],[]⟩)
  (fun t=>t.1.Nodup∧∀i∈t.1,i<S.bs.length) (fun t=>S.bs.length-t.1.length) ([],none) rfl ⟨List.nodup_nil,by simp⟩ ?_
 rintro⟨seen,on⟩ ⟨hd,hb⟩
 dsimp only at hd hb;have hsl:seen.length≤S.bs.length:=by
  have h2:=hd.length_le_of_subset (l₂:=List.range S.bs.length) (fun x hx=>by rw[List.mem_range];exact hb x hx)
  simpa using h2
 have hwl:=zk6 S.bs step seen
 rcases on with _|nm
 all_goals
  simp only[go_sem];refine zg0 (key:=PV.str) (val:=eC) (l:=lB (h.length+8) S.bs) (m:=h.length+1) (seen:=seen) (by rw[gt2,ml];rfl) VS ?_ ?_
  ·intro hall
   rw[ml]at hall;have hp:=zk5 (step:=step) hd hb hall
   have hw:=zlS hu hp
   rw[tL];simp only[List.set_cons_zero,List.set_cons_succ];have hmem:∀k∈WD S.bs step seen,∃i,ixB k S.bs=some i:=fun k hk=>z4b (zk7 hk)
   generalize WD S.bs step seen=ns at *;have so:=fun K=>z6Y (h:=FR h fb steps tries S r [.box [.ref (h.length+7) 0],.row none (ns.map PV.str) 0,.iter none 1 [] 0]) (K:=K) (h.length+(8+((zA S.bs).length+r.length)+1)) (ns.map PV.str) (fun x hx=>by obtain⟨n,_,rfl⟩:=List.mem_map.1 hx;rfl) (by simp;omega) (by rw[gt1];rfl)
    (g:=PJ) (caps:=[.ref (h.length+(8+((zA S.bs).length+r.length))) 0]) (c:=fun x y=>IF S.bs (DS x) (DS y)) (fun o x hx y hy K=>by
     obtain⟨a,ha,rfl⟩:=List.mem_map.1 hx;obtain⟨b,hb,rfl⟩:=List.mem_map.1 hy;obtain⟨i,hi⟩:=hmem a ha;obtain⟨j,hj⟩:=hmem b hb;rw[tL];exact zkw fb steps tries S _ _ ((gt0 _).trans rfl) hi hj)
   have im:eB (ltC fun x y=>IF S.bs (DS x) (DS y)) (ns.map PV.str)=(uB S.bs step).map PV.str:=by
    rw[←hw];exact z3Y PV.str (fun a b=>rfl) ns
   have wl:(uB S.bs step).length=ns.length:=by rw[←hw,sQ]
   rw[im]at so;simp only[tL,List.set_cons_zero,List.set_cons_succ,List.length_map]at so;simp only[go_sem,WI,List.length_cons,List.length_nil,Nat.zero_add,Nat.reduceAdd,f1,f2,tk,List.take_succ_cons,List.take_zero,so];have tk0:∀l,(FR h fb steps tries S r l).take (h.length+(8+((zA S.bs).length+r.length)))=FR h fb steps tries S r []:=fun l=>WZ 0
   rw[←wl];refine zjB (by omega) (gt1 _) (by simp) ?_
   rw[tk0];exact⟨rfl,VI,rfl⟩
  ·intro i hi hni
   rw[ml]at hi;have he:=List.getElem?_eq_getElem hi
   have hmi:(lB (h.length+8) S.bs)[i]'(by omega)=(S.bs[i].1.board,h.length+8+(3*i+2)):=by
    have:=z4n S.bs (h.length+8) i S.bs[i] he;rw[List.getElem?_eq_getElem (by omega)]at this
    exact Option.some.inj this
   have hnn:(seen++[i]).Nodup:=by rw[List.nodup_append];exact⟨hd,by simp,fun a ha b hb=>by rw[List.mem_singleton]at hb;subst hb;intro e;subst e;exact hni ha⟩
   have hbb:∀x∈seen++[i],x<S.bs.length:=fun x hx=>by
    rcases List.mem_append.1 hx with hx|hx
    ·exact hb x hx
    ·rw[List.mem_singleton]at hx;rw[hx];exact hi
   have hlen:seen.length<S.bs.length:=by
    have h2:=hnn.length_le_of_subset (l₂:=List.range S.bs.length) (fun x hx=>by rw[List.mem_range];exact hbb x hx)
    simp at h2;omega
   rw[hmi,ml,tL];have me:=fun l0=>zfT (h:=FR h fb steps tries S r [.box [.ref (h.length+7) 0],l0,.iter (some (h.length+1)) S.bs.length (seen++[i]) S.bs.length]) (j:=h.length+(8+((zA S.bs).length+r.length)+2)) (m:=h.length+1) (key:=PV.str) (val:=eC) (l:=lB (h.length+8) S.bs) (seen:=seen) (i:=i) (by rw[gt2,ml];rfl) VS (by omega)
   rw[hmi]at me;have gq:=fun(l2:aA)=>z6H (r:=r) (h:=h) (fb:=fb) (steps:=steps) (tries:=tries) (l:=l2) he
   unfold Sta.bx at gq;unfold eC at me ⊢;have m1:(WD S.bs step seen).length+1≤YA:=by unfold YA;omega
   have hsn:=zk8 (step:=step) (seen:=seen) he
   have hw1:HH step S.bs[i]=(decide (S.bs[i].2.state=1)&&decide (S.bs[i].2.step=step)):=rfl
   rw[hw1]at hsn;generalize S.bs[i]=e at *;simp only[List.set_cons_zero,List.set_cons_succ];by_cases c1:e.2.state=1
   ·by_cases c2:e.2.step=step
    ·rw[decide_eq_true c1,decide_eq_true c2]at hsn
     simp only[go_sem,me,gq,c1,c2,m1,WI,VI,gt1,st1,tk,sZ,f1,f2,f3,List.length_map,List.length_cons,List.length_nil,List.getElem?_cons_zero,List.getElem?_cons_succ,List.set_cons_zero,List.set_cons_succ];exact⟨(seen++[i],none),by dsimp only;rw[hsn];simp only[List.map_append,List.length_append];rfl,⟨hnn,hbb⟩,by dsimp only;rw[List.length_append];simp;omega⟩
    ·rw[decide_eq_true c1,decide_eq_false c2]at hsn
     simp only[Bool.and_false,Bool.false_eq_true,if_false,List.append_nil]at hsn;simp only[go_sem,me,gq,c1,c2,m1,WI,VI,gt1,st1,tk,sZ,f1,f2,f3,List.length_map,List.length_cons,List.length_nil,List.getElem?_cons_zero,List.getElem?_cons_succ,List.set_cons_zero,List.set_cons_succ];exact⟨(seen++[i],some e.1.board),by dsimp only;rw[hsn],⟨hnn,hbb⟩,by dsimp only;rw[List.length_append];simp;omega⟩
   ·rw[decide_eq_false c1]at hsn
    simp only[Bool.false_and,Bool.false_eq_true,if_false,List.append_nil]at hsn;simp only[go_sem,me,gq,c1,m1,WI,VI,gt1,st1,tk,sZ,f1,f2,f3,List.length_map,List.length_cons,List.length_nil,List.getElem?_cons_zero,List.getElem?_cons_succ,List.set_cons_zero,List.set_cons_succ];exact⟨(seen++[i],some e.1.board),by dsimp only;rw[hsn],⟨hnn,hbb⟩,by dsimp only;rw[List.length_append];simp;omega⟩
end Go.Am
end
section
/- Which boards wait for a step,plainly. -/
open Go
set_option linter.all false
namespace Go.Am
theorem zkX {steps:List Nm}{tries:Int}{l:List Ent}{step:Nm}{at_:Int}(h:PG steps tries l step at_=0):WE steps tries l at_=0:=by
 unfold PG at h;split at h
 ·rename_i h0;exact h0
 ·exact h
end Go.Am
end
section
/- Each board is in one state,each site runs at most one: plainly. -/
open Go
set_option linter.all false
set_option maxRecDepth 100000
namespace Go.Am
structure BoI (S:Flo) (N:List Nm):Prop where
 st:∀e∈S.bs,1≤e.2.state∧e.2.state≤5
 nm:∀e∈S.bs,e.1.board∈N
theorem boI0 (N:List Nm):BoI zG N:=⟨fun e he=>(by cases he),fun e he=>(by cases he)⟩
theorem BoI.put {S S':Flo}{N:List Nm}(I:BoI S N){i:Nat}{e:Ent × Sta}(he:S.bs[i]?=some e){s:Sta}(hs:1≤s.state∧s.state≤5)(hb:S'.bs=S.bs.set i (e.1,s)):BoI S' N where
 st y hy:=by
  rw[hb]at hy;rcases yQ hy with h|h
  ·exact I.st y h
  ·rw[h];exact hs
 nm y hy:=by
  rw[hb]at hy;rcases yQ hy with h|h
  ·exact I.nm y h
  ·rw[h];exact I.nm e (List.mem_of_getElem? he)
theorem zle (steps:List Nm)(tries:Int)(s:Sta)(t:Int)(p:Bool):1≤(XD steps tries s t p).state∧(XD steps tries s t p).state≤5:=by
 unfold XD;split
 ·split
  ·exact⟨(by dsimp only;omega),(by dsimp only;omega)⟩
  ·exact⟨(by dsimp only;omega),(by dsimp only;omega)⟩
 ·dsimp only
  split <;> exact⟨by omega,by omega⟩
theorem z8Q {S:Flo}{N:List Nm}(I:BoI S N)(steps:List Nm)(tries:Int){x:Ent}(hx:x.kind=1→x.board∈N):BoI (S.act steps tries x).2 N:=by
 unfold Flo.act;split
 ·split
  ·rename_i hk
   refine⟨fun e he=>?_,fun e he=>?_⟩
   ·rcases List.mem_append.1 he with h|h
    ·exact I.st e h
    ·rw[List.mem_singleton]at h;rw[h];exact⟨(by dsimp only;omega),(by dsimp only;omega)⟩
   ·rcases List.mem_append.1 he with h|h
    ·exact I.nm e h
    ·rw[List.mem_singleton]at h;rw[h];exact hx hk
  ·exact I
 ·rename_i i hi
  split
  ·exact I
  ·rename_i e he
   split
   ·exact I
   ·unfold Flo.old Flo.startR Flo.finishR
    repeat' split
    all_goals first
     | exact I
     | exact I.put he (s:=⟨2,x.time,e.2.step,x.site,e.2.failed⟩) ⟨(by dsimp only;omega),(by dsimp only;omega)⟩ rfl
     | exact I.put he (zle steps tries e.2 x.time (decide (x.kind=3))) rfl
     | exact I.put he (s:=⟨1,x.time,e.2.step,e.2.site,e.2.failed⟩) ⟨(by dsimp only;omega),(by dsimp only;omega)⟩ rfl
     | exact I.put he (s:=⟨5,x.time,e.2.step,[],e.2.failed⟩) ⟨(by dsimp only;omega),(by dsimp only;omega)⟩ rfl
     | exact I.put he (s:=⟨5,x.time,e.2.step,e.2.site,e.2.failed⟩) ⟨(by dsimp only;omega),(by dsimp only;omega)⟩ rfl
theorem z8R {S:Flo}{N:List Nm}(I:BoI S N)(steps:List Nm)(tries:Int)(i:Nat){x:Ent}(hx:x.kind=1→x.board∈N):BoI (S.step steps tries i x) N:=by
 have J:=z8Q I steps tries hx
 unfold Flo.step;split
 ·exact⟨J.st,J.nm⟩
 ·exact J
theorem cU (steps:List Nm)(tries:Int)(N:List Nm):∀(l:List (Ent×Bool)) (S:Flo) (i:Nat),BoI S N→(∀y∈l,y.1.kind=1→y.1.board∈N)→BoI (Flo.go steps tries S i l) N
 | [],S,i,I,_=>I
 | (x,c)::r,S,i,I,hx=>by
  have e1:Flo.go steps tries S i ((x,c)::r)=if c=false∨x.kind=7 then Flo.go steps tries S (i+1) r else Flo.go steps tries (S.step steps tries i x) (i+1) r:=rfl
  rw[e1];have hr:=fun y hy=>hx y (List.mem_cons_of_mem (x,c) hy)
  split
  ·exact cU steps tries N r S (i+1) I hr
  ·exact cU steps tries N r _ (i+1) (z8R I steps tries i (hx (x,c) (List.mem_cons_self ..))) hr
theorem zef (steps:List Nm)(tries:Int)(N:List Nm){l:List Ent}(hl:∀ x∈l,x.kind=1→x.board∈N):BoI (yB steps tries l) N:=
 cU steps tries N (nE l) zG 0 (boI0 N) (fun y hy=>hl y.1 (List.of_mem_zip hy).1)
theorem zjM {F:Flo}{s k:Nm}(hk:k≠[]∨(lA (asS F.sm) s).isSome=true):(s,k)∈fZ F↔lA (asS F.sm) s=some k:=by
 unfold fZ;rw[List.mem_map];constructor
 ·rintro⟨y,hy,e⟩
  simp only[Prod.mk.injEq]at e;obtain⟨rfl,e⟩:=e;have hy2:y∈F.sm.map fun e=>e.1.1:=(List.mergeSort_perm _ _).mem_iff.1 hy
  cases h:lA (asS F.sm) y with
  | some v=>rw[h]at e;rw[←e];rfl
  | none=>
   exfalso;obtain⟨z,hz,rfl⟩:=List.mem_map.1 hy2;unfold lA asS at h;rw[Option.map_eq_none_iff,List.find?_eq_none]at h;exact h z.1 (List.mem_map_of_mem hz) (by simp)
 ·intro h
  refine⟨s,(List.mergeSort_perm _ _).mem_iff.2 ?_,by rw[h];rfl⟩
  obtain⟨z,hz,e⟩:=List.mem_map.1 (RW h);rw[List.mem_map];exact⟨z,hz,by rw[e]⟩
theorem z3G {bs:aB}{k:Nm}{st:Sta}(h:lA (asA bs) k=some st):∃e∈bs,e.1.board=k∧e.2=st:=by
 obtain⟨e,he,h2⟩:=List.mem_map.1 (RW h);simp only[Prod.mk.injEq]at h2;exact⟨e,he,h2⟩
def b4N:List Nm:=[[98,49],[98,50],[98,51],[98,52]]
structure Boo (F:Flo) (steps:List Nm):Prop where
 fl:∃n,FlI F steps n
 bo:BoI F b4N
 iv:∃q,Inv F.P q
theorem Boo.len {F:Flo}{steps:List Nm}(B:Boo F steps):F.bs.length≤4:=by
 obtain⟨n,I⟩:=B.fl;have:=I.nb.length_le_of_subset (l₂:=b4N) (fun k hk=>by obtain⟨e,he,rfl⟩:=List.mem_map.1 hk;exact B.bo.nm e he)
 rw[List.length_map]at this;exact this
theorem Boo.st {F:Flo}{steps:List Nm}(B:Boo F steps){k:Nm}{st:Sta}(h:lA (asA F.bs) k=some st):1≤st.state∧st.state≤5:=by
 obtain⟨e,he,_,e2⟩:=z3G h;rw[←e2];exact B.bo.st e he
theorem Boo.step {F:Flo}{steps:List Nm}(B:Boo F steps){k:Nm}{st:Sta}(h:lA (asA F.bs) k=some st)(h1:st.state=1):st.step∈steps:=by
 obtain⟨n,I⟩:=B.fl;obtain⟨e,he,_,e2⟩:=z3G h;rw[←e2];exact I.st e he (.inl (by rw[e2];exact h1))
theorem Boo.runs {F:Flo}{steps:List Nm}(B:Boo F steps){k:Nm}{st:Sta}(hk:k≠[])(h:lA (asA F.bs) k=some st):(st.site,k)∈fZ F↔st.state=2:=by
 obtain⟨q,I⟩:=B.iv;rw[zjM (.inl hk)];have:=I.sts st.site k;show lA (asS F.sm) st.site=some k↔_
 rw[show lA (asS F.sm) st.site=lA F.P.sites st.site from rfl,this]
 constructor
 ·rintro⟨s2,h2,h3,_⟩
  have:lA F.P.bs k=some st:=h
  rw[this]at h2;cases h2;exact h3
 ·intro h2
  exact⟨st,h,h2,rfl⟩
end Go.Am
end
section
/- The reference's floor,plainly: which entries count,what is followed. -/
open Go
set_option linter.all false
namespace Go.Am
def z0v:AllQ:=⟨⟨[],[]⟩,[],[]⟩
def theQ (steps:List Nm)(tries:Int)(U:List Ent):AllQ:=goQ steps tries z0v 0 (nE U)
theorem jQ (steps:List Nm)(tries:Int)(h0:steps≠[]):∀(l:List (Ent×Bool)) (S:Flo) (i n:Nat) (a:AllP),FlI S steps n→S.P=a.w→S.ref=a.ref.map (fun(j:Nat)=>(j:Int))→S.why=a.why →
 (Flo.go steps tries S i l).P=(goP steps tries a i l).w∧(Flo.go steps tries S i l).ref=(goP steps tries a i l).ref.map (fun(j:Nat)=>(j:Int))∧(Flo.go steps tries S i l).why=(goP steps tries a i l).why
 | [],S,i,n,a,I,h1,h2,h3=>⟨h1,h2,h3⟩
 | (x,c)::r,S,i,n,a,I,h1,h2,h3=>by
  have e1:Flo.go steps tries S i ((x,c)::r)=if c=false∨x.kind=7 then Flo.go steps tries S (i+1) r else Flo.go steps tries (S.step steps tries i x) (i+1) r:=rfl
  rw[e1];unfold goP;by_cases hs:c=false∨x.kind=7
  ·rw[if_pos hs,if_pos hs]
   exact jQ steps tries h0 r S (i+1) (n+1) a I.up h1 h2 h3
  ·rw[if_neg hs,if_neg hs]
   obtain⟨s1,s2,s3,s4⟩:=pZ (tries:=tries) I h0 i x;rw[h1]at s2 s3 s4;by_cases hz:(iD steps tries a.w x).2≠0
   ·rw[if_pos hz]at s3 s4 ⊢
    exact jQ steps tries h0 r _ (i+1) (n+1) _ s1 s2 (by rw[s3,h2];simp) (by rw[s4,h3])
   ·rw[if_neg hz]at s3 s4 ⊢
    exact jQ steps tries h0 r _ (i+1) (n+1) _ s1 s2 (by rw[s3,h2]) (by rw[s4,h3])
structure Both (F:Flo) (q:AllQ):Prop where
 inv:Inv F.P q.w
 ref:F.ref=q.ref.map (fun(j:Nat)=>(j:Int))
 why:F.why=q.why
theorem ED (steps:List Nm)(tries:Int)(h0:steps≠[]){U:List Ent}(hf:∀ x∈U,sB x=0):Both (yB steps tries U) (theQ steps tries U):=by
 obtain⟨p1,p2,p3⟩:=jQ steps tries h0 (nE U) zG 0 0 ⟨⟨[],[],[],[]⟩,[],[]⟩ (flI0 steps) rfl rfl rfl;obtain⟨i1,i2,i3⟩:=GM steps tries (nE U) ⟨⟨[],[],[],[]⟩,[],[]⟩ z0v 0 (fun y hy=>zd2 (hf y.1 (List.of_mem_zip hy).1)) inv0 rfl rfl
 exact⟨by rw[p1];exact i1,by rw[p2,i2];rfl,by rw[p3,i3];rfl⟩
def xE {β:Type}(m:List (Nm × β)):List Nm:=m.map (·.1)
theorem z4M {β:Type}(m:List (Nm × β))(k:Nm)(v:β):xE (MA m k v)=if k∈xE m then xE m else xE m++[k]:=by
 have hk:m.any (fun e=>decide (e.1=k))=decide (k∈xE m):=by
  rw[Bool.eq_iff_iff,List.any_eq_true,decide_eq_true_eq];unfold xE;rw[List.mem_map];simp
 unfold MA;rw[hk];by_cases h:k∈xE m
 ·rw[if_pos (by simp [h]),if_pos h]
  unfold xE;rw[List.map_map];apply List.map_congr_left
  intro e _;simp only[Function.comp];split
  ·rename_i q;exact q.symm
  ·rfl
 ·rw[if_neg (by simp [h]),if_neg h]
  unfold xE;simp
theorem zjw {β:Type}{m:List (Nm × β)}(h:(xE m).Nodup)(k:Nm)(v:β):(xE (MA m k v)).Nodup:=by
 rw[z4M];split
 ·exact h
 ·rename_i hk
  rw[List.nodup_append];exact⟨h,by simp,fun a ha b hb=>by rw[List.mem_singleton]at hb;subst hb;exact fun e=>hk (e ▸ ha)⟩
end Go.Am
end
section
/- What the reference says of its floor,plainly: names,who waits,who runs,how many. -/
open Go
set_option linter.all false
namespace Go.Am
end Go.Am
end
section
/- Maps from numbers tov numbers. -/
open Go
set_option linter.all false
namespace Go.Am
attribute [-go_sem] IA OA
end Go.Am
end
section
/- Products of fractions by prime factors: plain numbers. -/
set_option linter.all false
namespace Go.Am
end Go.Am
end
section
/- The product of fractions,the program's way: counting the prime factors. -/
open Go
set_option linter.all false
namespace Go.Am
variable {h:aA} {K:jA}
attribute [-go_sem] IA OA QB RB
end Go.Am
end
section
/- The product of fractions,the program's way. -/
open Go
set_option linter.all false
namespace Go.Am
variable {h:aA} {K:jA}
attribute [-go_sem] IA OA QB RB
end Go.Am
end
section
/- The product of fractions,the reference's way. -/
open Go
set_option linter.all false
namespace Go.Am
variable {h:aA} {K:jA}
attribute [-go_sem] IA OA QB RB
variable {N:Nat}
end Go.Am
end
section
/- Parts raw and in lowest terms: the same product. -/
set_option linter.all false
namespace Go.Am
end Go.Am
end
section
/- First passes of a step: the program's floor. -/
open Go
set_option linter.all false
set_option maxRecDepth 100000
namespace Go.Am
variable {h:aA} {K:jA}
attribute [-go_sem] GA IA OA mB QB RB
end Go.Am
end
section
/- The first-pass yield of a step: the program. -/
open Go
set_option linter.all false
set_option maxRecDepth 100000
namespace Go.Am
variable {h:aA} {K:jA}
attribute [-go_sem] GA IA OA mB QB RB
end Go.Am
end
section
/- The product of the yields of all steps: the program. -/
open Go
set_option linter.all false
set_option maxRecDepth 100000
namespace Go.Am
variable {h:aA} {K:jA}
attribute [-go_sem] GA IA OA mB QB RB
end Go.Am
end
section
/- Passes,times,the oldest board: plainly. -/
open Go
set_option linter.all false
set_option maxRecDepth 100000
namespace Go.Am
end Go.Am
end
section
/- The oldest board,what could be done next,yields: plainly. -/
open Go
set_option linter.all false
set_option maxRecDepth 100000
namespace Go.Am
def nD (w:Nm→List Nm)(steps:List Nm):List (Nm×Nm):=steps.filterMap fun s=>(w s).head?.map fun k=>(s,k)
theorem zgq (w:Nm→List Nm)(ss:List Nm)(s:Nm):nD w (ss++[s])=nD w ss++(match w s with|[]=>[]|k::_=>[(s,k)]):=by
 unfold nD;rw[List.filterMap_append];congr 1
 cases h:w s with
 | nil=>simp [h]
 | cons k r=>simp [h]
theorem z40 (w:Nm→List Nm)(ss:List Nm):(nD w ss).length≤ss.length:=List.length_filterMap_le _ _
theorem zgk {bs:aB}{i:Nat}{e:Ent × Sta}{s:Sta}(h:bs[i]?=some e):(bs.set i (e.1,s)).map (fun e=>e.1.board)=bs.map fun e=>e.1.board:=by
 apply List.ext_getElem?
 intro j;rw[List.getElem?_map,List.getElem?_map,List.getElem?_set];by_cases hj:i=j
 ·subst hj
  rw[if_pos rfl,h];have hl:i<bs.length:=(List.getElem?_eq_some_iff.1 h).1
  rw[if_pos hl];rfl
 ·rw[if_neg hj]
def EnI (S:Flo):Prop:=∀e∈S.ends,e.board∈S.bs.map fun e=>e.1.board
theorem EnI.same {S S':Flo}(I:EnI S){i:Nat}{e:Ent × Sta}{s:Sta}(h:S.bs[i]?=some e)(h1:S'.bs=S.bs.set i (e.1,s))(h2:∀ y∈S'.ends,y∈S.ends∨y.board=e.1.board):EnI S':=by
 intro y hy;rw[h1,zgk h];rcases h2 y hy with q|q
 ·exact I y q
 ·rw[q];exact List.mem_map_of_mem (f:=fun e:Ent×Sta=>e.1.board) (List.mem_of_getElem? h)
end Go.Am
end
section
/- What could be done next,plainly. -/
open Go
set_option linter.all false
namespace Go.Am
end Go.Am
end
section
/- The reference: which entries count. -/
open Go
set_option linter.all false
set_option maxRecDepth 100000
namespace Go.Am
variable {h:aA} {K:jA}
attribute [-go_sem] GA IA OA mB QB RB splice
end Go.Am
end
section
/- The reference's floor: its memory;runs that end. -/
open Go
set_option linter.all false
set_option maxRecDepth 100000
namespace Go.Am
variable {h:aA} {K:jA}
attribute [-go_sem] GA IA OA mB splice
def RanQ.pv (r:RanQ):PV:=.agg [.str r.board,.str r.site,.str r.step,eI r.frm,eI r.til,.bool r.pass]
end Go.Am
end
section
/- The reference's floor: what an end makes of a board;who runs at a site. -/
open Go
set_option linter.all false
set_option maxRecDepth 100000
namespace Go.Am
variable {h:aA} {K:jA}
attribute [-go_sem] GA IA OA mB QB RB splice
attribute [local go_sem] List.getElem?_cons_zero List.getElem?_cons_succ List.set_cons_zero List.set_cons_succ
def dL (s:Nm)(e:Nm × Sta):Bool:=decide (e.2.state=2)&&decide (e.2.site=s)
end Go.Am
end
section
/- The reference's floor: an end,a repair,a scrapping. -/
open Go
set_option linter.all false
set_option maxRecDepth 100000
namespace Go.Am
variable {h:aA} {K:jA}
attribute [-go_sem] GA IA OA mB QB RB splice
attribute [local go_sem] List.getElem?_cons_zero List.getElem?_cons_succ List.set_cons_zero List.set_cons_succ
end Go.Am
end
section
/- The reference's floor: an entry is done. -/
open Go
set_option linter.all false
set_option maxRecDepth 100000
namespace Go.Am
variable {h:aA} {K:jA}
attribute [-go_sem] GA IA OA mB QB RB splice
attribute [local go_sem] List.getElem?_cons_zero List.getElem?_cons_succ List.set_cons_zero List.set_cons_succ
structure QOk (steps:List Nm) (w:FlQ) (n:Nat):Prop where
 st:∀e∈w.bs,(e.2.state=1∨e.2.state=2∨e.2.state=3)→e.2.step∈steps
 fl:∀e∈w.bs,0≤e.2.failed∧e.2.failed≤n
 nd:(xE w.bs).Nodup
 ne:[]∉xE w.bs
 un:∀s,∀e∈w.bs,∀f∈w.bs,dL s e=true→dL s f=true→e.1=f.1
 rl:w.runs.length≤n
theorem QOk.up {steps:List Nm}{w:FlQ}{n:Nat}(Q:QOk steps w n):QOk steps w (n+1):=⟨Q.st,fun e he=>by have:=Q.fl e he;omega,Q.nd,Q.ne,Q.un,by have:=Q.rl;omega⟩
theorem UM {β:Type}{m:List (Nm × β)}{k:Nm}{v:β}{e:Nm × β}(h:e∈MA m k v):e=(k,v)∨(e∈m∧e.1≠k):=by
 unfold MA at h;split at h
 ·obtain⟨f,hf,e1⟩:=List.mem_map.1 h
  by_cases c:f.1=k
  ·rw[if_pos c]at e1;exact .inl e1.symm
  ·rw[if_neg c]at e1;subst e1;exact .inr ⟨hf,c⟩
 ·rename_i hn
  rcases List.mem_append.1 h with h|h
  ·refine .inr ⟨h,fun c=>hn ?_⟩
   rw[List.any_eq_true];exact⟨e,h,by simp [c]⟩
  ·exact .inl (List.mem_singleton.1 h)
theorem QOk.put {steps:List Nm}{w:FlQ}{n:Nat}(Q:QOk steps w n){k:Nm}{v:Sta}{runs:List RanQ}(hk:k≠[])(h1:(v.state=1∨v.state=2∨v.state=3)→v.step∈steps)(h2:0≤v.failed∧v.failed≤n+1)(h3:v.state=2→∀ f∈w.bs,f.1≠k→dL v.site f=false)(hr:runs.length≤n+1):QOk steps ⟨MA w.bs k v,runs⟩ (n+1) where
 st e he:=by
  rcases UM he with rfl|⟨he,_⟩
  ·exact h1
  ·exact Q.st e he
 fl e he:=by
  rcases UM he with rfl|⟨he,_⟩
  ·exact⟨h2.1,by have:=h2.2;dsimp only;omega⟩
  ·have:=Q.fl e he;omega
 nd:=zjw Q.nd k v
 ne:=by
  dsimp only;rw[z4M];split
  ·exact Q.ne
  ·rw[List.mem_append,List.mem_singleton]
   rintro (h|h)
   ·exact Q.ne h
   ·exact hk h.symm
 un s e he f hf r1 r2:=by
  have key:∀g:Nm×Sta,g∈w.bs→g.1≠k→dL s (k,v)=true→dL s g=true→False:=fun g hg gk q1 q2=>by
   unfold dL at q1;rw[Bool.and_eq_true,decide_eq_true_eq,decide_eq_true_eq]at q1;have:=h3 q1.1 g hg gk;rw[q1.2,q2]at this;cases this
  rcases UM he with rfl|⟨he,ek⟩
  ·rcases UM hf with rfl|⟨hf,fk⟩
   ·rfl
   ·exact(key f hf fk r1 r2).elim
  ·rcases UM hf with rfl|⟨hf,fk⟩
   ·exact(key e he ek r2 r1).elim
   ·exact Q.un s e he f hf r1 r2
 rl:=hr
end Go.Am
end
section
/- The reference: all entries that count are followed. -/
open Go
set_option linter.all false
set_option maxRecDepth 100000
namespace Go.Am
variable {h:aA} {K:jA}
attribute [-go_sem] GA IA OA mB QB RB
end Go.Am
end
section
/- A stable sort of the front of a row: printed by program. -/
open Go
set_option linter.unusedSimpArgs false
namespace Go.Am
attribute [-go_sem] PV.cells splice
variable {h:aA} {K:jA}
end Go.Am
end
section
/- Texts sorted. -/
open Go
set_option linter.all false
namespace Go.Am
variable {h:aA} {K:jA}
end Go.Am
end
section
/- Finding and deleting records,strings: printed by program. -/
open Go
set_option linter.unusedSimpArgs false
namespace Go.Am
attribute [-go_sem] PV.cells splice
variable {h:aA} {K:jA}
attribute [-go_sem] AV.cells cut
attribute [go_sem] AV.cells cut
end Go.Am
end
section
/- The reference: names of boards,and who waits. -/
open Go
set_option linter.all false
set_option maxRecDepth 100000
namespace Go.Am
variable {h:aA} {K:jA}
attribute [-go_sem] GA IA OA mB QB RB
attribute [local go_sem] List.getElem?_cons_zero List.getElem?_cons_succ List.set_cons_zero List.set_cons_succ
end Go.Am
end
section
/- The reference: who waits for a step. -/
open Go
set_option linter.all false
set_option maxRecDepth 100000
namespace Go.Am
variable {h:aA} {K:jA}
attribute [-go_sem] GA IA OA mB QB RB
end Go.Am
end
section
/- Lists of pairs sorted: printed by program. -/
open Go
set_option linter.unusedSimpArgs false
namespace Go.Am
attribute [-go_sem] PV.cells splice
variable {h:aA} {K:jA}
end Go.Am
end
section
/- The reference: what is refused,the status of a board,who runs,how many. -/
open Go
set_option linter.all false
set_option maxRecDepth 100000
namespace Go.Am
variable {h:aA} {K:jA}
attribute [-go_sem] GA IA OA mB QB RB splice
attribute [local go_sem] List.getElem?_cons_zero List.getElem?_cons_succ List.set_cons_zero List.set_cons_succ
end Go.Am
end
section
/- The reference: who runs,how many boards are in each state. -/
open Go
set_option linter.all false
set_option maxRecDepth 100000
namespace Go.Am
variable {h:aA} {K:jA}
attribute [-go_sem] GA IA OA mB QB RB splice
variable {steps:List Nm} {tries:Int} {l:List Ent} {at_:Int}
end Go.Am
end
section
/- The board whose state has lasted longest,and what could be done next: the program. -/
open Go
set_option linter.all false
set_option maxRecDepth 100000
namespace Go.Am
variable {h:aA} {K:jA}
attribute [-go_sem] GA IA OA mB QB RB
end Go.Am
end
section
/- Which boards wait for a step,and what could be done next: the rows are the caller's. -/
open Go
set_option linter.all false
set_option maxRecDepth 100000
namespace Go.Am
variable {h:aA} {K:jA}
attribute [-go_sem] GA IA OA mB QB RB
set_option maxHeartbeats 4000000 in
theorem zjZ (steps:List Nm)(tries:Int)(l:List Ent)(O:StOk steps l)(step:Nm)(at_:Int)(hbl:(yB steps tries (upL l at_)).bs.length≤12) :
 bA X xM [fF steps tries,QA l,AS step,AI at_] h K=if PG steps tries l step at_=0 then K (.tup [.own h.length (uB (yB steps tries (upL l at_)).bs step).length 0 (uB (yB steps tries (upL l at_)).bs step).length,AI 0]) (h++[.row none ((uB (yB steps tries (upL l at_)).bs step).map PV.str) 0]) [] else K (.tup [rB [],AI (PG steps tries l step at_)]) h []:=by
 have q1:=fun h K=>zkn (h:=h) (K:=K) steps tries l O step at_
 have q3:=fun h K=>z59 (h:=h) (K:=K) l at_ (by have:=O.l;omega)
 by_cases h0:PG steps tries l step at_=0
 case neg=>
  rw[if_neg h0];refine tA ?_;rw[z0S rfl];simp only[RL,go_sem,↓q1,q1,h0];first|done|rfl|exact⟨rfl,by simp,rfl⟩|simp
 rw[if_pos h0];refine tA ?_;rw[z0S rfl];have hf:=zkX h0
 have q4:=fun h K=>z55 (h:=h) (K:=K) steps tries O.n (DM hf) (upL l at_) (ES O at_).l
 obtain⟨I,_⟩:=MW tries (DM hf) (fun x hx=>((ES O at_).e x hx).s)
 generalize (upL l at_).length=n at I;generalize yB steps tries (upL l at_)=F at *;obtain⟨g,hg⟩:∃g,h++[Obj.box [rB steps,AI tries]]=g:=⟨_,rfl⟩;have gl:g.length=h.length+1:=by rw[←hg];simp
 have q5:=fun K=>q4 (h++[Obj.box [rB steps,AI tries]]) K
 have q6:∀K,bA X OF [fF steps tries,QA (upL l at_)] (h++[Obj.box [rB steps,AI tries]]) K=K (.ref (g.length+7) 0) (FS g (flB steps tries) steps tries F []) (JC g F.bs.length):=fun K=>by rw[q5,hg]
 have ex:∀y∈JC g F.bs.length,h.length≤y.1:=fun y hy=>by have:=(xJ hy).1;omega
 have q7:=fun K=>z54 (h:=g) (K:=K) [] (flB steps tries) steps tries F I.nb hbl step
 have t0:=fun l2=>WS (h:=g) (fb:=flB steps tries) (steps:=steps) (tries:=tries) (S:=F) (r:=[]) (l:=l2)
 have FR0:FR g (flB steps tries) steps tries F [] []=FS g (flB steps tries) steps tries F []:=rfl
 rw[FR0]at q7;simp only[List.length_nil,Nat.add_zero]at q7 t0;simp only[RL,go_sem,↓q1,q1,h0,↓q3,q3,↓q6,q6,↓q7,q7];refine z4Z (by omega) (t0 _) ex ⟨rfl,?_,rfl⟩
 congr 1
 rw[←hg];unfold FR FS FH;rw[List.append_assoc,List.take_left]
set_option maxHeartbeats 4000000 in
theorem zjY (steps:List Nm)(tries:Int)(l:List Ent)(O:StOk steps l)(at_:Int)(hbl:(yB steps tries (upL l at_)).bs.length≤12) :
 bA X wM [fF steps tries,QA l,AI at_] h K=if WE steps tries l at_=0 then K (.tup [.own h.length (nD (uB (yB steps tries (upL l at_)).bs) steps).length 0 (nD (uB (yB steps tries (upL l at_)).bs) steps).length,AI 0]) (h++[.row (some 2) ((nD (uB (yB steps tries (upL l at_)).bs) steps).map yE) 0]) [] else K (.tup [z60 [],AI (WE steps tries l at_)]) h []:=by
 have q1:=fun h K=>z53 (h:=h) (K:=K) steps tries l O at_
 have q3:=fun h K=>z59 (h:=h) (K:=K) l at_ (by have:=O.l;omega)
 by_cases h0:WE steps tries l at_=0
 case neg=>
  rw[if_neg h0];refine tA ?_;rw[z0R rfl];simp only[QL,go_sem,↓q1,q1,h0];first|done|rfl|exact⟨rfl,by simp,rfl⟩|simp
 rw[if_pos h0];refine tA ?_;rw[z0R rfl];have q4:=fun h K=>z55 (h:=h) (K:=K) steps tries O.n (DM h0) (upL l at_) (ES O at_).l
 obtain⟨I,J⟩:=MW tries (DM h0) (fun x hx=>((ES O at_).e x hx).s)
 have hst:=O.n
 generalize (upL l at_).length=n at I J;generalize yB steps tries (upL l at_)=F at *;obtain⟨g,hg⟩:∃g,h++[Obj.box [rB steps,AI tries]]=g:=⟨_,rfl⟩;have gl:g.length=h.length+1:=by rw[←hg];simp
 have q5:=fun K=>q4 (h++[Obj.box [rB steps,AI tries]]) K
 have q6:∀K,bA X OF [fF steps tries,QA (upL l at_)] (h++[Obj.box [rB steps,AI tries]]) K=K (.ref (g.length+7) 0) (FS g (flB steps tries) steps tries F []) (JC g F.bs.length):=fun K=>by rw[q5,hg]
 have ex:∀y∈JC g F.bs.length,h.length≤y.1:=fun y hy=>by have:=(xJ hy).1;omega
 have q7:=fun(r:aA) (step:Nm) (K:jA)=>z54 (h:=g) (K:=K) r (flB steps tries) steps tries F I.nb hbl step
 unfold FR at q7;simp only[List.append_nil,List.cons_append,List.nil_append]at q7;have gp0:∀l2:aA,(FS g (flB steps tries) steps tries F l2)[h.length]?=some (.box [rB steps,AI tries]):=fun l2=>by
  unfold FS FH;rw[←hg];simp
 have gt0:=fun l2=>z6N (h:=g) (fb:=flB steps tries) (steps:=steps) (tries:=tries) (S:=F) (l:=l2)
 have st0:=fun l2 o=>z6M (h:=g) (fb:=flB steps tries) (steps:=steps) (tries:=tries) (S:=F) (l:=l2) (o:=o) 0
 have tk1:=fun l2=>z6O (h:=g) (fb:=flB steps tries) (steps:=steps) (tries:=tries) (S:=F) (l:=l2) 1
 simp only[Nat.add_zero]at st0;have gw:=fun(o:Obj) l2=>WS (h:=g) (fb:=flB steps tries) (steps:=steps) (tries:=tries) (S:=F) (r:=[o]) (l:=l2)
 unfold FR at gw;simp only[List.length_cons,List.length_nil,Nat.zero_add,List.cons_append,List.nil_append]at gw;have f1:g.length+7+1≤g.length+(8+(zA F.bs).length+1):=by omega
 have f2:g.length+(8+(zA F.bs).length)+1≤g.length+(8+(zA F.bs).length+1):=by omega
 simp only[QL,go_sem,↓q1,q1,h0,↓q3,q3,↓q6,q6,KN,z6I,gp0,List.length_nil,Nat.add_zero,List.nil_append];refine XA (fun k:Nat=>⟨[(9,.ref (g.length+7) 0),(10,.own (g.length+(8+(zA F.bs).length)) (nD (uB F.bs) (steps.take k)).length 0 (nD (uB F.bs) (steps.take k)).length),(27,rB steps),(28,AI steps.length),(29,AI k)],FS g (flB steps tries) steps tries F [.row (some 2) ((nD (uB F.bs) (steps.take k)).map yE) 0],JC g F.bs.length⟩)
  (fun k=>k≤steps.length) (fun k=>steps.length-k) 0 rfl (Nat.zero_le _) ?_
 intro k hk;rcases Nat.lt_or_ge k steps.length with hlt|hge
 ·have hgr:=dC PV.str hlt
  have cw:∀v:List UInt8,ZA none 0 (PV.str v)=some (PV.str v):=fun _=>rfl
  have wk:IntKind.i64.wrap ((k:Int)+1)=((k+1:Nat):Int):=BA _ (by omega) (by omega)
  have pn:=zgq (uB F.bs) (steps.take k) steps[k]
  rw[←List.take_succ_eq_append_getElem hlt]at pn;have pl:=z40 (uB F.bs) (steps.take k)
  rw[List.length_take]at pl;generalize steps[k]=s at *;have q8:=fun(o:Obj) K=>q7 [o] s K
  simp only[List.length_cons,List.length_nil,Nat.zero_add,List.cons_append,List.nil_append]at q8;generalize nD (uB F.bs) (steps.take k)=P at *;have m1:P.length+1≤YA:=by unfold YA;omega
  have pll:(P.map yE).length=P.length:=List.length_map ..
  generalize uB F.bs s=w at *;cases w with
  | nil=>
   dsimp only at pn;rw[List.append_nil]at pn;simp only[go_sem,hlt,hgr,cw,↓q8,q8,splice,wk,KN,List.length_cons,List.length_nil,Nat.zero_add,f1,f2,tk1,List.take_succ_cons,List.take_zero,List.map_nil];exact⟨k+1,by rw[pn],by omega,by omega⟩
  | cons a r=>
   dsimp only at pn;have c0:(0:Int)<((a::r).length:Int):=by simp
   have g0:((a::r).map PV.str)[0]?=some (.str a):=rfl
   have c1:0<(a::r).length:=by simp
   generalize hw:a::r=w at *;simp only[go_sem,hlt,hgr,cw,↓q8,q8,c0,c1,g0,splice,gw,gt0,st0,pll,m1,wk,KN,List.length_cons,List.length_nil,Nat.zero_add,f1,f2,List.getElem?_cons_zero,List.set_cons_zero,tk1,List.take_succ_cons,List.take_zero];refine⟨k+1,?_,by omega,by omega⟩
   rw[pn,List.map_append,List.length_append];rfl
 ·have ek:k=steps.length:=by omega
  subst ek;rw[List.take_length];generalize nD (uB F.bs) steps=P;simp only[go_sem,Nat.lt_irrefl];have f3:h.length≤g.length+(8+(zA F.bs).length):=by omega
  rw[KN];simp only[List.length_cons,List.length_nil,Nat.zero_add,f2,if_true,tk1,List.take_succ_cons,List.take_zero];refine z4Z f3 ((gt0 _).trans rfl) ex ⟨rfl,?_,rfl⟩;congr 1
  rw[←hg];unfold FS FH
  rw[List.append_assoc,List.take_left]
end Go.Am
end
section
/- stationed: a bB call,computed. -/
open Go
set_option linter.all false
namespace Go.Am
end Go.Am
end
