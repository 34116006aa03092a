import Derived.Test.YthofcepomhnpdaaGreatlawST7
set_option linter.all false
set_option maxRecDepth 100000
set_option maxHeartbeats 0
namespace Go.Am
section
variable {h:aA} {K:jA}
attribute [-go_sem] TA UA ZA CB
attribute [local go_sem] ID WD kE KE oF UF pG qG pF rG sG tG uG vG xG yG
theorem zta (fb:Obj)(steps:List Nm)(tries:Int)(hst:steps.length<=1000)(k:Nm)(o1 o2 o3 o4 o5 o6:Obj)(r1 r2 r3 r4 r5 r6:AV)(B l:aA) :
 gA X vM [.ref (h.length+7) 0,AS k] (FH h fb o1 o2 o3 o4 o5 o6 (.box [OA steps,AI tries,r1,r2,r3,r4,r5,r6]) B l) K=K (AI (if steps.findIdx (λy=>decide (y=k))<steps.length then(steps.findIdx (λy=>decide (y=k)):Int) else -1)) (FH h fb o1 o2 o3 o4 o5 o6 (.box [OA steps,AI tries,r1,r2,r3,r4,r5,r6]) B l) []:=by
 refine sA ?_;rw[zia rfl];have q:=λh K=>AZ (h:=h) (K:=K) steps (eP _) k (by omega)
 simp only[lV,go_sem,q];exact List.take_of_length_le (by rw[ID];exact Nat.le_refl _)
def Flo.finish (S:Flo)(steps:List Nm)(tries:Int)(i:Nat)(x0:Ent)(st:Sta)(x:Ent):Flo:=
 { S with bs:=S.bs.set i (x0,OC steps tries st x.time (decide (x.kind=3))),sm:=aG S.sm st.site,ends:=S.ends++[⟨x.board,st.step,st.since,x.time,decide (x.kind=3)⟩],runs:=bD S.runs st.site x.time }
def Flo.finishR (S:Flo)(steps:List Nm)(tries:Int)(i:Nat)(x0:Ent)(st:Sta)(x:Ent):Int×Flo:=
 if st.state≠2 then(11,S) else if st.site≠x.site then(13,S) else(0,S.finish steps tries i x0 st x)
theorem zsZ (fb:Obj)(steps:List Nm)(tries:Int)(hst:steps.length<=1000)(S:Flo)(l:aA)(i:Nat)(x0:Ent)(st:Sta)(hi:S.bs[i]?=some (x0,st))(hr:S.runs.length<=1000000)(he:S.ends.length<=1000000)(hs:st.state=2->st.step∈steps)(hf:0<=st.failed/\st.failed<=1000000)(x:Ent) :
 gA X wM [.ref (h.length+7) 0,.ref (qB h i) 0,.p x.pv] (FS h fb steps tries S l) K =
  K (AI (S.finishR steps tries i x0 st x).1) (FS h fb steps tries (S.finishR steps tries i x0 st x).2 l) []:=by
 refine sA ?_;rw[zib rfl];obtain⟨Bx,b1,b2,b3,G,Sq,T,Tk⟩:=z1q (h:=h) hi;obtain⟨bs,sm,ck,ends,runs,ref,why⟩:=S;obtain⟨s1,s2,s3,s4,s5⟩:=st;have lv:=λK=>zdR (h:=h) (K:=K) fb steps tries ⟨bs,sm,ck,ends++[⟨x.board,s3,s2,x.time,decide (x.kind=3)⟩],runs,ref,why⟩ (l++[x.bx]) i _ hi hr x.time
 have ml:=λs=>bR (h.length+8) bs i _ s hi
 obtain⟨site,no,time,kind,board,step,of,other⟩:=x;unfold FS wbx at lv;unfold Flo.finishR FS wbx Flo.finish;dsimp only at hi hr he hs hf b1 b2 b3 T Tk ml lv ⊢;rw[b1,b2,ml]at lv;rw[b1];have m1:ends.length+1<=bB:=by unfold bB;omega
 have e3:=λn o m=>esc7 h 3 n o m (by decide)
 have ev:∀e:EndP,EndP.pv e = .agg [.str e.board,.str e.step,eI e.frm,eI e.til,.bool e.pass]:=λ_=>rfl
 have cl:(bD runs s4 time).length=runs.length:=by simp [bD]
 simp only[List.map_append,List.map_cons,List.map_nil,List.length_append,List.length_cons,List.length_nil,Nat.zero_add,ev,cl,Ent.bx]at lv;by_cases h1:s1=2
 ·subst h1
  rw[if_neg (by simp)]
  by_cases h2:s4=site
  ·subst h2
   rw[if_neg (by simp)]
   by_cases k3:kind=3
   ·subst k3
    have hin:=hs rfl
    obtain⟨j,hj⟩:∃j,steps.findIdx (λy=>decide (y=s3))=j:=⟨_,rfl⟩
    have jl:j<steps.length:=by rw[<-hj];exact List.findIdx_lt_length_of_exists ⟨s3,hin,by simp⟩
    have at1:=λ(o1 o2 o3 o4 o5 o6:Obj) (r1 r2 r3 r4 r5 r6:AV) (B l:aA) K=>zta (h:=h) (K:=K) fb steps tries hst s3 o1 o2 o3 o4 o5 o6 r1 r2 r3 r4 r5 r6 B l
    rw[hj,if_pos jl]at at1;have w1:IntKind.i64.wrap ((j:Int)+1)=((j+1:Nat):Int):=rA _ (by omega) (by omega)
    unfold OC;rw[if_pos (by simp),hj]
    simp only[decide_true]at lv;by_cases hl:j+1=steps.length
    ·rw[if_pos hl]
     have hl':((j+1:Nat):Int)=(steps.length:Int):=by omega
     simp only[OH,Ent.pv,go_sem,b3,T,G,Sq,splice,m1,e3,↓lv,lv,↓at1,at1,w1,eq_true hl'];rw[Tk,b2,ml,List.map_append,cl];rfl
    ·rw[if_neg hl]
     have hl':¬((j+1:Nat):Int)=(steps.length:Int):=by omega
     have hlt:j+1<steps.length:=by omega
     have gs:=sB PV.str hlt
     have cw:∀v:List UInt8,NA none 0 (PV.str v)=some (PV.str v):=λ_=>rfl
     have gd:(steps[j+1]?).getD []=steps[j+1]:=by rw[List.getElem?_eq_getElem hlt];rfl
     rw[gd];simp only[OH,Ent.pv,go_sem,b3,T,G,Sq,splice,m1,e3,↓lv,lv,↓at1,at1,w1,hl',gs,cw,hlt];rw[Tk,b2,ml,List.map_append,cl];rfl
   ·have w1:IntKind.i64.wrap (s5+1)=s5+1:=rA _ (by omega) (by omega)
    unfold OC;rw[if_neg (by simp [k3])]
    rw[decide_eq_false k3]at lv ⊢;by_cases ht:s5+1=tries
    ·rw[if_pos ht]
     simp only[OH,Ent.pv,go_sem,b3,T,G,Sq,splice,m1,e3,↓lv,lv,k3,w1,eq_true ht];rw[Tk,b2,ml,List.map_append,cl];rfl
    ·rw[if_neg ht]
     simp only[OH,Ent.pv,go_sem,b3,T,G,Sq,splice,m1,e3,↓lv,lv,k3,w1,ht];rw[Tk,b2,ml,List.map_append,cl];rfl
  ·rw[if_pos h2]
   simp only[OH,Ent.pv,go_sem,b3,T,G,h2];rw[b1];exact Tk _ _ _ _ _ _ _ _ _ _ _
 ·rw[if_pos h1]
  simp only[OH,Ent.pv,go_sem,b3,T,G,h1];rw[b1];exact Tk _ _ _ _ _ _ _ _ _ _ _
end
section
variable {h:aA} {K:jA}
attribute [-go_sem] TA UA ZA CB
attribute [local go_sem] ID WD kE KE oF UF pG qG pF rG sG tG uG vG xG yG
def Flo.put (S:Flo)(i:Nat)(x0:Ent)(st:Sta):Flo:={ S with bs:=S.bs.set i (x0,st) }
def Flo.old (S:Flo)(steps:List Nm)(tries:Int)(x:Ent)(i:Nat)(x0:Ent)(st:Sta):Int×Flo:=
 if x.kind=2 then S.startR i x0 st x
 else if x.kind=3∨x.kind=4 then S.finishR steps tries i x0 st x
 else if x.kind=5 then(if st.state≠3 then(11,S) else(0,S.put i x0 ⟨1,x.time,st.step,st.site,st.failed⟩))
 else if st.state=4∨st.state=5 then(11,S)
 else if st.state=2 then(0,{ S with bs:=S.bs.set i (x0,⟨5,x.time,st.step,[],st.failed⟩),sm:=aG S.sm st.site,runs:=bD S.runs st.site x.time })
 else(0,S.put i x0 ⟨5,x.time,st.step,st.site,st.failed⟩)
theorem zpr {k:Nm}:∀{bs:nB} {i:Nat},ixB k bs=some i->∃e,bs[i]?=some e:=λ{bs i} h=>by
 obtain⟨e,h1,_⟩:=(dJ k bs).2 i h;exact⟨e,h1⟩
theorem zdo (h:aA)(i:Nat):cC (h.length+8+(3*i+2)) = .ref (qB h i) 0:=by unfold cC qB;rw[Nat.add_assoc]
theorem ztt (fb:Obj)(steps:List Nm)(tries:Int)(hst:steps.length<=1000)(S:Flo)(l:aA)(i:Nat)(x0:Ent)(st:Sta)(x:Ent)(hx:ixB x.board S.bs=some i)(hi:S.bs[i]?=some (x0,st))(hr:S.runs.length<=1000000)(he:S.ends.length<=1000000)(hs:st.state=2->st.step∈steps)(hf:0<=st.failed/\st.failed<=1000000)(hk:x.kind≠1) :
 gA X mH [.ref (h.length+7) 0,.p x.pv] (FS h fb steps tries S l) K=K (AI (S.old steps tries x i x0 st).1) (FS h fb steps tries (S.old steps tries x i x0 st).2 l) []:=by
 refine sA ?_;rw[tT rfl];have sS:=λK=>zto (h:=h) (K:=K) fb steps tries S (l++[x.bx]) i x0 st hi hr x
 have sF:=λK=>zsZ (h:=h) (K:=K) fb steps tries hst S (l++[x.bx]) i x0 st hi hr he hs hf x
 have lv:=λK=>zdR (h:=h) (K:=K) fb steps tries S (l++[x.bx]) i _ hi hr x.time
 have tkS:∀S',S'.bs.length=S.bs.length->(FS h fb steps tries S' (l++[x.bx])).take (h.length+(8+3*S.bs.length+l.length))=FS h fb steps tries S' l:=λS' hl=>by
  unfold FS;have:=vI (h:=h) (B:=xA S'.bs) (l:=l++[x.bx]) (o0:=fb) (o1:=lA PV.str cC (rB (h.length+8) S'.bs)) (o2:=pC S'.sm S'.ck) (o3:=.row (some 5) (S'.ends.map EndP.pv) 0) (o4:=.row (some 3) (S'.runs.map RunP.pv) 0) (o5:=.row none (S'.ref.map eI) 0) (o6:=.row none (S'.why.map eI) 0) (o7:=wbx h steps tries S'.ends.length S'.runs.length S'.ref.length S'.why.length) l.length;rw[fD,hl]at this;rw[this];simp
 have lenS:∀r,(S.startR i x0 st x)=r->r.2.bs.length=S.bs.length:=λr hr=>by
  subst hr;unfold Flo.startR Flo.start
  split
  ·rfl
  split
  ·rfl
  split
  ·rfl
  ·simp
 have lenF:∀r,(S.finishR steps tries i x0 st x)=r->r.2.bs.length=S.bs.length:=λr hr=>by
  subst hr;unfold Flo.finishR Flo.finish
  split
  ·rfl
  split
  ·rfl
  ·simp
 have lk:=λ(o0 o2 o3 o4 o5 o6 o7:Obj) (B l:aA)=>qH (kk:=(none,[2])) (k:=x.board) (h:=FH h o0 (lA PV.str cC (rB (h.length+8) S.bs)) o2 o3 o4 o5 o6 o7 B l) (id:=h.length+1) PG kE iF (ok:=false) (z:=.nilp)
 rw[aR,hx]at lk;simp only[Option.map_some,Option.getD_some,zdo,cond_false]at lk;generalize hR:S.startR i x0 st x=R1 at *;generalize hF:S.finishR steps tries i x0 st x=R2 at *;have tk1:=tkS R1.2 (lenS R1 rfl)
 have tk2:=tkS R2.2 (lenF R2 rfl)
 obtain⟨Bx,b1,b2,b3,G,Sq,T,Tk⟩:=z1q (h:=h) hi;obtain⟨H1,hH1⟩:∃H,FS h fb steps tries R1.2 (l++[x.bx])=H:=⟨_,rfl⟩;obtain⟨H2,hH2⟩:∃H,FS h fb steps tries R2.2 (l++[x.bx])=H:=⟨_,rfl⟩;rw[hH1]at sS tk1;rw[hH2]at sF tk2;have ml:=λs=>bR (h.length+8) S.bs i _ s hi
 have cl:(bD S.runs st.site x.time).length=S.runs.length:=by simp [bD]
 unfold FS wbx Ent.bx at sS sF lv;dsimp only at lv ml;rw[b1]at sS sF;rw[b1,b2,ml,cl]at lv;simp only[Ent.pv]at sS sF;have e1:∀v:AV,splice [AI st.state,AI st.since,AS st.step,AS st.site,AI st.failed] 0 [v]=[v,AI st.since,AS st.step,AS st.site,AI st.failed]:=λ_=>rfl
 have G':=G st.state st.since st.step st.site st.failed
 have est:(⟨st.state,st.since,st.step,st.site,st.failed⟩:Sta)=st:=rfl
 rw[est]at G';by_cases k2:x.kind=2
 ·have e:S.old steps tries x i x0 st=R1:=by unfold Flo.old;rw[if_pos k2,hR]
  rw[e];obtain⟨G1,hG1⟩:∃H,FS h fb steps tries R1.2 l=H:=⟨_,rfl⟩;rw[hG1]at tk1 ⊢;unfold FS wbx;rw[b1];simp only[wE,Ent.pv,go_sem,b3,T,lk,hk,eq_true k2,↓sS,sS];exact tk1
 by_cases k34:x.kind=3∨x.kind=4
 ·have e:S.old steps tries x i x0 st=R2:=by unfold Flo.old;rw[if_neg k2,if_pos k34,hF]
  rw[e];obtain⟨G1,hG1⟩:∃H,FS h fb steps tries R2.2 l=H:=⟨_,rfl⟩;rw[hG1]at tk2 ⊢;unfold FS wbx;rw[b1];rcases k34 with k3|k4
  ·simp only[wE,Ent.pv,go_sem,b3,T,lk,hk,k2,eq_true k3,↓sF,sF]
   exact tk2
  ·have k3:¬x.kind=3:=by omega
   simp only[wE,Ent.pv,go_sem,b3,T,lk,hk,k2,k3,eq_true k4,↓sF,sF];exact tk2
 have k3:¬x.kind=3:=λz=>k34 (.inl z)
 have k4:¬x.kind=4:=λz=>k34 (.inr z)
 by_cases k5:x.kind=5
 ·by_cases h3:st.state=3
  ·have e:S.old steps tries x i x0 st=(0,S.put i x0 ⟨1,x.time,st.step,st.site,st.failed⟩):=by unfold Flo.old;rw[if_neg k2,if_neg k34,if_pos k5,if_neg (by simp [h3])]
   rw[e];unfold Flo.put FS wbx;dsimp only;rw[b1];simp only[wE,Ent.pv,go_sem,b3,T,lk,hk,k2,k3,k4,eq_true k5,G',G,Sq,splice,eq_true h3];rw[Tk,b2,ml]
  ·have e:S.old steps tries x i x0 st=(11,S):=by unfold Flo.old;rw[if_neg k2,if_neg k34,if_pos k5,if_pos h3]
   rw[e];unfold FS wbx;dsimp only;rw[b1];simp only[wE,Ent.pv,go_sem,b3,T,lk,hk,k2,k3,k4,eq_true k5,G',h3];exact Tk _ _ _ _ _ _ _ _ _ _ _
 by_cases h45:st.state=4∨st.state=5
 ·have e:S.old steps tries x i x0 st=(11,S):=by unfold Flo.old;rw[if_neg k2,if_neg k34,if_neg k5,if_pos h45]
  rw[e];unfold FS wbx;dsimp only;rw[b1];rcases h45 with h4|h5
  ·simp only[wE,Ent.pv,go_sem,b3,T,lk,hk,k2,k3,k4,k5,G',eq_true h4]
   exact Tk _ _ _ _ _ _ _ _ _ _ _
  ·have h4:¬st.state=4:=by omega
   simp only[wE,Ent.pv,go_sem,b3,T,lk,hk,k2,k3,k4,k5,G',h4,eq_true h5];exact Tk _ _ _ _ _ _ _ _ _ _ _
 have h4:¬st.state=4:=λz=>h45 (.inl z)
 have h5:¬st.state=5:=λz=>h45 (.inr z)
 by_cases h2:st.state=2
 ·have e:S.old steps tries x i x0 st=(0,{ S with bs:=S.bs.set i (x0,⟨5,x.time,st.step,[],st.failed⟩),sm:=aG S.sm st.site,runs:=bD S.runs st.site x.time }):=by unfold Flo.old;rw[if_neg k2,if_neg k34,if_neg k5,if_neg h45,if_pos h2]
  rw[e];unfold FS wbx;dsimp only;rw[b1];simp only[wE,Ent.pv,go_sem,b3,T,lk,hk,k2,k3,k4,k5,G',G,Sq,splice,h4,h5,eq_true h2,↓lv,lv];rw[Tk,b2,ml,cl]
 ·have e:S.old steps tries x i x0 st=(0,S.put i x0 ⟨5,x.time,st.step,st.site,st.failed⟩):=by unfold Flo.old;rw[if_neg k2,if_neg k34,if_neg k5,if_neg h45,if_neg h2]
  rw[e];unfold Flo.put FS wbx;dsimp only;rw[b1];simp only[wE,Ent.pv,go_sem,b3,T,lk,hk,k2,k3,k4,k5,G',G,Sq,splice,h4,h5,h2];rw[Tk,b2,ml]
end
section
variable {h:aA} {K:jA}
attribute [-go_sem] TA UA ZA CB
attribute [local go_sem] ID WD kE KE oF UF pG qG pF rG sG tG uG vG xG yG
theorem fL (fb:Obj)(steps:List Nm)(tries:Int)(S:Flo)(l l2:aA):(FS h fb steps tries S (l++l2)).take (h.length+(8+3*S.bs.length+l.length))=FS h fb steps tries S l:=by
 unfold FS;have:=vI (h:=h) (B:=xA S.bs) (l:=l++l2) (o0:=fb) (o1:=lA PV.str cC (rB (h.length+8) S.bs)) (o2:=pC S.sm S.ck) (o3:=.row (some 5) (S.ends.map EndP.pv) 0) (o4:=.row (some 3) (S.runs.map RunP.pv) 0) (o5:=.row none (S.ref.map eI) 0) (o6:=.row none (S.why.map eI) 0) (o7:=wbx h steps tries S.ends.length S.runs.length S.ref.length S.why.length) l.length;rw[fD]at this;rw[this];simp
theorem YQ (S:Flo)(k:Nm)(o0 o2 o3 o4 o5 o6 o7:Obj)(B l:aA):UA (none,[2]) false .nilp (.mp (h.length+1)) (AS k) (FH h o0 (lA PV.str cC (rB (h.length+8) S.bs)) o2 o3 o4 o5 o6 o7 B l)=some (match ixB k S.bs with|some i=>.ref (qB h i) 0|none=>.nilp):=by
 have lk:=qH (kk:=(none,[2])) (k:=k) (h:=FH h o0 (lA PV.str cC (rB (h.length+8) S.bs)) o2 o3 o4 o5 o6 o7 B l) (id:=h.length+1) PG kE iF (ok:=false) (z:=.nilp)
 rw[aR]at lk;rw[lk];cases ixB k S.bs with
 | none=>rfl
 | some i=>simp only[Option.map_some,Option.getD_some,zdo,cond_false]
theorem tl1 {o0 o1 o2 o3 o4 o5 o6 o7 o:Obj}{bs:nB}{l:aA}:(FH h o0 o1 o2 o3 o4 o5 o6 o7 (xA bs) (l++[o]))[h.length+(8+3*bs.length+l.length)]?=some o:=by
 have:=uI (h:=h) (o0:=o0) (o1:=o1) (o2:=o2) (o3:=o3) (o4:=o4) (o5:=o5) (o6:=o6) (o7:=o7) (B:=xA bs) (l:=l++[o]) l.length;rw[fD]at this;rw[this];simp
theorem zts (fb:Obj)(steps:List Nm)(tries:Int)(S:Flo)(l:aA)(x:Ent)(hx:ixB x.board S.bs=none)(hk:x.kind≠1) :
 gA X mH [.ref (h.length+7) 0,.p x.pv] (FS h fb steps tries S l) K=K (AI 8) (FS h fb steps tries S l) []:=by
 refine sA ?_;rw[tT rfl];have lk:=λ(o0 o2 o3 o4 o5 o6 o7:Obj) (B l:aA)=>YQ (h:=h) S x.board o0 o2 o3 o4 o5 o6 o7 B l
 rw[hx]at lk;have tk:=fL (h:=h) fb steps tries S l [x.bx]
 obtain⟨G1,hG1⟩:∃H,FS h fb steps tries S l=H:=⟨_,rfl⟩;rw[hG1]at tk ⊢;rw[<-hG1];unfold Ent.bx at tk;unfold FS wbx at tk ⊢;dsimp only at lk;simp only[wE,Ent.pv,go_sem,fD,tl1,lk,hk];unfold FS wbx at hG1;rw[hG1];exact tk
theorem ztv (fb:Obj)(steps:List Nm)(tries:Int)(S:Flo)(l:aA)(x:Ent)(i:Nat)(hx:ixB x.board S.bs=some i)(hk:x.kind=1) :
 gA X mH [.ref (h.length+7) 0,.p x.pv] (FS h fb steps tries S l) K=K (AI 6) (FS h fb steps tries S l) []:=by
 refine sA ?_;rw[tT rfl];have lk:=λ(o0 o2 o3 o4 o5 o6 o7:Obj) (B l:aA)=>YQ (h:=h) S x.board o0 o2 o3 o4 o5 o6 o7 B l
 rw[hx]at lk;have tk:=fL (h:=h) fb steps tries S l [x.bx]
 obtain⟨G1,hG1⟩:∃H,FS h fb steps tries S l=H:=⟨_,rfl⟩;rw[hG1]at tk ⊢;rw[<-hG1];unfold Ent.bx at tk;unfold FS wbx at tk ⊢;dsimp only at lk;simp only[wE,Ent.pv,go_sem,fD,tl1,lk,eq_true hk];unfold FS wbx at hG1;rw[hG1];exact tk
def Flo.enter (S:Flo)(steps:List Nm)(x:Ent):Flo:={ S with bs:=S.bs++[(x,⟨1,x.time,steps.headD [],[],0⟩)] }
theorem zsi {b i t:Nat}{n:Int}{P:jA}{H:aA}(hi:i<b)(ht:b<=t)(k:P (AI n) (H.take t) [(i,t)]):kD false b P (some [AI n]) H [(i,t)]:=by
 have e1:∀m,aB m H (AI n)=some (AI n):=λm=>by simp [aB]
 have e2:AV.top (AI n)=0:=by simp [AV.top]
 have e3:close 1 [(i,t)] b=t:=by simp [close,DG,hi];omega
 have e4:YB [(i,t)] t=true:=by simp [YB]
 have e5:[(i,t)].filter (λy=>decide (y.1<t))=[(i,t)]:=by simp;omega
 have e6:dB [AI n]=AI n:=rfl
 simp only[kD,e6,e1,e2,Nat.max_zero,List.length_cons,List.length_nil,Nat.zero_add,e3,e4,if_true,e5];exact⟨Nat.zero_le _,k⟩
theorem ztr (fb:Obj)(steps:List Nm)(tries:Int)(hst:steps≠[])(S:Flo)(x:Ent)(hx:ixB x.board S.bs=none)(hk:x.kind=1) :
 gA X mH [.ref (h.length+7) 0,.p x.pv] (FS h fb steps tries S [x.bx]) K=K (AI 0) (FS h fb steps tries (S.enter steps x) []) [(h.length+1,h.length+(8+3*(S.bs.length+1)))]:=by
 refine sA ?_;rw[tT rfl];have lk:=λ(o0 o2 o3 o4 o5 o6 o7:Obj) (B l:aA)=>YQ (h:=h) S x.board o0 o2 o3 o4 o5 o6 o7 B l
 rw[hx]at lk;obtain⟨s0,sr,rfl⟩:∃a r,steps=a::r:=by
  cases steps with
  | nil=>exact absurd rfl hst
  | cons a r=>exact⟨a,r,rfl⟩
 have wn:eD x.board (rB (h.length+8) S.bs)=none:=by
  have:=zeI (k:=x.board) (l:=rB (h.length+8) S.bs);rw[aR,hx]at this;simpa using this
 have q0:h.length+8+3*S.bs.length+2=h.length+(8+3*S.bs.length+2):=by omega
 have up:=λ(o0 o2 o3 o4 o5 o6 o7:Obj) (B l:aA)=>HK (kk:=(none,[2])) (k:=x.board) (h:=FH h o0 (lA PV.str cC (rB (h.length+8) S.bs)) o2 o3 o4 o5 o6 o7 B l) (id:=h.length+1) PG kE iF (v:=h.length+(8+3*S.bs.length+2)) (val:=cC) rfl
 rw[jZ wn]at up;have ms:=zc1 (h.length+8) S.bs (x,⟨1,x.time,s0,[],0⟩)
 rw[q0]at ms;dsimp only at ms;rw[<-ms]at up;have es:dC (h.length+1) (cC (h.length+(8+3*S.bs.length+2)))=[(h.length+1,h.length+(8+3*(S.bs.length+1)))]:=by
  unfold dC cC;have e9:h.length+(8+3*S.bs.length+2)+1=h.length+(8+3*(S.bs.length+1)):=by omega
  simp only[AV.top,e9];rw[if_pos (by omega)]
 rw[es]at up;simp only[cC]at up;unfold Flo.enter;obtain⟨bs,sm,ck,ends,runs,ref,why⟩:=S;unfold FS wbx Ent.bx;dsimp only at lk hx up ms ⊢;have t1:∀(o0 o1 o2 o3 o4 o5 o6 o7 a b:Obj),(FH h o0 o1 o2 o3 o4 o5 o6 o7 (xA bs) [a,b])[h.length+(8+3*bs.length+1)]?=some b:=λo0 o1 o2 o3 o4 o5 o6 o7 a b=>tl1 (l:=[a])
 have t2:∀(o0 o1 o2 o3 o4 o5 o6 o7 a b c:Obj),(FH h o0 o1 o2 o3 o4 o5 o6 o7 (xA bs) [a,b,c])[h.length+(8+3*bs.length+1)]?=some b:=λo0 o1 o2 o3 o4 o5 o6 o7 a b c=>by
  have:=uI (h:=h) (o0:=o0) (o1:=o1) (o2:=o2) (o3:=o3) (o4:=o4) (o5:=o5) (o6:=o6) (o7:=o7) (B:=xA bs) (l:=[a,b,c]) 1;rw[fD]at this;rw[this];rfl
 have cw:∀v:List UInt8,NA none 0 (PV.str v)=some (PV.str v):=λ_=>rfl
 simp only[wE,Ent.pv,go_sem,fD,t1,t2,lk,eq_true hk,cw,up];refine zsi (by omega) (by omega) ⟨rfl,?_,rfl⟩
 rw[List.take_of_length_le (by rw[ID,fD];simp;omega)]
 have sh:∀(o0 o1 o2 o3 o4 o5 o6 o7:Obj) (B l:aA),FH h o0 o1 o2 o3 o4 o5 o6 o7 B l=FH h o0 o1 o2 o3 o4 o5 o6 o7 (B++l) []:=λ_ _ _ _ _ _ _ _ _ _=>by unfold FH;simp
 rw[sh,z9D];rfl
end
section
variable {h:aA} {K:jA}
attribute [-go_sem] TA UA ZA CB
theorem zi9 {l:List Ent}{k:Nat}(hk:k<l.length):SA (l.drop k)=(!decide ((l[k].site,l[k].no)∈nD (l.drop (k+1))))::SA (l.drop (k+1)):=by
 rw[List.drop_eq_getElem_cons hk,zi7]
theorem zuU {l:List Ent}{k:Nat}(hk:k<l.length):nD (l.drop k)=if decide ((l[k].site,l[k].no)∈nD (l.drop (k+1)))=false/\l[k].kind=7 then(l[k].of,l[k].other)::nD (l.drop (k+1)) else nD (l.drop (k+1)):=by
 rw[List.drop_eq_getElem_cons hk,nD]
abbrev jC (b:Bool):PV:=.bool b
def UndM (m:List ((List UInt8 × Int) × Bool))(u:List (Nm × Int)):Prop:=∀k,iB k m=if k∈u then some true else none
theorem zsV (l:List Ent)(hl:l.length<=100000):gA X tM [EA l] h K=K (.p (.sl none ((SA l).map jC))) h []:=by
 refine sA ?_;rw[zhX rfl];have mx:l.length<=bB:=by unfold bB;omega
 have w0:IntKind.i64.wrap ((l.length:Int)-1)=(l.length:Int)-1:=rA _ (by omega) (by omega)
 simp only[jV,go_sem,mx,w0];refine DA (λt:Nat×List ((List UInt8×Int)×Bool)=>⟨[(0,EA l),(3,.mp h.length),(4,.own (h.length+1) l.length 0 l.length),(5,AI ((t.1:Int)-1))],h++[lA gE lC t.2,.row none (List.replicate t.1 (jC false)++(SA (l.drop t.1)).map jC) 0],[]⟩)
  (λt=>t.1<=l.length/\UndM t.2 (nD (l.drop t.1))) (λt=>t.1) (l.length,[]) ?_ ⟨Nat.le_refl _,λk=>by simp [nD,iB]⟩ ?_
 ·simp only[List.drop_length,SA,List.map_nil,List.append_nil]
  rfl
 rintro⟨k,m⟩ ⟨hk,hm⟩
 dsimp only at hk hm ⊢;cases k with
 | zero=>
  have c0:¬(0:Int)<=((0:Nat):Int)-1:=by omega
  have cl:=UE l
  simp only[go_sem,c0,List.drop_zero,List.replicate_zero,List.nil_append];have hw:win ((SA l).map jC) 0 l.length=(SA l).map jC:=WG (by simp [cl])
  simp only[List.length_map,cl,hw,if_true];rw[if_pos ⟨trivial,Nat.le_refl _⟩];simp [AV.top]
 | succ k=>
  have hlt:k<l.length:=by omega
  have c0:(0:Int)<=((k+1:Nat):Int)-1:=by omega
  have ek:(((k+1:Nat):Int)-1)=(k:Int):=by omega
  have w1:IntKind.i64.wrap ((k:Int)-1)=(k:Int)-1:=rA _ (by omega) (by omega)
  have hk0:(0:Int)<=(k:Int):=by omega
  have hg:=sB Ent.pv hlt
  have cx:=iH (x:=l[k])
  have cs:=zi9 hlt
  have us:=zuU hlt
  have lrow:(List.replicate (k+1) (jC false)++(SA (l.drop (k+1))).map jC).length=l.length:=by
   rw[List.length_append,List.length_replicate,List.length_map,UE,List.length_drop];omega
  have grow:(List.replicate (k+1) (jC false)++(SA (l.drop (k+1))).map jC)[k]?=some (jC false):=by
   rw[List.getElem?_append_left (by simp),List.getElem?_replicate];simp
  have srow:∀b:Bool,(List.replicate (k+1) (jC false)++(SA (l.drop (k+1))).map jC).set k (jC b)=List.replicate k (jC false)++(b::SA (l.drop (k+1))).map jC:=λb=>by
   rw[List.replicate_succ',List.append_assoc,List.set_append_right _ _ (by simp)]
   simp
  have grow2:∀b:Bool,(List.replicate k (jC false)++(b::SA (l.drop (k+1))).map jC)[k]?=some (jC b):=λb=>by
   rw[List.getElem?_append_right (by simp)];simp
  have lrow2:∀b:Bool,(List.replicate k (jC false)++(b::SA (l.drop (k+1))).map jC).length=l.length:=λb=>by
   rw[List.length_append,List.length_replicate,List.length_map,List.length_cons,UE,List.length_drop];omega
  obtain⟨R2,hR2⟩:∃R2:Bool->List PV,∀b,List.replicate k (jC false)++(b::SA (l.drop (k+1))).map jC=R2 b:=⟨_,λ_=>rfl⟩
  simp only[hR2]at srow grow2 lrow2;have cb:∀b:Bool,NA none 0 (jC b)=some (jC b):=λ_=>rfl
  generalize hx:l[k]=x at *;have lk:=λ(hp:aA) (e:hp[h.length]?=some (lA gE lC m))=>qH (kk:=(some 2,[2,0])) (k:=(x.site,x.no)) WV e XV (ok:=false) (z:=lC false)
  have up:=λ(hp:aA) (e:hp[h.length]?=some (lA gE lC m))=>HK (kk:=(some 2,[2,0])) (k:=(x.of,x.other)) WV e XV (v:=true) rfl
  have l1:=λt=>lk (h++lA gE lC m::t) (by simp)
  have u1:=λt=>up (h++lA gE lC m::t) (by simp)
  have es:(Option.map lC (iB (x.site,x.no) m)).getD (lC false)=AB (decide ((x.site,x.no)∈nD (l.drop (k+1)))):=by
   rw[hm];by_cases e:(x.site,x.no)∈nD (l.drop (k+1)) <;> simp [e,lC]
  simp only[cond_false,es]at l1;have nl0:¬h.length<0:=by omega
  simp only[lC,gE,dC,AV.top,nl0,if_false]at l1 u1;generalize hb:decide ((x.site,x.no)∈nD (l.drop (k+1)))=b at *;generalize hrow:List.replicate (k+1) (jC false)++(SA (l.drop (k+1))).map jC=row at *;cases b with
  | true=>
   rw[if_neg (by simp)]at us
   simp only[go_sem,c0,ek,hk0,hlt,hg,cx,Ent.pv,splice,l1,lrow,grow,srow,grow2,lrow2,cb,w1];refine⟨(k,m),?_,⟨by dsimp only;omega,by rw[us];exact hm⟩,by dsimp only;omega⟩
   dsimp only;rw[cs,hR2];rfl
  | false=>
   by_cases k7:x.kind=7
   ·rw[if_pos ⟨rfl,k7⟩]at us
    simp only[go_sem,c0,ek,hk0,hlt,hg,cx,Ent.pv,splice,l1,u1,lrow,grow,srow,grow2,lrow2,cb,w1,eq_true k7];refine⟨(k,IB (x.of,x.other) true m),?_,⟨by dsimp only;omega,?_⟩,by dsimp only;omega⟩
    ·dsimp only
     rw[cs,hR2];rfl
    ·rw[us]
     intro j;rw[FM,hm j];by_cases e:j=(x.of,x.other)
     ·simp [e]
     ·rw[if_neg e];simp [e]
   ·rw[if_neg (by simp [k7])]at us
    simp only[go_sem,c0,ek,hk0,hlt,hg,cx,Ent.pv,splice,l1,lrow,grow,srow,grow2,lrow2,cb,w1,k7];refine⟨(k,m),?_,⟨by dsimp only;omega,by rw[us];exact hm⟩,by dsimp only;omega⟩
    dsimp only;rw[cs,hR2];rfl
end
section
variable {h:aA} {K:jA}
attribute [-go_sem] TA UA ZA CB
attribute [local go_sem] ID WD kE KE oF UF pG qG pF rG sG tG uG vG xG yG
def Flo.act (S:Flo)(steps:List Nm)(tries:Int)(x:Ent):Int×Flo:=match ixB x.board S.bs with
 | none=>if x.kind=1 then(0,S.enter steps x) else(8,S)
 | some i=>match S.bs[i]? with
  | none=>(8,S)
  | some e=>if x.kind=1 then(6,S) else S.old steps tries x i e.1 e.2
structure FlI (S:Flo) (steps:List Nm) (n:Nat):Prop where
 st:∀e∈S.bs,(e.2.state=1∨e.2.state=2∨e.2.state=3)->e.2.step∈steps
 fl:∀e∈S.bs,0<=e.2.failed/\e.2.failed<=n
 nb:(S.bs.map λe=>e.1.board).Nodup
 ns:(S.sm.map λe=>e.1.1).Nodup
 bl:S.bs.length<=n
 rl:S.runs.length<=n
 el:S.ends.length<=n
 fr:S.ref.length<=n
 fw:S.why.length<=n
theorem eW {α:Type}{l:List α}{i:Nat}{a y:α}(h:y∈l.set i a):y∈l∨y=a:=by
 rw[List.mem_iff_getElem?]at h;obtain⟨j,hj⟩:=h;rw[List.getElem?_set]at hj;split at hj
 ·split at hj
  ·right;exact(Option.some.inj hj).symm
  ·cases hj
 ·left;exact List.mem_of_getElem? hj
theorem ztG {bs:nB}{i:Nat}{e:Ent × Sta}(he:bs[i]?=some e)(s:Sta):(bs.set i (e.1,s)).map (λe=>e.1.board)=bs.map λe=>e.1.board:=by
 rw[List.map_set];apply List.ext_getElem?
 intro j;rw[List.getElem?_set];split
 ·rename_i h;subst h
  rw[List.getElem?_map,he];have:i<(bs.map λe=>e.1.board).length:=by
   rw[List.length_map];rcases Nat.lt_or_ge i bs.length with h|h
   ·exact h
   ·rw[List.getElem?_eq_none h]at he;cases he
  rw[if_pos this];rfl
 ·rfl
theorem FlI.set {S:Flo}{steps:List Nm}{n:Nat}(I:FlI S steps n){i:Nat}{e:Ent × Sta}(he:S.bs[i]?=some e)(s:Sta)(h1:(s.state=1∨s.state=2∨s.state=3)->s.step∈steps)(h2:0<=s.failed/\s.failed<=n+1)
 (S':Flo) (hb:S'.bs=S.bs.set i (e.1,s)) (hn:(S'.sm.map λe=>e.1.1).Nodup) (hr:S'.runs.length<=n+1) (hl:S'.ends.length<=n+1) (hf:S'.ref=S.ref) (hw:S'.why=S.why):FlI S' steps (n+1) where
 st y hy:=by
  rw[hb]at hy;rcases eW hy with h|h
  ·exact I.st y h
  ·rw[h];exact h1
 fl y hy:=by
  rw[hb]at hy;rcases eW hy with h|h
  ·have:=I.fl y h;omega
  ·rw[h];dsimp only;omega
 nb:=by rw[hb,ztG he];exact I.nb
 ns:=hn
 bl:=by rw[hb,List.length_set];have:=I.bl;omega
 rl:=hr
 el:=hl
 fr:=by rw[hf];have:=I.fr;omega
 fw:=by rw[hw];have:=I.fw;omega
theorem FlI.up {S:Flo}{steps:List Nm}{n:Nat}(I:FlI S steps n):FlI S steps (n+1):=
 ⟨I.st,λe he=>by have:=I.fl e he;omega,I.nb,I.ns,by have:=I.bl;omega,by have:=I.rl;omega,by have:=I.el;omega,by have:=I.fr;omega,by have:=I.fw;omega⟩
theorem zfV {m:XD}{k v:Nm}{c:Nat}(hn:mA (asS m) k=none):asS (m++[((k,v),c)])=JA (asS m) k v/\((m.map λe=>e.1.1).Nodup->((m++[((k,v),c)]).map λe=>e.1.1).Nodup):=by
 have ha:(asS m).any (λe=>decide (e.1=k))=false:=by
  cases h:(asS m).any (λe=>decide (e.1=k)) with
  | false=>rfl
  | true=>
   exfalso;obtain⟨e,he,hk⟩:=List.any_eq_true.1 h;unfold mA at hn;rw[Option.map_eq_none_iff,List.find?_eq_none]at hn;exact hn e he hk
 constructor
 ·unfold JA
  rw[if_neg (by simp [ha])]
  unfold asS;simp
 ·intro hu
  rw[List.map_append,List.nodup_append];refine⟨hu,by simp,λa ha2 b hb2 e=>?_⟩
  have hb3:b=k:=by simpa using hb2
  subst hb3;subst e;obtain⟨y,hy,e2⟩:=List.mem_map.1 ha2;have:(asS m).any (λe=>decide (e.1=a))=true:=List.any_eq_true.2 ⟨y.1,List.mem_map_of_mem hy,by simpa using e2⟩
  rw[ha]at this;cases this
theorem zcb {k:Nm}:∀{bs:nB},ixB k bs=none->k∉bs.map λe=>e.1.board
 | [],_=>by simp
 | e::r,h=>by
  unfold ixB at h;by_cases hk:k=e.1.board
  ·rw[if_pos hk]at h;cases h
  ·rw[if_neg hk]at h
   have:=zcb (bs:=r) (by simpa using h)
   simp only[List.map_cons,List.mem_cons,not_or];exact⟨hk,this⟩
theorem z9p {S:Flo}{steps:List Nm}{tries:Int}{n:Nat}(I:FlI S steps n)(hst:steps≠[])(x:Ent) :
 (S.act steps tries x).1=(EC steps tries S.P x).2/\(S.act steps tries x).2.P=(EC steps tries S.P x).1/\FlI (S.act steps tries x).2 steps (n+1)/\(S.act steps tries x).2.ref=S.ref/\(S.act steps tries x).2.why=S.why:=by
 obtain⟨g1,g2⟩:=dJ x.board S.bs;unfold Flo.act;cases hx:ixB x.board S.bs with
 | none=>
  have hg:mA S.P.bs x.board=none:=g1 hx
  dsimp only;by_cases k1:x.kind=1
  ·rw[if_pos k1]
   unfold EC;rw[if_pos k1,hg];refine⟨rfl,?_,?_,rfl,rfl⟩
   ·unfold Flo.enter Flo.P
    dsimp only;rw[zfT hx x rfl]
   ·obtain⟨a,r,rfl⟩:∃a r,steps=a::r:=by
     cases steps with
     | nil=>exact absurd rfl hst
     | cons a r=>exact⟨a,r,rfl⟩
    unfold Flo.enter;refine⟨λe he=>?_,λe he=>?_,?_,I.ns,?_,by have:=I.rl;dsimp only;omega,by have:=I.el;dsimp only;omega,by have:=I.fr;dsimp only;omega,by have:=I.fw;dsimp only;omega⟩
    ·rcases List.mem_append.1 he with h|h
     ·exact I.st e h
     ·rw[List.mem_singleton.1 h];intro _;simp
    ·rcases List.mem_append.1 he with h|h
     ·have:=I.fl e h;omega
     ·rw[List.mem_singleton.1 h];dsimp only;omega
    ·dsimp only
     rw[List.map_append,List.nodup_append];refine⟨I.nb,by simp,λa ha b hb e=>?_⟩
     have hb2:b=x.board:=by simpa using hb
     subst hb2;subst e
     exact zcb hx ha
    ·dsimp only;rw[List.length_append];have:=I.bl;simp;omega
  ·rw[if_neg k1]
   unfold EC;rw[if_neg k1,hg];exact⟨rfl,rfl,I.up,rfl,rfl⟩
 | some i=>
  obtain⟨e,he,hk,hg⟩:=g2 i hx;have hg':mA S.P.bs x.board=some e.2:=hg
  have pu:=λs=>zfU hx he I.nb s
  have hm:e∈S.bs:=List.mem_of_getElem? he
  have hfl:=I.fl e hm
  have hse:=I.st e hm
  dsimp only;rw[he];dsimp only;unfold EC;by_cases k1:x.kind=1
  ·rw[if_pos k1,if_pos k1,hg']
   exact⟨rfl,rfl,I.up,rfl,rfl⟩
  rw[if_neg k1,if_neg k1,hg'];dsimp only;unfold Flo.old;have rl:=I.rl
  have el:=I.el
  by_cases k2:x.kind=2
  ·rw[if_pos k2,if_pos k2]
   unfold Flo.startR;by_cases h1:e.2.state≠1
   ·rw[if_pos h1,if_pos h1];exact⟨rfl,rfl,I.up,rfl,rfl⟩
   rw[if_neg h1,if_neg h1];by_cases h2:x.step≠e.2.step
   ·rw[if_pos h2,if_pos h2];exact⟨rfl,rfl,I.up,rfl,rfl⟩
   rw[if_neg h2,if_neg h2];have hb:S.P.sites=asS S.sm:=rfl
   rw[hb];by_cases h3:(mA (asS S.sm) x.site).isSome=true
   ·rw[if_pos h3,if_pos h3];exact⟨rfl,rfl,I.up,rfl,rfl⟩
   rw[if_neg h3,if_neg h3];have hn:mA (asS S.sm) x.site=none:=by simpa using h3
   obtain⟨q1,q2⟩:=zfV (v:=x.board) (c:=S.ck) hn;refine⟨rfl,?_,?_,rfl,rfl⟩
   ·unfold Flo.start Flo.P
    dsimp only;rw[pu,q1]
   ·have hs1:e.2.state=1:=by simpa using h1
    exact I.set he ⟨2,x.time,e.2.step,x.site,e.2.failed⟩ (λ_=>hse (.inl hs1)) (by dsimp only;omega) _ rfl (q2 I.ns) (by unfold Flo.start;dsimp only;rw[List.length_append];simp;omega) (by unfold Flo.start;dsimp only;omega) rfl rfl
  rw[if_neg k2,if_neg k2];by_cases k34:x.kind=3∨x.kind=4
  ·rw[if_pos k34,if_pos k34]
   unfold Flo.finishR;by_cases h1:e.2.state≠2
   ·rw[if_pos h1,if_pos h1];exact⟨rfl,rfl,I.up,rfl,rfl⟩
   rw[if_neg h1,if_neg h1];by_cases h2:e.2.site≠x.site
   ·rw[if_pos h2,if_pos h2];exact⟨rfl,rfl,I.up,rfl,rfl⟩
   rw[if_neg h2,if_neg h2];have hs2:e.2.state=2:=by simpa using h1
   have hin:=hse (.inr (.inl hs2))
   obtain⟨q1,q2⟩:=zaw (m:=S.sm) (k:=e.2.site) I.ns;refine⟨rfl,?_,?_,rfl,rfl⟩
   ·unfold Flo.finish Flo.P
    dsimp only;rw[pu,q1]
   ·refine I.set he (OC steps tries e.2 x.time (decide (x.kind=3))) (λh=>?_) ?_ _ rfl q2 (by unfold Flo.finish bD;dsimp only;rw[List.length_map];omega) (by unfold Flo.finish;dsimp only;rw[List.length_append];simp;omega) rfl rfl
    ·unfold OC at h ⊢
     by_cases k3:x.kind=3
     ·rw[if_pos (by simp [k3])]at h ⊢
      by_cases hj:steps.findIdx (λy=>decide (y=e.2.step))+1=steps.length
      ·rw[if_pos hj]at h;dsimp only at h;omega
      ·rw[if_neg hj]
       have jl:steps.findIdx (λy=>decide (y=e.2.step))<steps.length:=List.findIdx_lt_length_of_exists ⟨e.2.step,hin,by simp⟩
       have jl2:steps.findIdx (λy=>decide (y=e.2.step))+1<steps.length:=by omega
       dsimp only;rw[List.getElem?_eq_getElem jl2];exact List.getElem_mem jl2
     ·rw[if_neg (by simp [k3])];exact hin
    ·unfold OC
     split
     ·split <;> (dsimp only;omega)
     ·dsimp only;omega
  rw[if_neg k34,if_neg k34];by_cases k5:x.kind=5
  ·rw[if_pos k5,if_pos k5]
   by_cases h1:e.2.state≠3
   ·rw[if_pos h1,if_pos h1];exact⟨rfl,rfl,I.up,rfl,rfl⟩
   rw[if_neg h1,if_neg h1];have hs3:e.2.state=3:=by simpa using h1
   refine⟨rfl,?_,?_,rfl,rfl⟩
   ·unfold Flo.put Flo.P
    dsimp only;rw[pu]
   ·exact I.set he ⟨1,x.time,e.2.step,e.2.site,e.2.failed⟩ (λ_=>hse (.inr (.inr hs3))) (by dsimp only;omega) _ rfl I.ns (by unfold Flo.put;dsimp only;omega) (by unfold Flo.put;dsimp only;omega) rfl rfl
  rw[if_neg k5,if_neg k5];by_cases h45:e.2.state=4∨e.2.state=5
  ·rw[if_pos h45,if_pos h45];exact⟨rfl,rfl,I.up,rfl,rfl⟩
  rw[if_neg h45,if_neg h45];have no5:∀(a:Int) (b c:Nm) (f:Int),((⟨5,a,b,c,f⟩:Sta).state=1∨(⟨5,a,b,c,f⟩:Sta).state=2∨(⟨5,a,b,c,f⟩:Sta).state=3)->b∈steps:=λa b c f h=>by dsimp only at h;omega
  by_cases h2:e.2.state=2
  ·rw[if_pos h2,if_pos h2]
   obtain⟨q1,q2⟩:=zaw (m:=S.sm) (k:=e.2.site) I.ns;refine⟨rfl,?_,?_,rfl,rfl⟩
   ·unfold Flo.P
    dsimp only;rw[pu,q1]
   ·exact I.set he ⟨5,x.time,e.2.step,[],e.2.failed⟩ (no5 _ _ _ _) (by dsimp only;omega) _ rfl q2 (by unfold bD;dsimp only;rw[List.length_map];omega) (by dsimp only;omega) rfl rfl
  ·rw[if_neg h2,if_neg h2]
   refine⟨rfl,?_,?_,rfl,rfl⟩
   ·unfold Flo.put Flo.P
    dsimp only;rw[pu]
   ·exact I.set he ⟨5,x.time,e.2.step,e.2.site,e.2.failed⟩ (no5 _ _ _ _) (by dsimp only;omega) _ rfl I.ns (by unfold Flo.put;dsimp only;omega) (by unfold Flo.put;dsimp only;omega) rfl rfl
end
section
variable {h:aA} {K:jA}
attribute [-go_sem] TA UA ZA CB
attribute [local go_sem] ID WD kE KE oF UF pG qG pF rG sG tG uG vG xG yG
def upK (l:List Ent)(at_:Int):Nat->Nat
 | 0=>0
 | k+1=>if at_<((l[k]?).map Ent.time).getD 0 then upK l at_ k else k+1
def upL (l:List Ent)(at_:Int):List Ent:=l.take (upK l at_ l.length)
theorem XO (l:List Ent)(at_:Int)(hl:l.length<=1000000):gA X fG [EA l,AI at_] h K=K (EA (upL l at_)) h []:=by
 refine sA ?_;rw[zil rfl];simp only[tV,go_sem];refine DA (λk:Nat=>⟨[(0,EA l),(1,AI at_),(5,AI k)],h,[]⟩) (λk=>k<=l.length/\upK l at_ k=upK l at_ l.length) (λk=>k) l.length rfl ⟨Nat.le_refl _,rfl⟩ ?_
 rintro k ⟨hk,hp⟩
 have fin:upK l at_ l.length=k->(∀P:Prop,True)->EA (upL l at_)=EA (l.take k):=λe _=>by unfold upL;rw[e]
 have hw:∀k,win (l.map Ent.pv) 0 k=(l.take k).map Ent.pv:=λk=>by simp [win,List.map_take]
 cases k with
 | zero=>
  have c0:¬(0:Int)<((0:Nat):Int):=by omega
  have e:=fin hp.symm (λ_=>trivial)
  simp only[go_sem,Int.lt_irrefl,hw,Nat.zero_le,e,c0];first|done|rfl
 | succ k=>
  have hlt:k<l.length:=by omega
  have c0:(0:Int)<((k+1:Nat):Int):=by omega
  have w1:IntKind.i64.wrap (((k+1:Nat):Int)-1)=(k:Int):=by rw[rA _ (by omega) (by omega)];omega
  have hg:=sB Ent.pv hlt
  have ct:NA none 2 (Ent.pv l[k])=some (eI l[k].time):=rfl
  rw[upK,List.getElem?_eq_getElem hlt]at hp;have e0:(Option.map Ent.time (some l[k])).getD 0=l[k].time:=rfl
  rw[e0]at hp;by_cases h1:at_<l[k].time
  ·rw[if_pos h1]at hp
   simp only[go_sem,c0,w1,hlt,hg,ct,h1];exact⟨k,rfl,⟨by omega,hp⟩,by omega⟩
  ·rw[if_neg h1]at hp
   have e:=fin hp.symm (λ_=>trivial)
   have hk':k+1<=l.length:=hk
   simp only[go_sem,c0,w1,hlt,hg,ct,h1,hw,hk',e];first|done|rfl
def BK (S:Flo)(x:Ent):Bool:=(ixB x.board S.bs).isNone&&decide (x.kind=1)
theorem ztu (fb:Obj)(steps:List Nm)(tries:Int)(hst:steps.length<=1000){n:Nat}(hn:n<=1000000)(S:Flo)(I:FlI S steps n)(l:aA)(x:Ent)(hx:BK S x=false) :
 gA X mH [.ref (h.length+7) 0,.p x.pv] (FS h fb steps tries S l) K=K (AI (S.act steps tries x).1) (FS h fb steps tries (S.act steps tries x).2 l) []:=by
 unfold Flo.act;cases hi:ixB x.board S.bs with
 | none=>
  have k1:x.kind≠1:=by
   intro e;unfold BK at hx;rw[hi,e]at hx;simp at hx
  dsimp only;rw[if_neg k1];exact zts fb steps tries S l x hi k1
 | some i=>
  obtain⟨e,he⟩:=zpr hi;have hm:e∈S.bs:=List.mem_of_getElem? he
  dsimp only;rw[he];dsimp only;by_cases k1:x.kind=1
  ·rw[if_pos k1]
   exact ztv fb steps tries S l x i hi k1
  ·rw[if_neg k1]
   have:=I.fl e hm;have:=I.rl;have:=I.el;exact ztt fb steps tries hst S l i e.1 e.2 x hi he (by omega) (by omega) (λh2=>I.st e hm (.inr (.inl h2))) (by omega) k1
def Flo.step (S:Flo)(steps:List Nm)(tries:Int)(i:Nat)(x:Ent):Flo:=
 if(S.act steps tries x).1≠0 then { (S.act steps tries x).2 with ref:=(S.act steps tries x).2.ref++[(i:Int)],why:=(S.act steps tries x).2.why++[(S.act steps tries x).1] } else(S.act steps tries x).2
def Flo.go (steps:List Nm)(tries:Int):Flo->Nat->List (Ent×Bool)->Flo
 | S,_,[]=>S
 | S,i,(x,c)::r=>if c=false∨x.kind=7 then Flo.go steps tries S (i+1) r else Flo.go steps tries (S.step steps tries i x) (i+1) r
def IF:Flo:=⟨[],[],0,[],[],[],[]⟩
theorem IQ (steps:List Nm):FlI IF steps 0:=
 ⟨λe he=>(by cases he),λe he=>(by cases he),List.nodup_nil,List.nodup_nil,Nat.le_refl _,Nat.le_refl _,Nat.le_refl _,Nat.le_refl _,Nat.le_refl _⟩
theorem cZ {S:Flo}{steps:List Nm}{tries:Int}{n:Nat}(I:FlI S steps n)(hst:steps≠[])(i:Nat)(x:Ent) :
 FlI (S.step steps tries i x) steps (n+1)/\(S.step steps tries i x).P=(EC steps tries S.P x).1/\(S.step steps tries i x).ref=(if(EC steps tries S.P x).2≠0 then S.ref++[(i:Int)] else S.ref)/\(S.step steps tries i x).why=(if(EC steps tries S.P x).2≠0 then S.why++[(EC steps tries S.P x).2] else S.why):=by
 obtain⟨a1,a2,a3,a4,a5⟩:=z9p (tries:=tries) I hst x;unfold Flo.step;rw[<-a1];by_cases h0:(S.act steps tries x).1≠0
 ·rw[if_pos h0,if_pos h0,if_pos h0]
  refine⟨⟨a3.st,a3.fl,a3.nb,a3.ns,a3.bl,a3.rl,a3.el,?_,?_⟩,a2,by dsimp only;rw[a4],by dsimp only;rw[a5]⟩
  ·dsimp only;rw[List.length_append,a4];have:=I.fr;simp;omega
  ·dsimp only;rw[List.length_append,a5];have:=I.fw;simp;omega
 ·rw[if_neg h0,if_neg h0,if_neg h0]
  exact⟨a3,a2,a4,a5⟩
def NB (h:aA):Nat->Esc
 | 0=>[]
 | n+1=>(h.length+1,h.length+(8+3*(n+1)))::NB h n
theorem jH {h:aA}:∀{n:Nat} {y:Nat×Nat},y∈NB h n->y.1=h.length+1/\y.2<=h.length+(8+3*n)
 | 0,y,hy=>by cases hy
 | n+1,y,hy=>by
  rcases List.mem_cons.1 hy with e|e
  ·rw[e];exact⟨rfl,Nat.le_refl _⟩
  ·have:=jH e;omega
theorem zaM (h:aA):∀(n m:Nat),h.length+8<=m->m<=h.length+(8+3*n)->DG (NB h n) m=h.length+(8+3*n)
 | 0,m,h1,h2=>by simp [NB,DG];omega
 | n+1,m,h1,h2=>by
  unfold NB DG;rw[List.foldl_cons,if_pos (by dsimp only;omega)]
  have e:max m (h.length+(8+3*(n+1)))=h.length+(8+3*(n+1)):=by omega
  dsimp only;rw[e];have:∀(x:Esc) (m:Nat),(∀y∈x,y.2<=m)->x.foldl (λm y=>if y.1<m then max m y.2 else m) m=m:=by
   intro x;induction x with
   | nil=>intro m _;rfl
   | cons y r ih=>
    intro m hm;rw[List.foldl_cons];have h1:=hm y (List.mem_cons_self ..)
    have:(if y.1<m then max m y.2 else m)=m:=by split <;> omega
    rw[this];exact ih m λz hz=>hm z (List.mem_cons_of_mem _ hz)
  exact this _ _ λy hy=>by have:=(jH hy).2;omega
theorem zsj {b q n:Nat}{P:jA}{H:aA}(hq:q=b+7)(hH:H.length=b+(8+3*n))(x:Esc)(hx:∃ h:aA,h.length=b/\x=NB h n)(k:P (.ref q 0) H x):kD false b P (some [.ref q 0]) H x:=by
 obtain⟨h,rfl,rfl⟩:=hx;subst hq;have e1:∀m,aB m H (.ref (h.length+7) 0)=some (.ref (h.length+7) 0):=λm=>by simp [aB]
 have e2:AV.top (.ref (h.length+7) 0)=h.length+8:=by simp [AV.top]
 have e6:dB [AV.ref (h.length+7) 0] = .ref (h.length+7) 0:=rfl
 have e7:max h.length (h.length+8)=h.length+8:=by omega
 have e3:∀c,DG (NB h n) c=h.length+(8+3*n)->close (NB h n).length (NB h n) (h.length+8)=h.length+(8+3*n):=by
  intro c _;have hb:=λm h1 h2=>zaM h n m h1 h2
  have:∀k m,h.length+8<=m->m<=h.length+(8+3*n)->(m=h.length+(8+3*n)∨1<=k)->close k (NB h n) m=h.length+(8+3*n):=by
   intro k;induction k with
   | zero=>intro m h1 h2 h3;unfold close;omega
   | succ k ih=>
    intro m h1 h2 _;unfold close;rw[hb m h1 h2];exact ih _ (by omega) (Nat.le_refl _) (.inl rfl)
  refine this _ _ (Nat.le_refl _) (by omega) ?_
  cases n with
  | zero=>left;omega
  | succ n=>right;simp [NB]
 have e3':=e3 _ (zaM h n _ (Nat.le_refl _) (by omega))
 have e4:YB (NB h n) (h.length+(8+3*n))=true:=by
  unfold YB;rw[List.all_eq_true];intro y hy;have:=(jH hy).2;simp [this]
 have e5:(NB h n).filter (λy=>decide (y.1<h.length+(8+3*n)))=NB h n:=by
  rw[List.filter_eq_self];intro y hy;have:=(jH hy).1;simp;omega
 have e8:H.take (h.length+(8+3*n))=H:=List.take_of_length_le (by omega)
 simp only[kD,e6,e1,e2,e7,e3',e4,e5,e8,if_true];exact⟨by omega,k⟩
theorem tS (fb:Obj)(steps:List Nm)(tries:Int)(S:Flo)(l:aA):(FS h fb steps tries S l).length=h.length+(8+3*S.bs.length+l.length):=by unfold FS;rw[ID,fD]
end
section
variable {h:aA} {K:jA}
attribute [-go_sem] TA UA ZA CB
attribute [local go_sem] ID WD kE KE oF UF pG qG pF rG sG tG uG vG xG yG
abbrev gB (steps:List Nm)(tries:Int):AV:=.p (.agg [.sl none (steps.map .str),eI tries])
def flB (steps:List Nm)(tries:Int):Obj:=.box [OA steps,AI tries]
def uC (l:List Ent):List (Ent×Bool):=l.zip (SA l)
theorem uH (l:List Ent):(uC l).length=l.length:=by unfold uC;rw[List.length_zip,UE];simp
theorem mS {l:List Ent}{k:Nat}(hk:k<l.length):(uC l)[k]'(by rw[uH];exact hk)=(l[k],(SA l)[k]'(by rw[UE];exact hk)):=by unfold uC;rw[List.getElem_zip]
theorem zfG {S:Flo}{steps:List Nm}{tries:Int}{x:Ent}(hx:BK S x=false):(S.act steps tries x).2.bs.length=S.bs.length:=by
 unfold Flo.act;cases hi:ixB x.board S.bs with
 | none=>
  have k1:x.kind≠1:=by
   intro e;unfold BK at hx;rw[hi,e]at hx;simp at hx
  dsimp only;rw[if_neg k1]
 | some i=>
  dsimp only;cases S.bs[i]? with
  | none=>rfl
  | some e=>
   dsimp only;split
   ·rfl
   ·unfold Flo.old Flo.startR Flo.start Flo.finishR Flo.finish Flo.put
    split
    ·split
     ·rfl
     split
     ·rfl
     split
     ·rfl
     ·simp
    split
    ·split
     ·rfl
     split
     ·rfl
     ·simp
    split
    ·split
     ·rfl
     ·simp
    split
    ·rfl
    split
    ·simp
    ·simp
abbrev jB (steps:List Nm)(tries:Int)(l:List Ent):Flo:=Flo.go steps tries IF 0 (uC l)
theorem TO (steps:List Nm)(tries:Int)(h1:steps.length<=1000)(h0:steps≠[])(l:List Ent)(hl:l.length<=1000) :
 gA X ND [gB steps tries,EA l] h K=K (.ref (h.length+7) 0) (FS h (flB steps tries) steps tries (jB steps tries l) []) (NB h (jB steps tries l).bs.length):=by
 refine sA ?_;rw[zih rfl];have cnt:=λh K=>zsV (h:=h) (K:=K) l (by omega)
 simp only[rV,go_sem,↓cnt,cnt];have hF0:Flo.go steps tries IF 0 ((uC l).drop 0)=jB steps tries l:=rfl
 generalize jB steps tries l=F at *;refine DA (λt:Nat×Flo=>⟨[(5,.ref (h.length+7) 0),(6,.p (.sl none ((SA l).map jC))),(17,EA l),(18,AI l.length),(19,AI t.1)],FS h (flB steps tries) steps tries t.2 [],NB h t.2.bs.length⟩)
  (λt=>t.1<=l.length/\Flo.go steps tries t.2 t.1 ((uC l).drop t.1)=F/\FlI t.2 steps t.1) (λt=>l.length-t.1) (0,IF) ?_ ⟨Nat.zero_le _,hF0,IQ steps⟩ ?_
 ·rfl
 rintro⟨k,S⟩ ⟨hk,hp,I⟩
 dsimp only at hk hp I ⊢;rcases Nat.lt_or_ge k l.length with hlt|hge
 ·have w1:IntKind.i64.wrap ((k:Int)+1)=((k+1:Nat):Int):=rA _ (by omega) (by omega)
  have hkc:k<(SA l).length:=by rw[UE];exact hlt
  have hg:=sB Ent.pv hlt
  have hc:=sB jC hkc
  have cx:=iH (x:=l[k])
  have cc:∀b:Bool,NA none 0 (jC b)=some (jC b):=λ_=>rfl
  have hzl:k<(uC l).length:=by rw[uH];exact hlt
  rw[List.drop_eq_getElem_cons hzl,mS hlt]at hp;unfold Flo.go at hp;generalize (SA l)[k]=c at *;generalize hx:l[k]=x at *;have lenS:=tS (h:=h) (flB steps tries) steps tries S []
  simp only[List.length_nil,Nat.add_zero]at lenS;have app0:∀(S:Flo) (l2:aA),FS h (flB steps tries) steps tries S []++l2=FS h (flB steps tries) steps tries S l2:=λS l2=>by unfold FS;rw[WD];rfl
  have gt:∀(o:Obj),(FS h (flB steps tries) steps tries S [o])[h.length+(8+3*S.bs.length)]?=some o:=λo=>by unfold FS;exact tl1 (l:=[])
  have st:∀(o o':Obj),(FS h (flB steps tries) steps tries S [o]).set (h.length+(8+3*S.bs.length)) o'=FS h (flB steps tries) steps tries S [o']:=λo o'=>by
   unfold FS;have:=qP (h:=h) (B:=xA S.bs) (l:=[o]) (o:=o') (o0:=flB steps tries) (o1:=lA PV.str cC (rB (h.length+8) S.bs)) (o2:=pC S.sm S.ck) (o3:=.row (some 5) (S.ends.map EndP.pv) 0) (o4:=.row (some 3) (S.runs.map RunP.pv) 0) (o5:=.row none (S.ref.map eI) 0) (o6:=.row none (S.why.map eI) 0) (o7:=wbx h steps tries S.ends.length S.runs.length S.ref.length S.why.length) 0;rw[fD]at this;exact this
  have tk0:∀(o:Obj),(FS h (flB steps tries) steps tries S [o]).take (h.length+(8+3*S.bs.length))=FS h (flB steps tries) steps tries S []:=λo=>fL (h:=h) (flB steps tries) steps tries S [] [o]
  have f1:h.length+7+1<=h.length+(8+3*S.bs.length):=by omega
  by_cases hskip:c=false∨x.kind=7
  ·rw[if_pos hskip]at hp
   rcases hskip with e|e
   ·subst e
    simp only[go_sem,hlt,hg,hc,cx,cc,Ent.pv,lenS,app0,gt,st,splice,w1,tk0,f1];exact⟨(k+1,S),rfl,⟨by dsimp only;omega,hp,I.up⟩,by dsimp only;omega⟩
   ·cases c with
    | false=>
     simp only[go_sem,hlt,hg,hc,cx,cc,Ent.pv,lenS,app0,gt,st,splice,w1,tk0,f1];exact⟨(k+1,S),rfl,⟨by dsimp only;omega,hp,I.up⟩,by dsimp only;omega⟩
    | true=>
     simp only[go_sem,hlt,hg,hc,cx,cc,Ent.pv,lenS,app0,gt,st,splice,w1,tk0,f1,eq_true e];exact⟨(k+1,S),rfl,⟨by dsimp only;omega,hp,I.up⟩,by dsimp only;omega⟩
  ·rw[if_neg hskip]at hp
   rw[not_or]at hskip;have c1:c=true:=by simpa using hskip.1
   have k7:=hskip.2
   subst c1;obtain⟨I2,_⟩:=cZ (tries:=tries) I h0 k x;by_cases hnew:BK S x=true
   ·unfold BK at hnew
    rw[Bool.and_eq_true,Option.isNone_iff_eq_none]at hnew;obtain⟨n1,n2⟩:=hnew;have n2:x.kind=1:=by simpa using n2
    have ea:S.act steps tries x=(0,S.enter steps x):=by unfold Flo.act;rw[n1];dsimp only;rw[if_pos n2]
    have es:S.step steps tries k x=S.enter steps x:=by unfold Flo.step;rw[ea];exact if_neg (by simp)
    rw[es]at hp I2;have tkN:=λK=>ztr (h:=h) (K:=K) (flB steps tries) steps tries h0 S x n1 n2
    simp only[Ent.pv,Ent.bx]at tkN;have lenE:(S.enter steps x).bs.length=S.bs.length+1:=by unfold Flo.enter;simp
    have tkE:(FS h (flB steps tries) steps tries (S.enter steps x) []).take (h.length+(8+3*(S.bs.length+1)))=FS h (flB steps tries) steps tries (S.enter steps x) []:=by
     have:=fL (h:=h) (flB steps tries) steps tries (S.enter steps x) [] [];rw[lenE]at this;exact this
    have mx:max (h.length+(8+3*S.bs.length)) (h.length+(8+3*(S.bs.length+1)))=h.length+(8+3*(S.bs.length+1)):=by omega
    have tr:∀(x0:Esc) (e:List (Nat×AV)) (H:aA),GE (h.length+(8+3*S.bs.length)) x0 ⟨e,H,[(h.length+1,h.length+(8+3*(S.bs.length+1)))]⟩=⟨FG (h.length+(8+3*(S.bs.length+1))) e,H.take (h.length+(8+3*(S.bs.length+1))),(h.length+1,h.length+(8+3*(S.bs.length+1)))::x0⟩:=λx0 e H=>by rw[zuO (by omega),mx]
    have f2:h.length+7+1<=h.length+(8+3*(S.bs.length+1)):=by omega
    simp only[go_sem,hlt,hg,hc,cx,cc,Ent.pv,lenS,app0,gt,st,splice,w1,k7,↓tkN,tkN,tr,tkE,f2];exact⟨(k+1,S.enter steps x),by dsimp only;rw[lenE];rfl,⟨by dsimp only;omega,hp,I2⟩,by dsimp only;omega⟩
   ·have hnew:BK S x=false:=by simpa using hnew
    have tkO:=λK=>ztu (h:=h) (K:=K) (flB steps tries) steps tries h1 (n:=k) (by omega) S I [x.bx] x hnew
    have lenA:(S.act steps tries x).2.bs.length=S.bs.length:=zfG hnew
    simp only[Ent.pv,Ent.bx]at tkO;obtain⟨_,_,I3,a4,a5⟩:=z9p (tries:=tries) I h0 x;have fr:=I3.fr
    have fw:=I3.fw
    unfold Flo.step at hp I2;generalize S.act steps tries x=R at *;obtain⟨e,S2⟩:=R;dsimp only at *;have tk2:∀(o:Obj),(FS h (flB steps tries) steps tries S2 [o]).take (h.length+(8+3*S.bs.length))=FS h (flB steps tries) steps tries S2 []:=λo=>by
     have:=fL (h:=h) (flB steps tries) steps tries S2 [] [o];rw[lenA]at this;exact this
    by_cases e0:e=0
    ·rw[if_neg (by simp [e0])]at hp I2
     simp only[go_sem,hlt,hg,hc,cx,cc,Ent.pv,lenS,app0,gt,st,splice,w1,k7,↓tkO,tkO,eq_true e0,tk2,f1];exact⟨(k+1,S2),by dsimp only;rw[lenA],⟨by dsimp only;omega,hp,I2⟩,by dsimp only;omega⟩
    ·rw[if_pos e0]at hp I2
     obtain⟨bs2,sm2,ck2,ends2,runs2,ref2,why2⟩:=S2;dsimp only at *;have m1:ref2.length+1<=bB:=by unfold bB;omega
     have m2:why2.length+1<=bB:=by unfold bB;omega
     have e5:=λn o m=>esc7 h 5 n o m (by decide)
     have e6:=λn o m=>esc7 h 6 n o m (by decide)
     have tkF:∀(o0 o1 o2 o3 o4 o5 o6 o7 b:Obj),(FH h o0 o1 o2 o3 o4 o5 o6 o7 (xA bs2) [b]).take (h.length+(8+3*S.bs.length))=FH h o0 o1 o2 o3 o4 o5 o6 o7 (xA bs2) []:=λo0 o1 o2 o3 o4 o5 o6 o7 b=>by
      have:=vI (h:=h) (o0:=o0) (o1:=o1) (o2:=o2) (o3:=o3) (o4:=o4) (o5:=o5) (o6:=o6) (o7:=o7) (B:=xA bs2) (l:=[b]) 0;rw[fD,lenA]at this;exact this
     have eS:∀l,FS h (flB steps tries) steps tries ⟨bs2,sm2,ck2,ends2,runs2,ref2,why2⟩ l=FH h (flB steps tries) (lA PV.str cC (rB (h.length+8) bs2)) (pC sm2 ck2) (.row (some 5) (ends2.map EndP.pv) 0) (.row (some 3) (runs2.map RunP.pv) 0) (.row none (ref2.map eI) 0) (.row none (why2.map eI) 0)
      (.box [OA steps,AI tries,.mp (h.length+1),.mp (h.length+2),.own (h.length+3) ends2.length 0 ends2.length,.own (h.length+4) runs2.length 0 runs2.length,.own (h.length+5) ref2.length 0 ref2.length,.own (h.length+6) why2.length 0 why2.length]) (xA bs2) l:=λl=>rfl
     simp only[eS]at tkO;simp only[go_sem,hlt,hg,hc,cx,cc,Ent.pv,lenS,app0,gt,st,splice,w1,k7,↓tkO,tkO,e0,tkF,f1,m1,m2,e5,e6];refine⟨(k+1,⟨bs2,sm2,ck2,ends2,runs2,ref2++[(k:Int)],why2++[e]⟩),?_,⟨by dsimp only;omega,hp,I2⟩,by dsimp only;omega⟩
     dsimp only;rw[lenA];unfold FS wbx;simp only[List.map_append,List.length_append,List.map_cons,List.map_nil,List.length_cons,List.length_nil,Nat.zero_add]
 ·have ek:k=l.length:=by omega
  subst ek;rw[show(uC l).drop l.length=[] from List.drop_of_length_le (by rw[uH];exact Nat.le_refl _)]at hp
  unfold Flo.go at hp;subst hp;have fl:h.length+7+1<=(FS h (flB steps tries) steps tries S []).length:=by rw[tS];omega
  simp only[go_sem,Nat.lt_irrefl,fl];refine zsj (n:=S.bs.length) (H:=FS h (flB steps tries) steps tries S []) rfl (tS (flB steps tries) steps tries S []) _ ⟨h,rfl,rfl⟩ ?_;exact⟨rfl,rfl,rfl⟩
end
section
variable {h:aA} {K:jA}
attribute [-go_sem] TA UA ZA CB
attribute [local go_sem] ID WD kE KE oF UF pG qG pF rG sG tG uG vG xG yG
def LG:List Nm->List Nm->Int
 | _,[]=>0
 | pre,s::r=>if oB s=false then 5 else if pre.contains s=true then 6 else LG (pre++[s]) r
def PC (steps:List Nm)(tries:Int):Int:=if steps.length=0 then 8 else if(20:Int)<steps.length then 2 else if LG [] steps≠0 then LG [] steps else if inB 1 tries 10=false then 1 else 0
attribute [-go_sem] z4C
theorem zd8 (steps:List Nm)(tries:Int)(hl:steps.length<=1000)(hk:∀ s∈steps,s.length<=1000000):gA X rK [gB steps tries] h K=K (AI (PC steps tries)) h []:=by
 refine sA ?_;rw[zhQ rfl];unfold PC;by_cases h0:steps.length=0
 ·have h0':(steps.length:Int)=0:=by omega
  simp only[EL,go_sem,eq_true h0',h0]
 have h0':¬(steps.length:Int)=0:=by omega
 by_cases h1:(20:Int)<steps.length
 ·simp only[EL,go_sem,h0',h0,h1]
 simp only[EL,go_sem,h0',h0,h1];refine DA (λk:Nat=>⟨[(1,.ref h.length 0),(16,OA steps),(17,AI steps.length),(18,AI k)],h++[.box [OA steps,AI tries]],[]⟩) (λk=>k<=steps.length/\LG (steps.take k) (steps.drop k)=LG [] steps) (λk=>steps.length-k) 0 rfl ⟨by omega,rfl⟩ ?_
 rintro k ⟨hkl,hp⟩
 rcases Nat.lt_or_ge k steps.length with hlt|hge
 ·have hg:=sB PV.str hlt
  have cw:∀v:List UInt8,NA none 0 (PV.str v)=some (PV.str v):=λ_=>rfl
  have w2:IntKind.i64.wrap ((k:Int)+1)=((k+1:Nat):Int):=rA _ (by omega) (by omega)
  have ky:=λh K=>MO (h:=h) (K:=K) steps[k] (by have:=hk _ (List.getElem_mem hlt);omega)
  have ct:=λh K=>nS (h:=h) (K:=K) (steps.take k) (λh' _=>eP _) steps[k] (by simp;omega)
  have hw:win (steps.map PV.str) 0 k=(steps.take k).map PV.str:=by simp [win,List.map_take]
  have hk2:k<=steps.length:=by omega
  rw[List.drop_eq_getElem_cons hlt,LG]at hp;cases h2:oB steps[k]with
  | false=>
   rw[if_pos h2]at hp;simp only[go_sem,hlt,hg,cw,↓ky,ky,h2];rw[<-hp];first|done|rfl
  | true=>
   rw[if_neg (by simp [h2])]at hp
   cases h3:(steps.take k).contains steps[k]with
   | true=>
    rw[if_pos h3]at hp;rw[h3]at ct;simp only[go_sem,hlt,hg,cw,↓ky,ky,h2,hw,hk2,↓ct,ct];rw[<-hp];first|done|rfl
   | false=>
    rw[if_neg (by rw[h3];simp),<-List.take_succ_eq_append_getElem hlt]at hp
    rw[h3]at ct;simp only[go_sem,hlt,hg,cw,↓ky,ky,h2,hw,hk2,↓ct,ct,w2];exact⟨k+1,rfl,⟨by omega,hp⟩,by omega⟩
 ·have ek:k=steps.length:=by omega
  subst ek;rw[List.drop_length]at hp;have hz:LG [] steps=0:=by rw[<-hp];rfl
  rw[if_neg (by simp [hz])]
  simp only[go_sem,Nat.lt_irrefl];rw[z4C];cases h4:inB 1 tries 10 with
  | false=>simp only[SP,go_sem,dE,h4];first|done|rfl
  | true=>simp only[SP,go_sem,dE,h4];first|done|rfl
def gJ (n:Int):Int:=if KF n=true then 0 else 1
theorem ztg (n:Int):gA X AM [AI n] h K=K (AI (gJ n)) h []:=by
 refine sA ?_;rw[zii rfl];unfold gJ;cases h1:KF n with
 | false=>simp only[XP,go_sem,lI,h1,Bool.false_eq_true]
 | true=>simp only[XP,go_sem,lI,h1]
def JC (steps:List Nm)(tries:Int)(l:List Ent)(at_:Int):Int:=orL [PC steps tries,PB l,gJ at_]
structure StOk (steps:List Nm) (l:List Ent):Prop where
 n:steps.length<=1000
 k:∀s∈steps,s.length<=1000000
 e:∀x∈l,EntOk x
 l:l.length<=1000
theorem WY (steps:List Nm)(tries:Int)(l:List Ent)(O:StOk steps l)(at_:Int):gA X lH [gB steps tries,EA l,AI at_] h K=K (AI (JC steps tries l at_)) h []:=by
 refine sA ?_;rw[zhZ rfl];have q1:=λh K=>zd8 (h:=h) (K:=K) steps tries O.n O.k
 have q2:=λh K=>zd7 (h:=h) (K:=K) l O.e (by have:=O.l;omega)
 have q3:=λh K=>ztg (h:=h) (K:=K) at_
 have q4:=λh K=>zdA (h:=h) (K:=K) [PC steps tries,PB l,gJ at_] (by simp)
 simp only[AL,List.map_cons,List.map_nil]at q4;simp only[kV,go_sem,↓q1,q1,↓q2,q2,↓q3,q3,↓q4,q4];rfl
def sta0:Sta:=⟨0,0,[],[],0⟩
theorem ED {steps:List Nm}{l:List Ent}(O:StOk steps l)(at_:Int):StOk steps (upL l at_):=
 ⟨O.n,O.k,λx hx=>O.e x (List.mem_of_mem_take hx),by unfold upL;rw[List.length_take];have:=O.l;omega⟩
theorem nH {steps:List Nm}{tries:Int}{l:List Ent}{at_:Int}(h:JC steps tries l at_=0):steps≠[]:=by
 intro e;subst e;unfold JC at h;have:PC [] tries=8:=rfl
 rw[this]at h;simp [orL]at h
end
section
variable {h:aA} {K:jA}
structure SmI (S:Flo) (n:Nat):Prop where
 bn:(S.sm.map (·.2)).Nodup
 bl:∀e∈S.sm,e.2<S.ck
 ln:S.sm.length<=n
 kl:∀e∈S.sm,e.1.1.length<=1000000
theorem smI0:SmI IF 0:=⟨List.nodup_nil,λe he=>(by cases he),Nat.le_refl _,λe he=>(by cases he)⟩
theorem SmI.sub {S S':Flo}{n:Nat}(I:SmI S n)(h:S'.sm.Sublist S.sm)(hc:S'.ck=S.ck):SmI S' (n+1):=
 ⟨I.bn.sublist (h.map _),λe he=>by rw[hc];exact I.bl e (h.subset he),by have:=h.length_le;have:=I.ln;omega,λe he=>I.kl e (h.subset he)⟩
theorem ziP (m:XD)(k:Nm):(aG m k).Sublist m:=by
 unfold aG;split
 ·exact List.eraseIdx_sublist ..
 ·exact List.Sublist.refl _
theorem ztO {S:Flo}{n:Nat}(I:SmI S n)(steps:List Nm)(tries:Int){x:Ent}(hx:x.site.length<=1000000):SmI (S.act steps tries x).2 (n+1):=by
 have hs:∀i x0 st,SmI (S.start i x0 st x) (n+1):=λi x0 st=>by
  refine⟨?_,λe he=>?_,?_,λe he=>?_⟩
  ·show((S.sm++[((x.site,x.board),S.ck)]).map (·.2)).Nodup
   rw[List.map_append,List.nodup_append];refine⟨I.bn,by simp,λa ha b hb=>?_⟩
   obtain⟨e,he,rfl⟩:=List.mem_map.1 ha;have:=I.bl e he;simp at hb;omega
  ·show e.2<S.ck+1
   rcases List.mem_append.1 he with he|he
   ·have:=I.bl e he;omega
   ·simp at he;subst he;exact Nat.lt_succ_self _
  ·show(S.sm++_).length<=n+1
   have:=I.ln;simp;omega
  ·rcases List.mem_append.1 he with he|he
   ·exact I.kl e he
   ·simp at he;subst he;exact hx
 unfold Flo.act Flo.old Flo.startR Flo.finishR;repeat' split
 all_goals first|exact hs _ _ _|exact I.sub (List.Sublist.refl _) rfl|exact I.sub (ziP _ _) rfl
theorem ztP {S:Flo}{n:Nat}(I:SmI S n)(steps:List Nm)(tries:Int)(i:Nat){x:Ent}(hx:x.site.length<=1000000):SmI (S.step steps tries i x) (n+1):=by
 have J:=ztO I steps tries hx
 unfold Flo.step;split
 ·exact⟨J.bn,J.bl,J.ln,J.kl⟩
 ·exact J
theorem SmI.up {S:Flo}{n:Nat}(I:SmI S n):SmI S (n+1):=I.sub (List.Sublist.refl _) rfl
theorem z8f (steps:List Nm)(tries:Int)(h0:steps≠[]):∀(l:List (Ent×Bool)) (S:Flo) (i n:Nat),FlI S steps n->SmI S n->(∀y∈l,y.1.site.length<=1000000) ->
 FlI (Flo.go steps tries S i l) steps (n+l.length)/\SmI (Flo.go steps tries S i l) (n+l.length)
 | [],S,i,n,I,J,_=>⟨I,J⟩
 | (x,c)::r,S,i,n,I,J,hx=>by
  have e1:Flo.go steps tries S i ((x,c)::r)=if c=false∨x.kind=7 then Flo.go steps tries S (i+1) r else Flo.go steps tries (S.step steps tries i x) (i+1) r:=rfl
  rw[e1,List.length_cons,show n+(r.length+1)=(n+1)+r.length by omega]
  have hr:=λy hy=>hx y (List.mem_cons_of_mem (x,c) hy)
  by_cases hs:c=false∨x.kind=7
  ·rw[if_pos hs]
   exact z8f steps tries h0 r S (i+1) (n+1) I.up J.up hr
  ·rw[if_neg hs]
   exact z8f steps tries h0 r _ (i+1) (n+1) (cZ (tries:=tries) I h0 i x).1 (ztP J steps tries i (hx (x,c) (List.mem_cons_self ..))) hr
theorem EM {steps:List Nm}(tries:Int)(h0:steps≠[]){l:List Ent}(hl:∀ x∈l,x.site.length<=1000000):FlI (jB steps tries l) steps l.length/\SmI (jB steps tries l) l.length:=by
 have:=z8f steps tries h0 (uC l) IF 0 0 (IQ steps) smI0 (λy hy=>hl y.1 (List.of_mem_zip hy).1)
 rw[uH,Nat.zero_add]at this;exact this
def OK (e:Nm × Nm):PV:=.agg [.str e.1,.str e.2]
abbrev IE (l:List (Nm × Nm)):AV:=.p (.sl (some 2) (l.map OK))
attribute [-go_sem] TA UA ZA CB
attribute [local go_sem] ID WD kE KE oF UF pG qG pF rG sG tG uG vG xG yG
def z7X (F:Flo):List (Nm×Nm):=(cP (F.sm.map λe=>e.1.1)).map λs=>(s,(mA (asS F.sm) s).getD [])
theorem zsk {b i n:Nat}{e:Int}{sh:Sh}{P:jA}{H:aA}{x:Esc}{xs:List PV}(hx:∀ y∈x,b<=y.1)(hi:b<=i)(gi:H[i]?=some (.row sh xs 0))(hn:n=xs.length)
 (k:P (.tup [.p (.sl sh xs),AI e]) (H.take b) []):kD false b P (some [.own i n 0 n,AI e]) H x:=by
 subst hn;have w1:win xs 0 xs.length=xs:=WG rfl
 have r1:rd H (.own i xs.length 0 xs.length)=some (sh,xs):=by simp [rd,gi,w1]
 rw[sH (v:=.tup [.p (.sl sh xs),AI e]) hx (by simp [aB,cE,dB,hi,r1]) (by simp [AV.top,AV.tops])]
 exact k
end
section
variable {h:aA} {K:jA}
abbrev kC:Int->PV:=λn=>.int .i64 n
abbrev vC:Int->AV:=λn=>AI n
theorem zcz:∀ (bs:nB)(q i:Nat)(e:Ent × Sta),bs[i]?=some e->(rB q bs)[i]?=some (e.1.board,q+(3*i+2))
 | [],q,i,e,h=>by simp at h
 | y::r,q,0,e,h=>by simp at h;subst h;rfl
 | y::r,q,i+1,e,h=>by
  have:=zcz r (q+3) i e (by simpa using h)
  simp only[rB,List.getElem?_cons_succ,this];rw[show q+3+(3*i+2)=q+(3*(i+1)+2) by omega]
attribute [-go_sem] TA UA ZA CB ZB WB
def GC (h:aA)(steps:List Nm)(tries:Int)(m:List (Int × Int)):aA:=h++[.box [OA steps,AI tries],lA kC vC m]
section
variable {steps:List Nm} {tries:Int} {m m':List (Int × Int)} {o0 o1 o2 o3 o4 o5 o6 o7 o:Obj} {B l l2:aA} {G:Nat}
end
def HC (h:aA)(steps:List Nm)(tries:Int)(F:Flo)(G:Nat)(m:List (Int × Int))(l:aA):aA:=
 FH (GC h steps tries m) (flB steps tries) (lA PV.str cC (rB (G+8) F.bs)) (pC F.sm F.ck) (.row (some 5) (F.ends.map EndP.pv) 0) (.row (some 3) (F.runs.map RunP.pv) 0) (.row none (F.ref.map eI) 0) (.row none (F.why.map eI) 0)
  (.box [OA steps,AI tries,.mp (G+1),.mp (G+2),.own (G+3) F.ends.length 0 F.ends.length,.own (G+4) F.runs.length 0 F.runs.length,.own (G+5) F.ref.length 0 F.ref.length,.own (G+6) F.why.length 0 F.why.length]) (xA F.bs) l
section
variable {steps:List Nm} {tries:Int} {F:Flo} {m m':List (Int × Int)} {o:Obj} {l l2:aA} {G:Nat}
end
end
section
attribute [-go_sem] PV.cells splice
variable {h:aA} {K:jA}
theorem zbT (id n:Nat)(l tl:List PV)(hn:n=l.length+tl.length)(hs:VD none l)(hl:l.length<=1000)(hh:h[id]?=some (.row none (l++tl) 0)){g:Nat}{caps:List AV}{c:PV->PV->Int}(hc:oP g caps c l id h) :
 gA X lK [.own id n 0 l.length,AI 0,AI l.length,.fn g caps] h K=K (.tup []) (h.set id (.row none (xB (ltC c) l++tl) 0)) []:=by
 refine sA ?_;rw[zhI];have hid:=oH hh
 have hst:∀o,(h.set id o)[id]?=some o:=λo=>nI hid
 simp only[aV,go_sem,show IntKind.i64.wrap 1=1 from rfl]
 refine DA (λi:Nat=>⟨[(0,.own id n 0 l.length),(1,AI 0),(2,AI l.length),(3,.fn g caps),(8,AI i)],h.set id (.row none ((DD (ltC c) (l.take i)).reverse++(l.drop i++tl)) 0),[]⟩) (λi=>1<=i/\(i<=l.length∨i=1)) (λi=>l.length-i) 1 ?_ (by simp) ?_
 ·have:(DD (ltC c) (l.take 1)).reverse++(l.drop 1++tl)=l++tl:=by cases l <;> rfl
  rw[this,XK hh];rfl
 rintro i ⟨hi1,hi2⟩
 rcases Nat.lt_or_ge i l.length with hlt|hge
 ·simp only[go_sem,hlt]
  have hxl:l[i]∈l:=List.getElem_mem hlt
  generalize hx:l[i]=x at *;generalize hR:DD (ltC c) (l.take i)=R;have hRl:R.length=i:=by rw[<-hR,z5m];simp;omega
  have hRm:∀z∈R,z∈l:=λz hz=>List.mem_of_mem_take ((TQ (ltC c) (l.take i)).mem_iff.1 (by rw[hR];exact hz))
  have hdrop:l.drop i=x::l.drop (i+1):=by rw[<-hx];exact List.drop_eq_getElem_cons hlt
  have hnext:DD (ltC c) (l.take (i+1))=VB (ltC c) x R:=by rw[z5n _ _ _ hlt,hR,hx]
  refine DA (λt:List PV×List PV=>⟨[(0,.own id n 0 l.length),(1,AI 0),(2,AI l.length),(3,.fn g caps),(8,AI i),(9,AI t.1.length)],h.set id (.row none (t.1.reverse++x::t.2) 0),[]⟩)
   (λt=>∃B,R=B++t.1/\t.2=B.reverse++(l.drop (i+1)++tl)/\∀b∈B,ltC c x b=true) (λt=>t.1.length) (R,l.drop (i+1)++tl) (by rw[hdrop,hRl];rfl) ⟨[],rfl,rfl,by simp⟩ ?_
  rintro⟨A,C⟩ ⟨B,q1,q2,q3⟩
  dsimp only at q1 q2 q3;have hlen:(A.reverse++x::C).length=n:=by
   have:R.length=B.length+A.length:=by rw[q1];simp
   rw[q2];simp;omega
  have hBA:B.length+A.length<l.length:=by
   have:R.length=B.length+A.length:=by rw[q1];simp
   omega
  have hln:l.length<=n:=by omega
  have w1:IntKind.i64.wrap ((i:Int)+1)=((i+1:Nat):Int):=rA _ (by omega) (by omega)
  cases A with
  | nil=>
   have hd:VB (ltC c) x R=B++[x]:=by rw[q1];exact IM (ltC c) x [] B q3 (λy r h=>by cases h)
   simp only[go_sem,Int.lt_irrefl,w1];refine⟨i+1,?_,by omega,by omega⟩
   simp only[hnext,hd,q2,List.reverse_append,List.reverse_nil,List.nil_append,List.reverse_cons,List.append_assoc,List.cons_append]
  | cons y A=>
   have hyl:y∈l:=hRm y (by rw[q1];simp)
   have g1:=z5j (y::A) C x
   have g2:=z5k A C x y
   have sw:=z5l A C x y
   simp only[List.length_cons]at hBA;generalize hrow:(y::A).reverse++x::C=row at *;simp only[List.length_cons]at g1;have w2:IntKind.i64.wrap (((A.length+1:Nat):Int)-1)=(A.length:Int):=by rw[rA _ (by omega) (by omega)];omega
   have p1:(0:Int)<((A.length+1:Nat):Int):=by omega
   have b1:A.length+1<l.length:=by omega
   have b2:A.length<l.length:=by omega
   have cx:=oI (hs x hxl)
   have cy:=oI (hs y hyl)
   have hcc:=λo K=>hc o x hxl y hyl K
   by_cases hxy:c x y<0
   ·have g3:(row.set (A.length+1) y)[A.length]?=some y:=by rw[List.getElem?_set_ne (by omega),g2]
    have lx:=ZK (hs x hxl)
    have ly:=ZK (hs y hyl)
    have sx:=YK (hs x hxl)
    have sy:=YK (hs y hyl)
    simp only[kA]at lx ly;have t1:=λi xs h1=>aL (hs x hxl) (hs y hyl) id i 0 xs h1
    have t2:=λi xs h1=>aL (hs y hyl) (hs x hxl) id i 0 xs h1
    simp only[go_sem,hst,p1,hlen,g1,g2,g3,w2,b1,b2,hln,cx,cy,hcc,hxy,lx,ly,sx,sy,t1,t2,sw];refine⟨(A,y::C),rfl,⟨B++[y],by simp [q1],by simp [q2],λb hb=>?_⟩,by simp⟩
    rw[List.mem_append,List.mem_singleton]at hb;rcases hb with hb|rfl
    ·exact q3 b hb
    ·simpa [ltC] using hxy
   ·have hd:VB (ltC c) x R=B++x::y::A:=by rw[q1];exact IM (ltC c) x (y::A) B q3 (λz r h=>by cases h;simpa [ltC] using hxy)
    simp only[go_sem,hst,p1,hlen,g1,g2,w2,b1,b2,hln,cx,cy,hcc,hxy,w1];refine⟨i+1,?_,by omega,by omega⟩
    simp only[hnext,hd,<-hrow,q2,List.reverse_append,List.reverse_cons,List.append_assoc,List.cons_append,List.nil_append]
 ·have hge':¬i<l.length:=by omega
  have e1:l.take i=l:=List.take_of_length_le hge
  have e2:l.drop i=[]:=List.drop_of_length_le hge
  simp only[go_sem,hge',e1,e2];rfl
theorem zf4 (id:Nat)(l:List PV)(hs:VD none l)(hl:l.length<=12)(hh:h[id]?=some (.row none l 0)){g:Nat}{caps:List AV}{c:PV->PV->Int}(hc:oP g caps c l id h) :
 gA X yQ [.own id l.length 0 l.length,.fn g caps] h K=K (.tup []) (h.set id (.row none (xB (ltC c) l) 0)) []:=by
 refine sA ?_;rw[zhE];have w0:IntKind.u64.wrap (l.length:Int)=l.length:=ze6 _ (by omega) (by omega)
 obtain⟨m,hm⟩:=zco (l.length:Int) (by omega) (by omega)
 have is:=λK=>zbT (h:=h) (K:=K) id l.length l [] rfl hs (by omega) (by rw[List.append_nil];exact hh) hc
 simp only[List.append_nil]at is;have key:∀K:jA,gA X mK [.own id l.length 0 l.length,AI 0,AI l.length,AI m,.fn g caps] h K=K (.tup []) (h.set id (.row none (xB (ltC c) l) 0)) []:=by
  intro K;refine sA ?_;rw[zhK];simp only[cV,go_sem];refine DA (λ_:Unit=>⟨[(0,.own id l.length 0 l.length),(1,AI 0),(2,AI l.length),(3,AI m),(4,.fn g caps),(10,AB true),(11,AB true)],h,[]⟩) (λ_=>True) (λ_=>0) () rfl trivial ?_
  intro _ _;have w1:IntKind.i64.wrap ((l.length:Int)-0)=l.length:=by rw[rA _ (by omega) (by omega)];omega
  have b1:((l.length:Int)<=12):=by omega
  simp only[go_sem,w1,b1,is]
 simp only[WU,go_sem,w0,hm,key]
end
def gtE (a b:Ent):Prop:=0<xC b a
theorem JI {x y:Int}:0<uB x y↔y<x:=by unfold uB;split <;> (try split) <;> omega
theorem KI {x y:Int}:uB x y=0↔x=y:=by unfold uB;split <;> (try split) <;> omega
theorem zoS {a b c:Ent}(h1:gtE a b)(h2:gtE b c):gtE a c:=by
 unfold gtE xC at *;have lt1:∀{x y:List UInt8},0<LA x y↔LA y x<0:=λ{x y}=>by rw[zP y x];omega
 by_cases t1:uB b.time a.time=0
 ·rw[if_neg (by simp [t1])]at h1
  have e1:=KI.1 t1
  by_cases t2:uB c.time b.time=0
  ·rw[if_neg (by simp [t2])]at h2
   have e2:=KI.1 t2
   rw[if_neg (by rw[e2,e1];simp [KI])]
   by_cases s1:LA b.site a.site=0
   ·rw[if_neg (by simp [s1])]at h1
    have f1:=uE s1
    by_cases s2:LA c.site b.site=0
    ·rw[if_neg (by simp [s2])]at h2
     have f2:=uE s2
     rw[if_neg (by rw[f2,f1];simp [AP])]
     rw[JI]at *;omega
    ·rw[if_pos s2]at h2
     rw[f1]at s2 h2;rw[if_pos s2];exact h2
   ·rw[if_pos s1]at h1
    by_cases s2:LA c.site b.site=0
    ·have f2:=uE s2
     rw[f2,if_pos s1];exact h1
    ·rw[if_pos s2]at h2
     have q:=FT (lt1.1 h1) (lt1.1 h2)
     have q2:=lt1.2 q
     rw[if_pos (by omega)];exact q2
  ·rw[if_pos t2,JI]at h2
   have:¬uB c.time a.time=0:=λz=>by have:=KI.1 z;omega
   rw[if_pos this,JI];omega
 ·rw[if_pos t1,JI]at h1
  by_cases t2:uB c.time b.time=0
  ·have e2:=KI.1 t2
   have:¬uB c.time a.time=0:=λz=>by have:=KI.1 z;omega
   rw[if_pos this,JI];omega
  ·rw[if_pos t2,JI]at h2
   have:¬uB c.time a.time=0:=λz=>by have:=KI.1 z;omega
   rw[if_pos this,JI];omega
theorem znV (p:Option Ent)(x:Ent)(r:List Ent):wD p (x::r)=(if TB x≠0 then TB x else if(p.elim false λq=>decide (xC x q<=0))=true then 7 else wD (some x) r):=by cases p <;> rfl
theorem zaF:∀ (l:List Ent)(p:Option Ent),wD p l=0↔(∀x∈l,TB x=0)/\(p.toList++l).Pairwise gtE∨l=[]
 | [],p=>by simp [wD]
 | x::r,p=>by
  have ih:=zaF r (some x)
  rw[znV];have ord:((p.elim false λq=>decide (xC x q<=0))=true)↔¬ ∀q∈p.toList,gtE q x:=by
   cases p with
   | none=>simp
   | some q=>simp [gtE]
  constructor
  ·intro h
   left;by_cases h1:TB x=0
   ·rw[if_neg (by simp [h1])]at h
    by_cases h2:(p.elim false λq=>decide (xC x q<=0))=true
    ·rw[if_pos h2]at h;exact absurd h (by decide)
    ·rw[if_neg h2]at h
     have h2':∀q∈p.toList,gtE q x:=by
      rw[ord]at h2;exact Classical.not_not.1 h2
     have hr:(x::r).Pairwise gtE:=by
      rcases ih.1 h with⟨_,q⟩|q
      ·exact q
      ·rw[q];exact List.pairwise_singleton ..
     refine⟨λy hy=>?_,?_⟩
     ·rcases List.mem_cons.1 hy with e|e
      ·rw[e];exact h1
      ·rcases ih.1 h with⟨q,_⟩|q
       ·exact q y e
       ·rw[q]at e;cases e
     ·cases p with
      | none=>exact hr
      | some q=>
       refine List.pairwise_cons.2 ⟨λy hy=>?_,hr⟩
       have hq:=h2' q (by simp)
       rcases List.mem_cons.1 hy with e|e
       ·rw[e];exact hq
       ·exact zoS hq ((List.pairwise_cons.1 hr).1 y e)
   ·rw[if_pos h1]at h;exact absurd h h1
  ·intro h
   rcases h with⟨h1,h2⟩|h
   ·have hx:=h1 x (List.mem_cons_self ..)
    rw[if_neg (by simp [hx])]
    have hr:(x::r).Pairwise gtE:=(List.pairwise_append.1 h2).2.1
    have hn:¬(p.elim false λq=>decide (xC x q<=0))=true:=by
     rw[ord];exact Classical.not_not.2 λq hq=>(List.pairwise_append.1 h2).2.2 q hq x (List.mem_cons_self ..)
    rw[if_neg hn];exact ih.2 (.inl ⟨λy hy=>h1 y (List.mem_cons_of_mem _ hy),hr⟩)
   ·cases h
theorem ze5:∀ (l seen:List Ent),HE seen l=false↔(∀x∈l,∀o∈seen,AD o x=false)/\l.Pairwise λo x=>AD o x=false
 | [],seen=>by simp [HE]
 | x::r,seen=>by
  have ih:=ze5 r (seen++[x])
  unfold HE;by_cases h:seen.any (λo=>AD o x)=true
  ·rw[if_pos h]
   constructor
   ·intro q;cases q
   ·rintro⟨q,_⟩
    obtain⟨o,ho,hs⟩:=List.any_eq_true.1 h;rw[q x (List.mem_cons_self ..) o ho]at hs;cases hs
  ·rw[if_neg h,ih,List.pairwise_cons]
   have hs:∀o∈seen,AD o x=false:=by simpa using h
   constructor
   ·rintro⟨q1,q2⟩
    refine⟨λy hy o ho=>?_,λy hy=>q1 y hy x (by simp),q2⟩
    rcases List.mem_cons.1 hy with e|e
    ·rw[e];exact hs o ho
    ·exact q1 y e o (by simp [ho])
   ·rintro⟨q1,q2,q3⟩
    refine⟨λy hy o ho=>?_,q3⟩
    rcases List.mem_append.1 ho with e|e
    ·exact q1 y (List.mem_cons_of_mem _ hy) o e
    ·rw[List.mem_singleton.1 e];exact q2 y hy
theorem LL (l:List Ent):PB l=0↔l.length<=2000/\(∀x∈l,TB x=0)/\l.Pairwise gtE/\l.Pairwise λo x=>AD o x=false:=by
 have e0:wD none l=0↔(∀x∈l,TB x=0)/\l.Pairwise gtE:=by
  rw[zaF];constructor
  ·rintro (h|h)
   ·exact h
   ·rw[h];simp
  ·intro h;exact .inl h
 have t0:=ze5 l []
 unfold PB;constructor
 ·intro h
  split at h
  ·cases h
  rename_i h1;split at h
  ·rename_i h2;exact absurd h h2
  rename_i h2;split at h
  ·cases h
  rename_i h3;have h2':wD none l=0:=by simpa using h2
  have h3':HE [] l=false:=by simpa using h3
  exact⟨by omega,(e0.1 h2').1,(e0.1 h2').2,(t0.1 h3').2⟩
 ·rintro⟨h1,h2,h3,h4⟩
  rw[if_neg (by omega),if_neg (by simp [e0.2 ⟨h2,h3⟩]),if_neg (by rw[t0.2 ⟨λ_ _ _ h=>(by cases h),h4⟩];simp)]
theorem znU {l m:List Ent}(h:m.Sublist l)(hl:PB l=0):PB m=0:=by
 rw[LL]at *;obtain⟨a,b,c,d⟩:=hl;exact⟨by have:=h.length_le;omega,λx hx=>b x (h.subset hx),c.sublist h,d.sublist h⟩
theorem early {l:List Ent}(hv:∀ x∈l,EntV x)(hf:PB l=0):∀x∈l,x.time<=1000/\x.site≠[122,122]:=λx hx=>by
 have:=(YP (znT hf x hx)).t;have z:=(hv x hx).z
 exact⟨by omega,z.1⟩
def CH:Int->Int->List RunP->Prop
 | lo,hi,[]=>lo<=hi
 | lo,hi,r::rest=>lo<=r.frm/\r.frm<=r.til/\0<=r.til/\CH r.til hi rest
theorem z89:∀ {l:List RunP}{lo hi hi':Int},CH lo hi l->hi<=hi'->CH lo hi' l
 | [],lo,hi,hi',h,g=>by unfold CH at *;omega
 | r::rest,lo,hi,hi',h,g=>⟨h.1,h.2.1,h.2.2.1,z89 h.2.2.2 g⟩
theorem z8A:∀ {l:List RunP}{lo hi:Int}{r:RunP},CH lo hi l->hi<=r.frm->r.frm<=r.til->0<=r.til->CH lo r.til (l++[r])
 | [],lo,hi,r,h,a,b,c=>by unfold CH at h;exact⟨by omega,b,c,Int.le_refl _⟩
 | y::rest,lo,hi,r,h,a,b,c=>⟨h.1,h.2.1,h.2.2.1,z8A h.2.2.2 a b c⟩
theorem z8B:∀ {l:List RunP}{lo hi:Int},CH lo hi l->∀r∈l,0<=r.til
 | [],_,_,_,r,hr=>by cases hr
 | y::rest,lo,hi,h,r,hr=>by
  rcases List.mem_cons.1 hr with e|e
  ·rw[e];exact h.2.2.1
  ·exact z8B h.2.2.2 r e
def RB (frm_ til_:Int)(r:RunP):Int:=max 0 (min (if r.til<0 then til_ else r.til) til_-max r.frm frm_)
def NC (frm_ til_:Int):List RunP->Int
 | []=>0
 | r::rest=>RB frm_ til_ r+NC frm_ til_ rest
theorem z5D (a b:Int)(r:RunP):0<=RB a b r:=by unfold RB;omega
theorem z5E (a b:Int):∀l,0<=NC a b l
 | []=>Int.le_refl _
 | r::rest=>by have:=z5D a b r;have:=z5E a b rest;unfold NC;omega
theorem zcQ (a b:Int):∀l m,NC a b (l++m)=NC a b l+NC a b m
 | [],m=>by simp [NC]
 | r::rest,m=>by have:=zcQ a b rest m;simp only[List.cons_append,NC,this];omega
def aP (rs:List RunP)(busy:Bool)(T:Int):Prop:=if busy then ∃pre r,rs=pre++[r]/\CH 0 r.frm pre/\r.til<0/\0<=r.frm/\r.frm<=T else CH 0 T rs
theorem zej {rs:List RunP}{busy:Bool}{T T':Int}(h:aP rs busy T)(g:T<=T'):aP rs busy T':=by
 unfold aP at *;cases busy with
 | true=>
  obtain⟨pre,r,a,b,c,d,e⟩:=h;exact⟨pre,r,a,b,c,d,by omega⟩
 | false=>exact z89 h g
def ofS (s:Nm)(l:List RunP):List RunP:=l.filter λr=>decide (r.site=s)
theorem zcL {s site:Nm}(h:s≠site)(t:Int):∀l,ofS s (bD l site t)=ofS s l
 | []=>rfl
 | r::rest=>by
  have ih:=zcL h t rest
  unfold ofS bD at *;simp only[List.map_cons,List.filter_cons];rw[ih];by_cases e:r.site=site/\r.til<0
  ·rw[if_pos e]
   have:¬r.site=s:=λz=>h (z ▸ e.1)
   simp [this]
  ·rw[if_neg e]
theorem zcK {site:Nm}(t:Int):∀l,ofS site (bD l site t)=(ofS site l).map λr=>if r.til<0 then { r with til:=t } else r
 | []=>rfl
 | r::rest=>by
  have ih:=zcK (site:=site) t rest
  unfold ofS bD at *;simp only[List.map_cons,List.filter_cons];by_cases e:r.site=site
  ·by_cases g:r.til<0
   ·simp [e,g,ih]
   ·simp [e,g,ih]
  ·simp [e,ih]
theorem zqZ {pre:List RunP}{t:Int}(h:∀ r∈pre,0<=r.til):(pre.map λr=>if r.til<0 then { r with til:=t } else r)=pre:=by
 conv=>rhs;rw[<-List.map_id pre]
 apply List.map_congr_left
 intro r hr;have:=h r hr;rw[if_neg (by omega)]
 rfl
structure BI (p:FlP) (T:Int):Prop where
 inv:∃q,Inv p q
 st:∀s,aP (ofS s p.runs) (mA p.sites s).isSome T
 si:∀b st,mA p.bs b=some st->0<=st.since/\st.since<=T
 en:∀e∈p.ends,0<=e.frm/\e.frm<=e.til/\e.til<=T
theorem BI.mono {p:FlP}{T T':Int}(h:BI p T)(g:T<=T'):BI p T':=
 ⟨h.inv,λs=>zej (h.st s) g,λb st hb=>by have:=h.si b st hb;omega,λe he=>by have:=h.en e he;omega⟩
theorem bi0:BI ⟨[],[],[],[]⟩ 0:=
 ⟨⟨_,inv0⟩,λs=>(show CH 0 0 [] from Int.le_refl _),λb st h=>(by cases h),λe he=>(by cases he)⟩
theorem z96 {p:FlP}{T t:Int}(B:BI p T)(ht:T<=t){board:Nm}{b:Sta}(hb:mA p.bs board=some b)(h2:b.state=2)(s:Nm):aP (ofS s (bD p.runs b.site t)) (mA (gH p.sites b.site) s).isSome t:=by
 obtain⟨q,I⟩:=B.inv;rw[z5c];by_cases e:s=b.site
 ·subst e
  rw[if_pos rfl];have hs:mA p.sites b.site=some board:=(I.sts b.site board).2 ⟨b,hb,h2,rfl⟩
  have h:=B.st b.site
  rw[hs]at h;obtain⟨pre,r,a1,a2,a3,a4,a5⟩:=h;rw[zcK,a1,List.map_append,zqZ (z8B a2)];show CH 0 t (pre++_)
  simp only[List.map_cons,List.map_nil,if_pos a3];exact z8A (r:={ r with til:=t }) a2 (Int.le_refl _) (by dsimp only;omega) (by dsimp only;omega)
 ·rw[if_neg e,zcL e]
  exact zej (B.st s) ht
theorem zge (steps:List Nm)(tries:Int){p:FlP}{T:Int}(B:BI p T)(x:Ent)(w:EntW x)(h7:x.kind≠7)(hT:T<=x.time):BI (EC steps tries p x).1 x.time:=by
 obtain⟨q,I⟩:=B.inv;have inv':∃q',Inv (EC steps tries p x).1 q':=⟨_,(UV steps tries I x w.b w.s w.t w.k h7).2⟩
 have t0:=w.t
 have M:=B.mono hT
 have putSi:∀(k:Nm) (v:Sta),0<=v.since->v.since<=x.time->∀b st,mA (JA p.bs k v) b=some st->0<=st.since/\st.since<=x.time:=λk v h1 h2 b st hb=>by
  rw[aJ]at hb;split at hb
  ·cases hb;exact⟨h1,h2⟩
  ·exact M.si b st hb
 revert inv'
 unfold EC;by_cases k1:x.kind=1
 ·rw[if_pos k1]
  cases hb:mA p.bs x.board with
  | some b=>intro inv';exact M
  | none=>
   intro inv';exact⟨inv',M.st,putSi _ _ t0 (Int.le_refl _),M.en⟩
 rw[if_neg k1];cases hb:mA p.bs x.board with
 | none=>intro inv';exact M
 | some b=>
  have hsi:=B.si x.board b hb
  dsimp only;by_cases k2:x.kind=2
  ·rw[if_pos k2]
   by_cases a1:b.state≠1
   ·rw[if_pos a1];intro inv';exact M
   rw[if_neg a1];by_cases a2:x.step≠b.step
   ·rw[if_pos a2];intro inv';exact M
   rw[if_neg a2];by_cases a3:(mA p.sites x.site).isSome=true
   ·rw[if_pos a3];intro inv';exact M
   rw[if_neg a3];intro inv';refine⟨inv',λs=>?_,putSi _ _ t0 (Int.le_refl _),M.en⟩
   dsimp only;rw[aJ];have hfil:ofS s (p.runs++[⟨x.site,x.time,-1⟩])=ofS s p.runs++(if x.site=s then [⟨x.site,x.time,-1⟩] else []):=by
    unfold ofS;rw[List.filter_append,List.filter_cons];by_cases e:x.site=s <;> simp [e]
   rw[hfil];by_cases e:s=x.site
   ·subst e
    rw[if_pos rfl,if_pos rfl];have h:=M.st x.site
    have hn:(mA p.sites x.site).isSome=false:=by simpa using a3
    rw[hn]at h;exact⟨_,_,rfl,h,by dsimp only;omega,t0,Int.le_refl _⟩
   ·have e':¬x.site=s:=λz=>e z.symm
    rw[if_neg e,if_neg e',List.append_nil];exact M.st s
  rw[if_neg k2];by_cases k34:x.kind=3∨x.kind=4
  ·rw[if_pos k34]
   by_cases a1:b.state≠2
   ·rw[if_pos a1];intro inv';exact M
   rw[if_neg a1];by_cases a2:b.site≠x.site
   ·rw[if_pos a2];intro inv';exact M
   rw[if_neg a2];intro inv';have h2:b.state=2:=by simpa using a1
   refine⟨inv',λs=>z96 B hT hb h2 s,putSi _ _ ?_ ?_,λe he=>?_⟩
   ·unfold OC;split
    ·split <;> exact t0
    ·exact t0
   ·unfold OC;split
    ·split <;> exact Int.le_refl _
    ·exact Int.le_refl _
   ·rcases List.mem_append.1 he with h|h
    ·exact M.en e h
    ·rw[List.mem_singleton.1 h];dsimp only;omega
  rw[if_neg k34];by_cases k5:x.kind=5
  ·rw[if_pos k5]
   by_cases a1:b.state≠3
   ·rw[if_pos a1];intro inv';exact M
   rw[if_neg a1];intro inv';exact⟨inv',M.st,putSi _ _ t0 (Int.le_refl _),M.en⟩
  rw[if_neg k5];by_cases a1:b.state=4∨b.state=5
  ·rw[if_pos a1];intro inv';exact M
  rw[if_neg a1];by_cases h2:b.state=2
  ·rw[if_pos h2]
   intro inv';exact⟨inv',λs=>z96 B hT hb h2 s,putSi _ _ t0 (Int.le_refl _),M.en⟩
  ·rw[if_neg h2]
   intro inv';exact⟨inv',M.st,putSi _ _ t0 (Int.le_refl _),M.en⟩
theorem z1n (steps:List Nm)(tries:Int)(h0:steps≠[]):∀(l:List (Ent×Bool)) (S:Flo) (i n:Nat) (T Z:Int),FlI S steps n->BI S.P T->(∀y∈l,EntW y.1)->(∀y∈l,T<=y.1.time/\y.1.time<=Z)->T<=Z->(l.map λy=>y.1.time).Pairwise (· <= ·)->BI (Flo.go steps tries S i l).P Z
 | [],S,i,n,T,Z,I,B,_,_,hz,_=>B.mono hz
 | (x,c)::r,S,i,n,T,Z,I,B,hw,ht,hz,hp=>by
  have e1:Flo.go steps tries S i ((x,c)::r)=if c=false∨x.kind=7 then Flo.go steps tries S (i+1) r else Flo.go steps tries (S.step steps tries i x) (i+1) r:=rfl
  have hwr:=λy hy=>hw y (List.mem_cons_of_mem (x,c) hy)
  have hx:=ht (x,c) (List.mem_cons_self ..)
  rw[List.map_cons,List.pairwise_cons]at hp;rw[e1];by_cases hs:c=false∨x.kind=7
  ·rw[if_pos hs]
   exact z1n steps tries h0 r S (i+1) (n+1) T Z I.up B hwr (λy hy=>ht y (List.mem_cons_of_mem _ hy)) hz hp.2
  ·rw[if_neg hs]
   obtain⟨s1,s2,_⟩:=cZ (tries:=tries) I h0 i x;have h7:x.kind≠7:=λe=>hs (.inr e)
   have B':=zge steps tries B x (hw (x,c) (List.mem_cons_self ..)) h7 hx.1
   rw[<-s2]at B';refine z1n steps tries h0 r _ (i+1) (n+1) x.time Z s1 B' hwr (λy hy=>⟨?_,(ht y (List.mem_cons_of_mem _ hy)).2⟩) hx.2 hp.2
   exact hp.1 y.1.time (List.mem_map_of_mem (f:=λy:Ent×Bool=>y.1.time) hy)
theorem zbS {a b:Ent}(h:gtE a b):a.time<=b.time:=by
 unfold gtE xC at h;by_cases t:uB b.time a.time=0
 ·have:=KI.1 t;omega
 ·rw[if_pos t,JI]at h;omega
theorem zgd (steps:List Nm)(tries:Int)(h0:steps≠[]){l:List Ent}(hf:PB l=0){Z:Int}(h1:∀ x∈l,x.time<=Z)(hZ:0<=Z):BI (jB steps tries l).P Z:=by
 have hfl:=(LL l).1 hf
 refine z1n steps tries h0 (uC l) IF 0 0 0 Z (IQ steps) bi0 (λy hy=>BV (hfl.2.1 y.1 (List.of_mem_zip hy).1)) (λy hy=>?_) hZ ?_
 ·have hm:=(List.of_mem_zip hy).1
  exact⟨(YP (hfl.2.1 y.1 hm)).t.1,h1 y.1 hm⟩
 ·have:(uC l).map (λy=>y.1.time)=l.map Ent.time:=by
   unfold uC;rw[show(λy:Ent×Bool=>y.1.time)=Ent.time ∘ Prod.fst from rfl,<-List.map_map,List.map_fst_zip (by rw[UE];exact Nat.le_refl _)]
  rw[this,List.pairwise_map];exact hfl.2.2.1.imp zbS
section
variable {h:aA} {K:jA}
attribute [-go_sem] TA UA ZA CB
section
variable {fb:Obj} {steps:List Nm} {tries:Int} {S:Flo} {o o':Obj} {l:aA}
theorem uS:(FS h fb steps tries S []).length=h.length+(8+3*S.bs.length):=tS fb steps tries S []
theorem oS {l2:aA}:FS h fb steps tries S []++l2=FS h fb steps tries S l2:=by unfold FS;rw[WD];rfl
theorem rS:(FS h fb steps tries S [o])[h.length+(8+3*S.bs.length)]?=some o:=by unfold FS;exact tl1 (l:=[])
theorem vS:(FS h fb steps tries S [o]).set (h.length+(8+3*S.bs.length)) o'=FS h fb steps tries S [o']:=by
 unfold FS;have:=qP (h:=h) (B:=xA S.bs) (l:=[o]) (o:=o') (o0:=fb) (o1:=lA PV.str cC (rB (h.length+8) S.bs)) (o2:=pC S.sm S.ck) (o3:=.row (some 5) (S.ends.map EndP.pv) 0) (o4:=.row (some 3) (S.runs.map RunP.pv) 0) (o5:=.row none (S.ref.map eI) 0) (o6:=.row none (S.why.map eI) 0) (o7:=wbx h steps tries S.ends.length S.runs.length S.ref.length S.why.length) 0;rw[fD]at this;exact this
theorem xS:(FS h fb steps tries S [o]).take (h.length+(8+3*S.bs.length))=FS h fb steps tries S []:=fL (h:=h) fb steps tries S [] [o]
theorem z8G:(FS h fb steps tries S l)[h.length+3]?=some (.row (some 5) (S.ends.map EndP.pv) 0):=by unfold FS;exact oF
theorem pS:(FS h fb steps tries S l)[h.length+4]?=some (.row (some 3) (S.runs.map RunP.pv) 0):=by unfold FS;exact UF
theorem qS:(FS h fb steps tries S l)[h.length+7]?=some (.box [OA steps,AI tries,.mp (h.length+1),.mp (h.length+2),.own (h.length+3) S.ends.length 0 S.ends.length,.own (h.length+4) S.runs.length 0 S.runs.length,.own (h.length+5) S.ref.length 0 S.ref.length,.own (h.length+6) S.why.length 0 S.why.length]):=by unfold FS;exact pF
end
theorem zsQ (a b:Int):gA X dQ [.p (.agg [eI a,eI b])] h K=K (AB (inB 0 a b&&decide (b<=345686400000))) h []:=by
 refine sA ?_;rw[zg7 rfl];cases h1:inB 0 a b with
 | false=>simp only[DP,go_sem,dE,h1,Bool.false_and]
 | true=>simp only[DP,go_sem,dE,h1,Bool.true_and]
def iE (steps:List Nm)(tries:Int)(l:List Ent)(step:Nm)(at_:Int):Int:=if JC steps tries l at_=0 then(if steps.contains step then 0 else 8) else JC steps tries l at_
theorem zdU (steps:List Nm)(tries:Int)(l:List Ent)(O:StOk steps l)(step:Nm)(at_:Int):gA X BM [gB steps tries,EA l,AS step,AI at_] h K=K (AI (iE steps tries l step at_)) h []:=by
 refine sA ?_;rw[zij rfl];have q1:=λh K=>WY (h:=h) (K:=K) steps tries l O at_
 have ct:=λh K=>nS (h:=h) (K:=K) steps (λh' _=>eP _) step (by have:=O.n;omega)
 unfold iE;by_cases h0:JC steps tries l at_=0
 ·rw[if_pos h0]
  cases hc:steps.contains step with
  | true=>
   rw[hc]at ct;simp only[HL,go_sem,↓q1,q1,h0,↓ct,ct];first|done|rfl
  | false=>
   rw[hc]at ct;simp only[HL,go_sem,↓q1,q1,h0,↓ct,ct];first|done|rfl
 ·rw[if_neg h0]
  simp only[HL,go_sem,↓q1,q1,h0]
def qT (steps:List Nm)(tries:Int)(l:List Ent)(site:Nm)(a b:Int):Int×Int:=
 if orL [PC steps tries,PB l]≠0 then(0,orL [PC steps tries,PB l]) else if oB site=false then(0,5) else if(inB 0 a b&&decide (b<=345686400000))=false then(0,1)
 else(NC a b (ofS site (jB steps tries (upL l (b-1))).runs),0)
theorem zcR {a b:Int}{site:Nm}{l:List RunP}{k:Nat}(hk:k<l.length):NC a b (ofS site (l.take (k+1)))=NC a b (ofS site (l.take k))+(if l[k].site=site then RB a b l[k] else 0):=by
 rw[List.take_succ_eq_append_getElem hk];unfold ofS;rw[List.filter_append,zcQ,List.filter_cons];by_cases e:l[k].site=site
 ·simp [e,NC]
 ·simp [e,NC]
theorem z5F {a b:Int}(h:a<=b):∀(l:List RunP),(∀r∈l,True)->NC a b l<=(b-a)*l.length
 | [],_=>by simp [NC]
 | r::rest,_=>by
  have ih:=z5F h rest (λ_ _=>trivial)
  have:RB a b r<=b-a:=by unfold RB;omega
  have e:(b-a)*((r::rest).length:Int)=(b-a)*(rest.length:Int)+(b-a):=by
   rw[List.length_cons];push_cast;rw[Int.mul_add,Int.mul_one]
  unfold NC;omega
theorem zsx (steps:List Nm)(tries:Int)(l:List Ent)(O:StOk steps l)(site:Nm)(hs:site.length<=1000000)(a b:Int)(hbb : -1000000000000<=b/\b<=1000000000000)(hn:orL [PC steps tries,PB l]=0->(jB steps tries (upL l (b-1))).runs.length<=1000)
 (hr:orL [PC steps tries,PB l]=0->∀r∈(jB steps tries (upL l (b-1))).runs,(0<=r.frm/\r.frm<=1000000000000)/\r.til<=1000000000000) :
 gA X oK [gB steps tries,EA l,AS site,.p (.agg [eI a,eI b])] h K=K (.tup [AI (qT steps tries l site a b).1,AI (qT steps tries l site a b).2]) h []:=by
 refine sA ?_;rw[zhO rfl];have q0:=λh K=>zd8 (h:=h) (K:=K) steps tries O.n O.k
 have q1:=λh K=>zd7 (h:=h) (K:=K) l O.e (by have:=O.l;omega)
 have qf:=λh K=>zdA (h:=h) (K:=K) [PC steps tries,PB l] (by simp)
 simp only[AL,List.map_cons,List.map_nil]at qf;have qk:=λh K=>MO (h:=h) (K:=K) site (by omega)
 have qw:=λh K=>zsQ (h:=h) (K:=K) a b
 have w1:IntKind.i64.wrap (b-1)=b-1:=rA _ (by omega) (by omega)
 have q3:=λh K=>XO (h:=h) (K:=K) l (b-1) (by have:=O.l;omega)
 unfold qT;generalize he:orL [PC steps tries,PB l]=e at *;by_cases h0:e=0
 case neg=>
  rw[if_pos h0];simp only[TJ,go_sem,↓q0,q0,↓q1,q1,↓qf,qf,h0];first|done|rfl
 rw[if_neg (by simp [h0])]
 subst h0;have hn:=hn rfl
 have hr:=hr rfl
 have hst:steps≠[]:=by
  intro z;subst z;have:PC [] tries=8:=rfl
  rw[this]at he;simp [orL]at he
 cases h1:oB site with
 | false=>
  rw[if_pos rfl];simp only[TJ,go_sem,↓q0,q0,↓q1,q1,↓qf,qf,↓qk,qk,h1];first|done|rfl
 | true=>
  rw[if_neg (by simp)]
  cases hw:(inB 0 a b&&decide (b<=345686400000)) with
  | false=>
   rw[if_pos rfl];rw[hw]at qw;simp only[TJ,go_sem,↓q0,q0,↓q1,q1,↓qf,qf,↓qk,qk,h1,↓qw,qw];first|done|rfl
  | true=>
  rw[if_neg (by simp)]
  rw[hw]at qw;have hw2:(0<=a/\a<=b)/\b<=345686400000:=by unfold inB at hw;simpa using hw
  obtain⟨⟨ha,hab⟩,hb⟩:=hw2;have q4:=λh K=>TO (h:=h) (K:=K) steps tries O.n hst (upL l (b-1)) (ED O (b-1)).l
  generalize jB steps tries (upL l (b-1))=F at *;obtain⟨g,hg⟩:∃g,h++[Obj.box [OA steps,AI tries],.box [AI a,AI b]]=g:=⟨_,rfl⟩;have gl:g.length=h.length+2:=by rw[<-hg];simp
  have q5:=λK=>q4 (h++[Obj.box [OA steps,AI tries],.box [AI a,AI b]]) K
  have q6:∀K,gA X ND [gB steps tries,EA (upL l (b-1))] (h++[Obj.box [OA steps,AI tries],.box [AI a,AI b]]) K=K (.ref (g.length+7) 0) (FS g (flB steps tries) steps tries F []) (NB g F.bs.length):=λK=>by rw[q5,hg]
  have ex:∀y∈NB g F.bs.length,h.length<=y.1:=λy hy=>by have:=(jH hy).1;omega
  have gp:∀(l2:aA),(FS g (flB steps tries) steps tries F l2)[h.length+1]?=some (.box [AI a,AI b]):=λl2=>by
   rw[<-hg];unfold FS FH
   rw[List.append_assoc,List.getElem?_append_right (by omega)]
   simp
  have pre:∀(l2:aA),(FS g (flB steps tries) steps tries F l2).take h.length=h:=λl2=>by
   rw[<-hg];unfold FS FH
   rw[List.append_assoc,List.take_left]
  simp only[TJ,go_sem,↓q0,q0,↓q1,q1,↓qf,qf,↓qk,qk,h1,↓qw,qw,w1,↓q3,q3,↓q6,q6,qS];refine DA (λk:Nat=>⟨[(2,AS site),(7,.ref (h.length+1) 0),(11,AI (NC a b (ofS site (F.runs.take k)))),(41,.own (g.length+4) F.runs.length 0 F.runs.length),(42,AI F.runs.length),(43,AI k)],FS g (flB steps tries) steps tries F [],NB g F.bs.length⟩) (λk=>k<=F.runs.length) (λk=>F.runs.length-k) 0 rfl (Nat.zero_le _) ?_
  intro k hk;rcases Nat.lt_or_ge k F.runs.length with hlt|hge
  ·have wk:IntKind.i64.wrap ((k:Int)+1)=((k+1:Nat):Int):=rA _ (by omega) (by omega)
   have hgr:=sB RunP.pv hlt
   have hrl:(F.runs.map RunP.pv).length=F.runs.length:=List.length_map ..
   have hrk:=hr _ (List.getElem_mem hlt)
   have os:=zcR (a:=a) (b:=b) (site:=site) hlt
   have ob:NC a b (ofS site (F.runs.take k))<=345686400000000:=by
    have h1:=z5F hab (ofS site (F.runs.take k)) (λ_ _=>trivial)
    have h2:(ofS site (F.runs.take k)).length<=1000:=Nat.le_trans (List.length_filter_le _ _) (by rw[List.length_take];omega)
    have h3:(b-a)*((ofS site (F.runs.take k)).length:Int)<=345686400000*1000:=Int.mul_le_mul (by omega) (by omega) (by omega) (by omega)
    omega
   have ob0:=z5E a b (ofS site (F.runs.take k))
   have on:RB a b F.runs[k]<=345686400000:=by unfold RB;omega
   have on0:=z5D a b F.runs[k]
   have cx:NA (some 3) 0 (RunP.pv F.runs[k])=some (RunP.pv F.runs[k]):=rfl
   have fp:∀r:RunP,RunP.pv r = .agg [.str r.site,eI r.frm,eI r.til]:=λ_=>rfl
   generalize F.runs[k]=r at *;generalize NC a b (ofS site (F.runs.take k))=acc at *;have f1:h.length+1+1<=g.length+(8+3*F.bs.length):=by omega
   have f2:g.length+4+1<=g.length+(8+3*F.bs.length):=by omega
   have w3:IntKind.i64.wrap (acc+RB a b r)=acc+RB a b r:=rA _ (by omega) (by omega)
   have fin:∀n:Int,n=NC a b (ofS site (F.runs.take (k+1)))->∃u,(⟨[(2,AS site),(7,.ref (h.length+1) 0),(11,AI n),(41,.own (g.length+4) F.runs.length 0 F.runs.length),(42,AI F.runs.length),(43,AI ((k+1:Nat):Int))],FS g (flB steps tries) steps tries F [],NB g F.bs.length⟩:St)=⟨[(2,AS site),(7,.ref (h.length+1) 0),(11,AI (NC a b (ofS site (F.runs.take u)))),(41,.own (g.length+4) F.runs.length 0 F.runs.length),(42,AI F.runs.length),(43,AI u)],FS g (flB steps tries) steps tries F [],NB g F.bs.length⟩/\u<=F.runs.length/\F.runs.length-u<F.runs.length-k:=λn hn=>⟨k+1,by rw[hn],by omega,by omega⟩
   by_cases t0:r.til<0
   ·by_cases es:r.site=site
    ·rw[if_pos es]at os
     have w2:IntKind.i64.wrap (b-max r.frm a)=b-max r.frm a:=rA _ (by omega) (by omega)
     have ov:max 0 (b-max r.frm a)=RB a b r:=by unfold RB;rw[if_pos t0,Int.min_self]
     simp only[go_sem,hlt,hgr,hrl,cx,fp,uS,oS,rS,vS,xS,pS,gp,splice,wk,t0,eq_true es,Int.min_self,w2,ov,w3,f1,f2];exact fin _ os.symm
    ·rw[if_neg es,Int.add_zero]at os
     simp only[go_sem,hlt,hgr,hrl,cx,fp,uS,oS,rS,vS,xS,pS,gp,splice,wk,t0,es,f1,f2];exact fin _ os.symm
   ·by_cases es:r.site=site
    ·rw[if_pos es]at os
     have w2:IntKind.i64.wrap (min r.til b-max r.frm a)=min r.til b-max r.frm a:=rA _ (by omega) (by omega)
     have ov:max 0 (min r.til b-max r.frm a)=RB a b r:=by unfold RB;rw[if_neg t0]
     simp only[go_sem,hlt,hgr,hrl,cx,fp,uS,oS,rS,vS,xS,pS,gp,splice,wk,t0,eq_true es,w2,ov,w3,f1,f2];exact fin _ os.symm
    ·rw[if_neg es,Int.add_zero]at os
     simp only[go_sem,hlt,hgr,hrl,cx,fp,uS,oS,rS,vS,xS,pS,gp,splice,wk,t0,es,f1,f2];exact fin _ os.symm
  ·have ek:k=F.runs.length:=by omega
   subst ek;rw[List.take_length];simp only[go_sem,Nat.lt_irrefl];rw[sH (v:=.tup [AI (NC a b (ofS site F.runs)),AI 0]) ex (by simp [aB,cE,dB]) (by simp [AV.top,AV.tops])]
   exact⟨rfl,pre _,rfl⟩
def LB (step:Nm):List EndP->List Int
 | []=>[]
 | e::r=>if e.step=step then(e.til-e.frm)::LB step r else LB step r
theorem z8l (step:Nm):∀a b,LB step (a++b)=LB step a++LB step b
 | [],b=>rfl
 | e::r,b=>by
  have ih:=z8l step r b
  simp only[List.cons_append,LB,ih];split <;> rfl
theorem z8m (step:Nm):∀a,(LB step a).length<=a.length
 | []=>Nat.le_refl _
 | e::r=>by
  have ih:=z8m step r
  unfold LB;split
  ·simp only[List.length_cons];omega
  ·simp only[List.length_cons];omega
def eZ (steps:List Nm)(tries:Int)(l:List Ent)(step:Nm)(at_:Int):List Int×Int:=
 if iE steps tries l step at_≠0 then([],iE steps tries l step at_) else(LB step (jB steps tries (upL l at_)).ends,0)
theorem zsN (steps:List Nm)(tries:Int)(l:List Ent)(O:StOk steps l)(step:Nm)(at_:Int)(hn:iE steps tries l step at_=0->(jB steps tries (upL l at_)).ends.length<=1000)
 (hr:iE steps tries l step at_=0->∀e∈(jB steps tries (upL l at_)).ends,(0<=e.frm/\e.frm<=1000000000000)/\0<=e.til/\e.til<=1000000000000) :
 gA X xK [gB steps tries,EA l,AS step,AI at_] h K=K (.tup [AL (eZ steps tries l step at_).1,AI (eZ steps tries l step at_).2]) h []:=by
 refine sA ?_;rw[zhV rfl];have q1:=λh K=>zdU (h:=h) (K:=K) steps tries l O step at_
 have q3:=λh K=>XO (h:=h) (K:=K) l at_ (by have:=O.l;omega)
 unfold eZ;by_cases h0:iE steps tries l step at_=0
 case neg=>
  rw[if_pos h0];simp only[WP,go_sem,↓q1,q1,h0];first|done|rfl
 rw[if_neg (by simp [h0])]
 have hn:=hn h0
 have hr:=hr h0
 have hst:steps≠[]:=by
  unfold iE at h0;by_cases h1:JC steps tries l at_=0
  ·exact nH h1
  ·rw[if_neg h1]at h0;exact absurd h0 h1
 have q4:=λh K=>TO (h:=h) (K:=K) steps tries O.n hst (upL l at_) (ED O at_).l
 generalize jB steps tries (upL l at_)=F at *;obtain⟨g,hg⟩:∃g,h++[Obj.box [OA steps,AI tries],.row none [] 0]=g:=⟨_,rfl⟩;have gl:g.length=h.length+2:=by rw[<-hg];simp
 have q5:=λK=>q4 (h++[Obj.box [OA steps,AI tries],.row none [] 0]) K
 have q6:∀K,gA X ND [gB steps tries,EA (upL l at_)] (h++[Obj.box [OA steps,AI tries],.row none [] 0]) K=K (.ref (g.length+7) 0) (FS g (flB steps tries) steps tries F []) (NB g F.bs.length):=λK=>by rw[q5,hg]
 have ex:∀y∈NB g F.bs.length,h.length<=y.1:=λy hy=>by have:=(jH hy).1;omega
 obtain⟨gs,hgs⟩:∃gs:List Int->aA,∀ts,h++[Obj.box [OA steps,AI tries],.row none (ts.map eI) 0]=gs ts:=⟨_,λ_=>rfl⟩
 have gsl:∀ts,(gs ts).length=g.length:=λts=>by rw[<-hgs,gl];simp
 have g0:g=gs []:=by rw[<-hgs,<-hg];rfl
 obtain⟨H,hH⟩:∃H:List Int->aA->aA,∀ts l2,FH (gs ts) (flB steps tries) (lA PV.str cC (rB (g.length+8) F.bs)) (pC F.sm F.ck) (.row (some 5) (F.ends.map EndP.pv) 0) (.row (some 3) (F.runs.map RunP.pv) 0) (.row none (F.ref.map eI) 0) (.row none (F.why.map eI) 0) (wbx g steps tries F.ends.length F.runs.length F.ref.length F.why.length) (xA F.bs) l2=H ts l2:=⟨_,λ_ _=>rfl⟩
 have e0:FS g (flB steps tries) steps tries F []=H [] []:=by rw[<-hH,<-g0];rfl
 have rowG:∀ts l2,(H ts l2)[h.length+1]?=some (.row none (ts.map eI) 0):=λts l2=>by
  rw[<-hH,<-hgs];unfold FH
  rw[List.append_assoc,List.getElem?_append_right (by omega)]
  simp
 have rowS:∀ts l2 (n:Int),(H ts l2).set (h.length+1) (.row none (ts.map eI++[PV.int .i64 n]) 0)=H (ts++[n]) l2:=λts l2 n=>by
  rw[<-hH,<-hH,<-hgs,<-hgs];unfold FH
  rw[List.append_assoc,List.set_append_right _ _ (by omega)]
  simp
 have Hlen:∀ts,(H ts []).length=g.length+(8+3*F.bs.length):=λts=>by rw[<-hH,ID,fD,gsl];simp
 have Happ:∀ts l2,H ts []++l2=H ts l2:=λts l2=>by rw[<-hH,<-hH,WD];rfl
 have Hg3:∀ts l2,(H ts l2)[g.length+3]?=some (.row (some 5) (F.ends.map EndP.pv) 0):=λts l2=>by rw[<-hH,<-gsl ts];exact oF
 have Hgt:∀ts o,(H ts [o])[g.length+(8+3*F.bs.length)]?=some o:=λts o=>by
  have:=uI (h:=gs ts) (B:=xA F.bs) (l:=[o]) (o0:=flB steps tries) (o1:=lA PV.str cC (rB (g.length+8) F.bs)) (o2:=pC F.sm F.ck) (o3:=.row (some 5) (F.ends.map EndP.pv) 0) (o4:=.row (some 3) (F.runs.map RunP.pv) 0) (o5:=.row none (F.ref.map eI) 0) (o6:=.row none (F.why.map eI) 0) (o7:=wbx g steps tries F.ends.length F.runs.length F.ref.length F.why.length) 0;rw[fD,gsl,hH]at this;exact this
 have Hst:∀ts o o',(H ts [o]).set (g.length+(8+3*F.bs.length)) o'=H ts [o']:=λts o o'=>by
  have:=qP (h:=gs ts) (o:=o') (B:=xA F.bs) (l:=[o]) (o0:=flB steps tries) (o1:=lA PV.str cC (rB (g.length+8) F.bs)) (o2:=pC F.sm F.ck) (o3:=.row (some 5) (F.ends.map EndP.pv) 0) (o4:=.row (some 3) (F.runs.map RunP.pv) 0) (o5:=.row none (F.ref.map eI) 0) (o6:=.row none (F.why.map eI) 0) (o7:=wbx g steps tries F.ends.length F.runs.length F.ref.length F.why.length) 0;rw[fD,gsl,hH,hH]at this;exact this
 have Htk:∀ts o,(H ts [o]).take (g.length+(8+3*F.bs.length))=H ts []:=λts o=>by
  have:=vI (h:=gs ts) (B:=xA F.bs) (l:=[o]) (o0:=flB steps tries) (o1:=lA PV.str cC (rB (g.length+8) F.bs)) (o2:=pC F.sm F.ck) (o3:=.row (some 5) (F.ends.map EndP.pv) 0) (o4:=.row (some 3) (F.runs.map RunP.pv) 0) (o5:=.row none (F.ref.map eI) 0) (o6:=.row none (F.why.map eI) 0) (o7:=wbx g steps tries F.ends.length F.runs.length F.ref.length F.why.length) 0;rw[fD,gsl,hH,hH]at this;exact this
 have pre:∀ts l2,(H ts l2).take h.length=h:=λts l2=>by
  rw[<-hH,<-hgs];unfold FH
  rw[List.append_assoc,List.take_left]
 have g7:(H [] [])[g.length+7]?=some (.box [OA steps,AI tries,.mp (g.length+1),.mp (g.length+2),.own (g.length+3) F.ends.length 0 F.ends.length,.own (g.length+4) F.runs.length 0 F.runs.length,.own (g.length+5) F.ref.length 0 F.ref.length,.own (g.length+6) F.why.length 0 F.why.length]):=by rw[<-e0];exact qS
 rw[e0]at q6;simp only[WP,go_sem,↓q1,q1,h0,↓q3,q3,↓q6,q6,g7];refine DA (λk:Nat=>⟨[(2,AS step),(11,.own (h.length+1) (LB step (F.ends.take k)).length 0 (LB step (F.ends.take k)).length),(29,.own (g.length+3) F.ends.length 0 F.ends.length),(30,AI F.ends.length),(31,AI k)],H (LB step (F.ends.take k)) [],NB g F.bs.length⟩) (λk=>k<=F.ends.length) (λk=>F.ends.length-k) 0 rfl (Nat.zero_le _) ?_
 intro k hk;rcases Nat.lt_or_ge k F.ends.length with hlt|hge
 ·have wk:IntKind.i64.wrap ((k:Int)+1)=((k+1:Nat):Int):=rA _ (by omega) (by omega)
  have hgr:=sB EndP.pv hlt
  have hrl:(F.ends.map EndP.pv).length=F.ends.length:=List.length_map ..
  have hrk:=hr _ (List.getElem_mem hlt)
  have os:LB step (F.ends.take (k+1))=LB step (F.ends.take k)++(if F.ends[k].step=step then [F.ends[k].til-F.ends[k].frm] else []):=by
   rw[List.take_succ_eq_append_getElem hlt,z8l];congr 1
  have tl:=z8m step (F.ends.take k)
  rw[List.length_take]at tl;have cx:NA (some 5) 0 (EndP.pv F.ends[k])=some (EndP.pv F.ends[k]):=rfl
  have fp:∀r:EndP,EndP.pv r = .agg [.str r.board,.str r.step,eI r.frm,eI r.til,.bool r.pass]:=λ_=>rfl
  generalize F.ends[k]=r at *;generalize LB step (F.ends.take k)=ts at *;have f1:h.length+1+1<=g.length+(8+3*F.bs.length):=by omega
  have f2:g.length+3+1<=g.length+(8+3*F.bs.length):=by omega
  have mx:ts.length+1<=bB:=by unfold bB;omega
  have tml:(ts.map eI).length=ts.length:=List.length_map ..
  by_cases es:r.step=step
  ·rw[if_pos es]at os
   have w2:IntKind.i64.wrap (r.til-r.frm)=r.til-r.frm:=rA _ (by omega) (by omega)
   simp only[go_sem,hlt,hgr,hrl,cx,fp,Hlen,Happ,Hgt,Hst,Htk,Hg3,rowG,rowS,tml,mx,splice,wk,eq_true es,w2,f1,f2];exact⟨k+1,by rw[os,List.length_append];rfl,by omega,by omega⟩
  ·rw[if_neg es,List.append_nil]at os
   simp only[go_sem,hlt,hgr,hrl,cx,fp,Hlen,Happ,Hgt,Hst,Htk,Hg3,splice,wk,es,f1,f2];exact⟨k+1,by rw[os],by omega,by omega⟩
 ·have ek:k=F.ends.length:=by omega
  subst ek;rw[List.take_length];have f1:h.length+1+1<=g.length+(8+3*F.bs.length):=by omega
  have Ht0:∀ts,(H ts []).take (g.length+(8+3*F.bs.length))=H ts []:=λts=>List.take_of_length_le (by rw[Hlen];exact Nat.le_refl _)
  simp only[go_sem,Nat.lt_irrefl,Hlen,f1,Ht0];have r1:rd (H (LB step F.ends) []) (.own (h.length+1) (LB step F.ends).length 0 (LB step F.ends).length)=some (none,(LB step F.ends).map eI):=by
   have w1:win ((LB step F.ends).map eI) 0 (LB step F.ends).length=(LB step F.ends).map eI:=WG (by simp)
   simp [rd,rowG,w1]
  rw[sH (v:=.tup [AL (LB step F.ends),AI 0]) ex (by simp [aB,cE,dB,r1]) (by simp [AV.top,AV.tops])]
  exact⟨rfl,pre _ _,rfl⟩
end
section
variable {h:aA} {K:jA}
attribute [-go_sem] TA UA ZA CB ZB WB
attribute [local go_sem] ID WD kE KE oF UF pG qG pF rG sG tG uG vG xG yG
def tC (bs:nB)(k:Nm):Int:=match mA (asA bs) k with
 | some s=>s.since
 | none=>0
def HG (bs:nB)(a b:Nm):Int:=orL [uB (tC bs a) (tC bs b),LA a b]
theorem uL (bs:nB)(a b:Nm):HG bs a b=if tC bs a<tC bs b then -1 else if tC bs b<tC bs a then 1 else LA a b:=by
 unfold HG uB;generalize tC bs a=A;generalize tC bs b=B;by_cases h1:A<B
 ·rw[if_pos h1,if_pos h1];rfl
 ·rw[if_neg h1,if_neg h1]
  by_cases h2:A=B
  ·rw[if_pos h2,if_neg (by omega)]
   show(if(0:Int)≠0 then(0:Int) else if LA a b≠0 then LA a b else 0)=LA a b
   rw[if_neg (by simp)]
   by_cases h3:LA a b=0
   ·rw[if_neg (by simp [h3]),h3]
   ·rw[if_pos h3]
  ·rw[if_neg h2,if_pos (by omega)];rfl
theorem uR (bs:nB):Ordr (HG bs) where
 neg a b:=by
  rw[uL,uL];have:=zP a b;split <;> split <;> (try split) <;> omega
 trans a b d h1 h2:=by
  rw[uL]at h1 h2 ⊢;have key:LA a b<=0->LA b d<=0->LA a d<=0:=λg1 g2=>by
   by_cases e1:LA a b=0
   ·rw[uE e1];exact g2
   ·by_cases e2:LA b d=0
    ·rw[<-uE e2];exact g1
    ·have:=FT (a:=a) (b:=b) (c:=d) (by omega) (by omega);omega
  by_cases c1:tC bs a<tC bs d
  ·rw[if_pos c1];decide
  ·rw[if_neg c1]
   by_cases c2:tC bs a<tC bs b
   ·rw[if_pos c2]at h1
    by_cases c3:tC bs b<tC bs d
    ·omega
    ·rw[if_neg c3]at h2
     by_cases c4:tC bs d<tC bs b
     ·rw[if_pos c4]at h2;omega
     ·omega
   ·rw[if_neg c2]at h1
    by_cases c5:tC bs b<tC bs a
    ·rw[if_pos c5]at h1;omega
    ·rw[if_neg c5]at h1
     by_cases c3:tC bs b<tC bs d
     ·omega
     ·rw[if_neg c3]at h2
      by_cases c4:tC bs d<tC bs b
      ·rw[if_pos c4]at h2;omega
      ·rw[if_neg c4]at h2
       rw[if_neg (by omega)]
       exact key h1 h2
def sI (step:Nm)(e:Ent × Sta):Bool:=decide (e.2.state=1)&&decide (e.2.step=step)
def IK (bs:nB)(step:Nm):List Nm:=(bs.filter (sI step)).map λe=>e.1.board
def FD (bs:nB)(step:Nm):List Nm:=xB (ltO (HG bs)) (IK bs step)
theorem zeH {bs:nB}{step k:Nm}:k∈FD bs step↔k∈IK bs step:=OG
theorem zva {bs:nB}{step:Nm}(hu:(bs.map λe=>e.1.board).Nodup){ns:List Nm}(hp:ns.Perm (IK bs step)):xB (ltO (HG bs)) ns=FD bs step:=by
 have hn:(IK bs step).Nodup:=hu.sublist (List.filter_sublist.map _)
 have ne:∀{a b:Nm},a≠b->¬HG bs a b=0:=λ{a b} hab hc=>by
  rw[uL]at hc;split at hc
  ·omega
  ·split at hc
   ·omega
   ·exact hab (uE hc)
 refine iS (uR bs) (iP (uR bs) ((hp.nodup_iff.2 hn).imp ne)) (iP (uR bs) (hn.imp ne)) λx=>?_
 rw[OG,zeH,hp.mem_iff]
theorem ztx (fb:Obj)(steps:List Nm)(tries:Int)(S:Flo)(l:aA)(q:Nat)(hq:(FS h fb steps tries S l)[q]?=some (.box [.ref (h.length+7) 0])){a b:Nm}{i j:Nat}(ha:ixB a S.bs=some i)(hb:ixB b S.bs=some j) :
 gA X zM [AS a,AS b,.ref q 0] (FS h fb steps tries S l) K=K (AI (HG S.bs a b)) (FS h fb steps tries S l) []:=by
 refine sA ?_;rw[zig rfl];obtain⟨e,he,_,ga⟩:=(dJ a S.bs).2 i ha;obtain⟨f,hf,_,gb⟩:=(dJ b S.bs).2 j hb;have sa:tC S.bs a=e.2.since:=by unfold tC;rw[ga]
 have sb:tC S.bs b=f.2.since:=by unfold tC;rw[gb]
 unfold HG;rw[sa,sb];unfold FS wbx at hq ⊢;have la:=λ(o0 o2 o3 o4 o5 o6 o7:Obj) (B l2:aA)=>YQ (h:=h) S a o0 o2 o3 o4 o5 o6 o7 B l2
 have lb:=λ(o0 o2 o3 o4 o5 o6 o7:Obj) (B l2:aA)=>YQ (h:=h) S b o0 o2 o3 o4 o5 o6 o7 B l2
 rw[ha]at la;rw[hb]at lb;have ge:=λ(o0 o1 o2 o3 o4 o5 o6 o7:Obj) (l2:aA)=>pP (h:=h) (o0:=o0) (o1:=o1) (o2:=o2) (o3:=o3) (o4:=o4) (o5:=o5) (o6:=o6) (o7:=o7) (l:=l2) he
 have gf:=λ(o0 o1 o2 o3 o4 o5 o6 o7:Obj) (l2:aA)=>pP (h:=h) (o0:=o0) (o1:=o1) (o2:=o2) (o3:=o3) (o4:=o4) (o5:=o5) (o6:=o6) (o7:=o7) (l:=l2) hf
 unfold Sta.bx at ge gf;have q1:=λh K=>zdM (h:=h) (K:=K) e.2.since f.2.since
 have q2:=λh K=>XY (h:=h) (K:=K) a b
 have q3:=λh K=>zdN (h:=h) (K:=K) [uB e.2.since f.2.since,LA a b] (by simp)
 simp only[AL,List.map_cons,List.map_nil]at q3;simp only[qV,go_sem,hq,la,lb,ge,gf,↓q1,q1,↓q2,q2,↓q3,q3];rw[vI,List.take_length]
section
variable {fb o:Obj} {steps:List Nm} {tries:Int} {S:Flo} {l l2:aA}
theorem xZ:(FS h fb steps tries S l)[h.length+1]?=some (lA PV.str cC (rB (h.length+8) S.bs)):=kE
theorem wJ:(FS h fb steps tries S l)[h.length+7]?=some (.box [OA steps,AI tries,.mp (h.length+1),.mp (h.length+2),.own (h.length+3) S.ends.length 0 S.ends.length,.own (h.length+4) S.runs.length 0 S.runs.length,.own (h.length+5) S.ref.length 0 S.ref.length,.own (h.length+6) S.why.length 0 S.why.length]):=pF
theorem zZ:(FS h fb steps tries S l)[h.length+(8+(xA S.bs).length)]?=l[0]?:=uI 0
theorem zfw (n:Nat):(FS h fb steps tries S l)[h.length+(8+(xA S.bs).length+n)]?=l[n]?:=uI n
theorem yZ (n:Nat):(FS h fb steps tries S l).set (h.length+(8+(xA S.bs).length+n)) o=FS h fb steps tries S (l.set n o):=qP n
theorem z8I (n:Nat):(FS h fb steps tries S l).take (h.length+(8+(xA S.bs).length+n))=FS h fb steps tries S (l.take n):=vI n
theorem YG:(FS h fb steps tries S l).length=h.length+(8+(xA S.bs).length+l.length):=ID
theorem yS:FS h fb steps tries S l++l2=FS h fb steps tries S (l++l2):=WD
theorem z8H {i:Nat}{e:Ent × Sta}(hi:S.bs[i]?=some e):(FS h fb steps tries S l)[h.length+8+(3*i+2)]?=some e.2.bx:=by
 have:=pP (h:=h) (o0:=fb) (o1:=lA PV.str cC (rB (h.length+8) S.bs)) (o2:=pC S.sm S.ck) (o3:=.row (some 5) (S.ends.map EndP.pv) 0) (o4:=.row (some 3) (S.runs.map RunP.pv) 0) (o5:=.row none (S.ref.map eI) 0) (o6:=.row none (S.why.map eI) 0) (o7:=wbx h steps tries S.ends.length S.runs.length S.ref.length S.why.length) (l:=l) hi;unfold qB at this;rw[<-Nat.add_assoc]at this;exact this
end
theorem z5r {k:Nm}:∀{bs:nB},k∈bs.map (λe=>e.1.board)->∃i,ixB k bs=some i
 | [],h=>by cases h
 | e::r,h=>by
  unfold ixB;by_cases hk:k=e.1.board
  ·exact⟨0,if_pos hk⟩
  ·rw[if_neg hk]
   rw[List.map_cons,List.mem_cons]at h;obtain⟨i,hi⟩:=z5r (h.resolve_left hk);exact⟨i+1,by rw[hi];rfl⟩
def FE (bs:nB)(step:Nm)(seen:List Nat):List Nm:=seen.filterMap λi=>(bs[i]?).bind λe=>if sI step e then some e.1.board else none
theorem ztC {bs:nB}{step:Nm}{seen:List Nat}{i:Nat}{e:Ent × Sta}(he:bs[i]?=some e):FE bs step (seen++[i])=FE bs step seen++if sI step e then [e.1.board] else []:=by
 unfold FE;rw[List.filterMap_append];congr 1
 simp only[List.filterMap_cons,List.filterMap_nil,he,Option.bind_some];cases sI step e <;> rfl
theorem zt9 {bs:nB}{step:Nm}{seen:List Nat}(hd:seen.Nodup)(hb:∀ i∈seen,i<bs.length)(ha:∀ i,i<bs.length->i∈seen):(FE bs step seen).Perm (IK bs step):=by
 have hp:=bS hd hb ha
 refine(hp.filterMap _).trans ?_;clear hp hd hb ha;have:∀(pre bs:nB),((List.range' pre.length bs.length).filterMap λi=>((pre++bs)[i]?).bind λe=>if sI step e then some e.1.board else none)=(bs.filter (sI step)).map λe=>e.1.board:=by
  intro pre bs;induction bs generalizing pre with
  | nil=>rfl
  | cons e r ih=>
   have h2:=ih (pre++[e])
   rw[List.append_assoc,List.length_append]at h2;have h1:(pre++e::r)[pre.length]?=some e:=by simp
   rw[List.length_cons,List.range'_succ,List.filterMap_cons,List.filter_cons,h1];simp only[Option.bind_some];cases sI step e with
   | true=>simp only[if_true,List.map_cons];exact congrArg _ h2
   | false=>exact h2
 have:=this [] bs;rw[List.range_eq_range'];exact List.Perm.of_eq this
theorem ztA (bs:nB)(step:Nm)(seen:List Nat):(FE bs step seen).length<=seen.length:=List.length_filterMap_le _ _
theorem ztB {bs:nB}{step:Nm}{seen:List Nat}{k:Nm}(h:k∈FE bs step seen):k∈bs.map λe=>e.1.board:=by
 unfold FE at h;obtain⟨i,_,h⟩:=List.mem_filterMap.1 h;obtain⟨e,he,h⟩:=Option.bind_eq_some_iff.1 h;split at h
 ·cases h;exact List.mem_map_of_mem (List.mem_of_getElem? he)
 ·cases h
def FR (h:aA)(fb:Obj)(steps:List Nm)(tries:Int)(S:Flo)(r l:aA):aA:=FS h fb steps tries S (r++l)
section
variable {fb o:Obj} {steps:List Nm} {tries:Int} {S:Flo} {l l2 r:aA}
theorem yH:FR h fb steps tries S r l=FH h fb (lA PV.str cC (rB (h.length+8) S.bs)) (pC S.sm S.ck) (.row (some 5) (S.ends.map EndP.pv) 0) (.row (some 3) (S.runs.map RunP.pv) 0) (.row none (S.ref.map eI) 0) (.row none (S.why.map eI) 0) (wbx h steps tries S.ends.length S.runs.length S.ref.length S.why.length) (xA S.bs++r) l:=by
 unfold FR FS FH;simp
theorem vZ:(FR h fb steps tries S r l)[h.length+1]?=some (lA PV.str cC (rB (h.length+8) S.bs)):=xZ
theorem zft:(FR h fb steps tries S r l)[h.length+7]?=some (.box [OA steps,AI tries,.mp (h.length+1),.mp (h.length+2),.own (h.length+3) S.ends.length 0 S.ends.length,.own (h.length+4) S.runs.length 0 S.runs.length,.own (h.length+5) S.ref.length 0 S.ref.length,.own (h.length+6) S.why.length 0 S.why.length]):=wJ
theorem zfv:(FR h fb steps tries S r l)[h.length+(8+((xA S.bs).length+r.length))]?=l[0]?:=by rw[yH,<-List.length_append];exact uI 0
theorem z8E (n:Nat):(FR h fb steps tries S r l)[h.length+(8+((xA S.bs).length+r.length)+n)]?=l[n]?:=by rw[yH,<-List.length_append];exact uI n
theorem sP (n:Nat):(FR h fb steps tries S r l).set (h.length+(8+((xA S.bs).length+r.length)+n)) o=FR h fb steps tries S r (l.set n o):=by rw[yH,yH,<-List.length_append];exact qP n
theorem z8F (n:Nat):(FR h fb steps tries S r l).take (h.length+(8+((xA S.bs).length+r.length)+n))=FR h fb steps tries S r (l.take n):=by rw[yH,yH,<-List.length_append];exact vI n
theorem eL:(FR h fb steps tries S r l).length=h.length+(8+((xA S.bs).length+r.length)+l.length):=by rw[yH,<-List.length_append];exact ID
theorem rP:FR h fb steps tries S r l++l2=FR h fb steps tries S r (l++l2):=by rw[yH,yH];exact WD
theorem zfu {i:Nat}{e:Ent × Sta}(hi:S.bs[i]?=some e):(FR h fb steps tries S r l)[h.length+8+(3*i+2)]?=some e.2.bx:=z8H hi
end
theorem ztb (r:aA)(fb:Obj)(steps:List Nm)(tries:Int)(S:Flo)(hu:(S.bs.map λe=>e.1.board).Nodup)(hbl:S.bs.length<=12)(step:Nm) :
 gA X DQ [.ref (h.length+7) 0,AS step] (FR h fb steps tries S r []) K=K (OA (FD S.bs step)) (FR h fb steps tries S r []) []:=by
 refine sA ?_;rw[zif rfl];simp only[pV];refine⟨_,_,_,⟨rfl,rfl,rfl⟩,?_⟩;have mr:=RM (h:=FR h fb steps tries S r [.box [.ref (h.length+7) 0],.row none [] 0]) (id:=h.length+1) (key:=PV.str) (val:=cC) (l:=rB (h.length+8) S.bs) vZ
 rw[eL,rP,z5z]at mr;simp only[List.length_cons,List.length_nil,Nat.zero_add,List.cons_append,List.nil_append]at mr;have f0:h.length+7+1<=h.length+(8+((xA S.bs).length+r.length)):=by omega
 have gt0:=λl=>zfv (h:=h) (fb:=fb) (steps:=steps) (tries:=tries) (S:=S) (r:=r) (l:=l)
 have gt1:=λl=>z8E (h:=h) (fb:=fb) (steps:=steps) (tries:=tries) (S:=S) (r:=r) (l:=l) 1
 have gt2:=λl=>z8E (h:=h) (fb:=fb) (steps:=steps) (tries:=tries) (S:=S) (r:=r) (l:=l) 2
 simp only[go_sem,eL,rP,List.length_nil,List.length_cons,Nat.add_zero,Nat.zero_add,List.nil_append,List.cons_append,gt0,gt1,gt2,zft,mr,f0];have st1:=λl o=>sP (h:=h) (fb:=fb) (steps:=steps) (tries:=tries) (S:=S) (r:=r) (l:=l) (o:=o) 1
 have tk:=λl=>z8F (h:=h) (fb:=fb) (steps:=steps) (tries:=tries) (S:=S) (r:=r) (l:=l) 3
 have f1:h.length+(8+((xA S.bs).length+r.length))+1<=h.length+(8+((xA S.bs).length+r.length)+3):=by omega
 have f2:h.length+(8+((xA S.bs).length+r.length)+1)+1<=h.length+(8+((xA S.bs).length+r.length)+3):=by omega
 have f3:h.length+(8+((xA S.bs).length+r.length)+2)+1<=h.length+(8+((xA S.bs).length+r.length)+3):=by omega
 have ml:(rB (h.length+8) S.bs).length=S.bs.length:=z5z _ _
 refine DA (λt:List Nat×Option Nm=>⟨match t.2 with
  | none=>[(1,AS step),(2,.ref (h.length+(8+((xA S.bs).length+r.length))) 0),(5,.own (h.length+(8+((xA S.bs).length+r.length)+1)) (FE S.bs step t.1).length 0 (FE S.bs step t.1).length),(12,.it (h.length+(8+((xA S.bs).length+r.length)+2)))]
  | some nm=>[(1,AS step),(2,.ref (h.length+(8+((xA S.bs).length+r.length))) 0),(5,.own (h.length+(8+((xA S.bs).length+r.length)+1)) (FE S.bs step t.1).length 0 (FE S.bs step t.1).length),(6,AS nm),(12,.it (h.length+(8+((xA S.bs).length+r.length)+2))),(30,AB false)],
  FR h fb steps tries S r [.box [.ref (h.length+7) 0],.row none ((FE S.bs step t.1).map PV.str) 0,.iter (some (h.length+1)) S.bs.length t.1 S.bs.length],[]⟩)
  (λt=>t.1.Nodup/\∀i∈t.1,i<S.bs.length) (λt=>S.bs.length-t.1.length) ([],none) rfl ⟨List.nodup_nil,by simp⟩ ?_
 rintro⟨seen,on⟩ ⟨hd,hb⟩
 dsimp only at hd hb;have hsl:seen.length<=S.bs.length:=by
  have h2:=hd.length_le_of_subset (l₂:=List.range S.bs.length) (λx hx=>by rw[List.mem_range];exact hb x hx)
  simpa using h2
 have hwl:=ztA S.bs step seen
 rcases on with _|nm
 all_goals
  simp only[go_sem];refine JK (key:=PV.str) (val:=cC) (l:=rB (h.length+8) S.bs) (m:=h.length+1) (seen:=seen) (by rw[gt2,ml];rfl) vZ ?_ ?_
  ·intro hall
   rw[ml]at hall;have hp:=zt9 (step:=step) hd hb hall
   have hw:=zva hu hp
   rw[sP];simp only[List.set_cons_zero,List.set_cons_succ];have hmem:∀k∈FE S.bs step seen,∃i,ixB k S.bs=some i:=λk hk=>z5r (ztB hk)
   generalize FE S.bs step seen=ns at *;have so:=λK=>zf4 (h:=FR h fb steps tries S r [.box [.ref (h.length+7) 0],.row none (ns.map PV.str) 0,.iter none 1 [] 0]) (K:=K) (h.length+(8+((xA S.bs).length+r.length)+1)) (ns.map PV.str) (λx hx=>by obtain⟨n,_,rfl⟩:=List.mem_map.1 hx;rfl) (by simp;omega) (by rw[gt1];rfl)
    (g:=zM) (caps:=[.ref (h.length+(8+((xA S.bs).length+r.length))) 0]) (c:=λx y=>HG S.bs (RF x) (RF y)) (λo x hx y hy K=>by
     obtain⟨a,ha,rfl⟩:=List.mem_map.1 hx;obtain⟨b,hb,rfl⟩:=List.mem_map.1 hy;obtain⟨i,hi⟩:=hmem a ha;obtain⟨j,hj⟩:=hmem b hb;rw[sP];exact ztx fb steps tries S _ _ ((gt0 _).trans rfl) hi hj)
   have im:xB (ltC λx y=>HG S.bs (RF x) (RF y)) (ns.map PV.str)=(FD S.bs step).map PV.str:=by
    rw[<-hw];exact z5o PV.str (λa b=>rfl) ns
   have wl:(FD S.bs step).length=ns.length:=by rw[<-hw,VV]
   rw[im]at so;simp only[sP,List.set_cons_zero,List.set_cons_succ,List.length_map]at so;simp only[go_sem,eL,List.length_cons,List.length_nil,Nat.zero_add,Nat.reduceAdd,f1,f2,tk,List.take_succ_cons,List.take_zero,so];have wf:win ((FD S.bs step).map PV.str) 0 ns.length=(FD S.bs step).map PV.str:=WG (by simp [wl])
   have tk0:∀l,(FR h fb steps tries S r l).take (h.length+(8+((xA S.bs).length+r.length)))=FR h fb steps tries S r []:=λl=>z8F 0
   simp [gt1,wl,wf,tk0,AV.top]
  ·intro i hi hni
   rw[ml]at hi;have he:=List.getElem?_eq_getElem hi
   have hmi:(rB (h.length+8) S.bs)[i]'(by omega)=(S.bs[i].1.board,h.length+8+(3*i+2)):=by
    have:=zcz S.bs (h.length+8) i S.bs[i] he;rw[List.getElem?_eq_getElem (by omega)]at this
    exact Option.some.inj this
   have hnn:(seen++[i]).Nodup:=by rw[List.nodup_append];exact⟨hd,by simp,λa ha b hb=>by rw[List.mem_singleton]at hb;subst hb;intro e;subst e;exact hni ha⟩
   have hbb:∀x∈seen++[i],x<S.bs.length:=λx hx=>by
    rcases List.mem_append.1 hx with hx|hx
    ·exact hb x hx
    ·rw[List.mem_singleton]at hx;rw[hx];exact hi
   have hlen:seen.length<S.bs.length:=by
    have h2:=hnn.length_le_of_subset (l₂:=List.range S.bs.length) (λx hx=>by rw[List.mem_range];exact hbb x hx)
    simp at h2;omega
   rw[hmi,ml,sP];have me:=λl0=>GK (h:=FR h fb steps tries S r [.box [.ref (h.length+7) 0],l0,.iter (some (h.length+1)) S.bs.length (seen++[i]) S.bs.length]) (j:=h.length+(8+((xA S.bs).length+r.length)+2)) (m:=h.length+1) (key:=PV.str) (val:=cC) (l:=rB (h.length+8) S.bs) (seen:=seen) (i:=i) (by rw[gt2,ml];rfl) vZ (by omega)
   rw[hmi]at me;have gq:=λ(l2:aA)=>zfu (r:=r) (h:=h) (fb:=fb) (steps:=steps) (tries:=tries) (l:=l2) he
   unfold Sta.bx at gq;unfold cC at me ⊢;have m1:(FE S.bs step seen).length+1<=bB:=by unfold bB;omega
   have hsn:=ztC (step:=step) (seen:=seen) he
   have hw1:sI step S.bs[i]=(decide (S.bs[i].2.state=1)&&decide (S.bs[i].2.step=step)):=rfl
   rw[hw1]at hsn;generalize S.bs[i]=e at *;simp only[List.set_cons_zero,List.set_cons_succ];by_cases c1:e.2.state=1
   ·by_cases c2:e.2.step=step
    ·rw[decide_eq_true c1,decide_eq_true c2]at hsn
     simp only[go_sem,me,gq,c1,c2,m1,eL,rP,gt1,st1,tk,z8r,f1,f2,f3,List.length_map,List.length_cons,List.length_nil,List.getElem?_cons_zero,List.getElem?_cons_succ,List.set_cons_zero,List.set_cons_succ];exact⟨(seen++[i],none),by dsimp only;rw[hsn];simp only[List.map_append,List.length_append];rfl,⟨hnn,hbb⟩,by dsimp only;rw[List.length_append];simp;omega⟩
    ·rw[decide_eq_true c1,decide_eq_false c2]at hsn
     simp only[Bool.and_false,Bool.false_eq_true,if_false,List.append_nil]at hsn;simp only[go_sem,me,gq,c1,c2,m1,eL,rP,gt1,st1,tk,z8r,f1,f2,f3,List.length_map,List.length_cons,List.length_nil,List.getElem?_cons_zero,List.getElem?_cons_succ,List.set_cons_zero,List.set_cons_succ];exact⟨(seen++[i],some e.1.board),by dsimp only;rw[hsn],⟨hnn,hbb⟩,by dsimp only;rw[List.length_append];simp;omega⟩
   ·rw[decide_eq_false c1]at hsn
    simp only[Bool.false_and,Bool.false_eq_true,if_false,List.append_nil]at hsn;simp only[go_sem,me,gq,c1,m1,eL,rP,gt1,st1,tk,z8r,f1,f2,f3,List.length_map,List.length_cons,List.length_nil,List.getElem?_cons_zero,List.getElem?_cons_succ,List.set_cons_zero,List.set_cons_succ];exact⟨(seen++[i],some e.1.board),by dsimp only;rw[hsn],⟨hnn,hbb⟩,by dsimp only;rw[List.length_append];simp;omega⟩
end
structure BoI (S:Flo) (N:List Nm):Prop where
 st:∀e∈S.bs,1<=e.2.state/\e.2.state<=5
 nm:∀e∈S.bs,e.1.board∈N
theorem boI0 (N:List Nm):BoI IF N:=⟨λe he=>(by cases he),λe he=>(by cases he)⟩
theorem BoI.put {S S':Flo}{N:List Nm}(I:BoI S N){i:Nat}{e:Ent × Sta}(he:S.bs[i]?=some e){s:Sta}(hs:1<=s.state/\s.state<=5)(hb:S'.bs=S.bs.set i (e.1,s)):BoI S' N where
 st y hy:=by
  rw[hb]at hy;rcases eW hy with h|h
  ·exact I.st y h
  ·rw[h];exact hs
 nm y hy:=by
  rw[hb]at hy;rcases eW hy with h|h
  ·exact I.nm y h
  ·rw[h];exact I.nm e (List.mem_of_getElem? he)
theorem zuo (steps:List Nm)(tries:Int)(s:Sta)(t:Int)(p:Bool):1<=(OC steps tries s t p).state/\(OC steps tries s t p).state<=5:=by
 unfold OC;split
 ·split
  ·exact⟨(by dsimp only;omega),(by dsimp only;omega)⟩
  ·exact⟨(by dsimp only;omega),(by dsimp only;omega)⟩
 ·dsimp only
  split <;> exact⟨by omega,by omega⟩
theorem zgr {S:Flo}{N:List Nm}(I:BoI S N)(steps:List Nm)(tries:Int){x:Ent}(hx:x.kind=1->x.board∈N):BoI (S.act steps tries x).2 N:=by
 unfold Flo.act;split
 ·split
  ·rename_i hk
   refine⟨λe he=>?_,λe he=>?_⟩
   ·rcases List.mem_append.1 he with h|h
    ·exact I.st e h
    ·rw[List.mem_singleton]at h;rw[h];exact⟨(by dsimp only;omega),(by dsimp only;omega)⟩
   ·rcases List.mem_append.1 he with h|h
    ·exact I.nm e h
    ·rw[List.mem_singleton]at h;rw[h];exact hx hk
  ·exact I
 ·rename_i i hi
  split
  ·exact I
  ·rename_i e he
   split
   ·exact I
   ·unfold Flo.old Flo.startR Flo.finishR
    repeat' split
    all_goals first
     | exact I
     | exact I.put he (s:=⟨2,x.time,e.2.step,x.site,e.2.failed⟩) ⟨(by dsimp only;omega),(by dsimp only;omega)⟩ rfl
     | exact I.put he (zuo steps tries e.2 x.time (decide (x.kind=3))) rfl
     | exact I.put he (s:=⟨1,x.time,e.2.step,e.2.site,e.2.failed⟩) ⟨(by dsimp only;omega),(by dsimp only;omega)⟩ rfl
     | exact I.put he (s:=⟨5,x.time,e.2.step,[],e.2.failed⟩) ⟨(by dsimp only;omega),(by dsimp only;omega)⟩ rfl
     | exact I.put he (s:=⟨5,x.time,e.2.step,e.2.site,e.2.failed⟩) ⟨(by dsimp only;omega),(by dsimp only;omega)⟩ rfl
theorem z9B {S:Flo}{N:List Nm}(I:BoI S N)(steps:List Nm)(tries:Int)(i:Nat){x:Ent}(hx:x.kind=1->x.board∈N):BoI (S.step steps tries i x) N:=by
 have J:=zgr I steps tries hx
 unfold Flo.step;split
 ·exact⟨J.st,J.nm⟩
 ·exact J
theorem z1p (steps:List Nm)(tries:Int)(N:List Nm):∀(l:List (Ent×Bool)) (S:Flo) (i:Nat),BoI S N->(∀y∈l,y.1.kind=1->y.1.board∈N)->BoI (Flo.go steps tries S i l) N
 | [],S,i,I,_=>I
 | (x,c)::r,S,i,I,hx=>by
  have e1:Flo.go steps tries S i ((x,c)::r)=if c=false∨x.kind=7 then Flo.go steps tries S (i+1) r else Flo.go steps tries (S.step steps tries i x) (i+1) r:=rfl
  rw[e1];have hr:=λy hy=>hx y (List.mem_cons_of_mem (x,c) hy)
  split
  ·exact z1p steps tries N r S (i+1) I hr
  ·exact z1p steps tries N r _ (i+1) (z9B I steps tries i (hx (x,c) (List.mem_cons_self ..))) hr
theorem z4U (steps:List Nm)(tries:Int)(N:List Nm){l:List Ent}(hl:∀ x∈l,x.kind=1->x.board∈N):BoI (jB steps tries l) N:=
 z1p steps tries N (uC l) IF 0 (boI0 N) (λy hy=>hl y.1 (List.of_mem_zip hy).1)
theorem zsw {F:Flo}{s k:Nm}(hk:k≠[]∨(mA (asS F.sm) s).isSome=true):(s,k)∈z7X F↔mA (asS F.sm) s=some k:=by
 unfold z7X;rw[List.mem_map];constructor
 ·rintro⟨y,hy,e⟩
  simp only[Prod.mk.injEq]at e;obtain⟨rfl,e⟩:=e;have hy2:y∈F.sm.map λe=>e.1.1:=(List.mergeSort_perm _ _).mem_iff.1 hy
  cases h:mA (asS F.sm) y with
  | some v=>rw[h]at e;rw[<-e];rfl
  | none=>
   exfalso;obtain⟨z,hz,rfl⟩:=List.mem_map.1 hy2;unfold mA asS at h;rw[Option.map_eq_none_iff,List.find?_eq_none]at h;exact h z.1 (List.mem_map_of_mem hz) (by simp)
 ·intro h
  refine⟨s,(List.mergeSort_perm _ _).mem_iff.2 ?_,by rw[h];rfl⟩
  obtain⟨z,hz,e⟩:=List.mem_map.1 (ZI h);rw[List.mem_map];exact⟨z,hz,by rw[e]⟩
theorem zbL:∀ {bs:nB},(bs.map λe=>e.1.board).Nodup->∀{e:Ent×Sta},e∈bs->mA (asA bs) e.1.board=some e.2
 | [],_,e,h=>by cases h
 | y::r,hu,e,h=>by
  rw[List.map_cons,List.nodup_cons]at hu;unfold asA;rw[List.map_cons,gG];rcases List.mem_cons.1 h with h|h
  ·rw[h,if_pos rfl]
  ·have:¬y.1.board=e.1.board:=λq=>hu.1 (by rw[q];exact List.mem_map_of_mem h)
   rw[if_neg this];exact zbL hu.2 h
theorem z5b {bs:nB}{k:Nm}{st:Sta}(h:mA (asA bs) k=some st):∃e∈bs,e.1.board=k/\e.2=st:=by
 obtain⟨e,he,h2⟩:=List.mem_map.1 (ZI h);simp only[Prod.mk.injEq]at h2;exact⟨e,he,h2⟩
def b4N:List Nm:=[[98,49],[98,50],[98,51],[98,52]]
theorem ztT {l:List Nm}(h:l.Nodup):(cP l).Pairwise λa b=>a<b:=by
 have tr:∀a b c:Nm,decide (a<=b)=true->decide (b<=c)=true->decide (a<=c)=true:=λa b c h1 h2=>by simp only[decide_eq_true_eq]at *;exact List.le_trans h1 h2
 have tot:∀a b:Nm,(decide (a<=b)||decide (b<=a))=true:=λa b=>by simp only[Bool.or_eq_true,decide_eq_true_eq];exact List.le_total a b
 have h1:=List.pairwise_mergeSort tr tot l
 have h2:(cP l).Nodup:=((List.mergeSort_perm l _).nodup_iff).2 h
 refine(h1.and h2).imp λ{a b} ⟨q1,q2⟩=>?_
 simp only[decide_eq_true_eq]at q1;rcases List.le_iff_lt_or_eq.1 q1 with q|q
 ·exact q
 ·exact absurd q q2
theorem znP {x:Ent}(h:TB x=0)(h7:x.kind≠7):oB x.board=true:=by
 unfold TB at h;split at h
 ·cases h
 split at h
 ·cases h
 split at h
 ·cases h
 split at h
 ·cases h
 rename_i h4;have hn:hJ x=true:=by simpa using h4
 unfold hJ at hn;rw[if_neg h7]at hn;split at hn
 ·rw[Bool.and_eq_true]at hn;exact hn.1
 ·exact hn
structure Boo (F:Flo) (steps:List Nm):Prop where
 fl:∃n,FlI F steps n
 bo:BoI F b4N
 iv:∃q,Inv F.P q
theorem Boo.len {F:Flo}{steps:List Nm}(B:Boo F steps):F.bs.length<=4:=by
 obtain⟨n,I⟩:=B.fl;have:=I.nb.length_le_of_subset (l₂:=b4N) (λk hk=>by obtain⟨e,he,rfl⟩:=List.mem_map.1 hk;exact B.bo.nm e he)
 rw[List.length_map]at this;exact this
theorem Boo.st {F:Flo}{steps:List Nm}(B:Boo F steps){k:Nm}{st:Sta}(h:mA (asA F.bs) k=some st):1<=st.state/\st.state<=5:=by
 obtain⟨e,he,_,e2⟩:=z5b h;rw[<-e2];exact B.bo.st e he
theorem Boo.step {F:Flo}{steps:List Nm}(B:Boo F steps){k:Nm}{st:Sta}(h:mA (asA F.bs) k=some st)(h1:st.state=1):st.step∈steps:=by
 obtain⟨n,I⟩:=B.fl;obtain⟨e,he,_,e2⟩:=z5b h;rw[<-e2];exact I.st e he (.inl (by rw[e2];exact h1))
theorem Boo.runs {F:Flo}{steps:List Nm}(B:Boo F steps){k:Nm}{st:Sta}(hk:k≠[])(h:mA (asA F.bs) k=some st):(st.site,k)∈z7X F↔st.state=2:=by
 obtain⟨q,I⟩:=B.iv;rw[zsw (.inl hk)];have:=I.sts st.site k;show mA (asS F.sm) st.site=some k↔_
 rw[show mA (asS F.sm) st.site=mA F.P.sites st.site from rfl,this]
 constructor
 ·rintro⟨s2,h2,h3,_⟩
  have:mA F.P.bs k=some st:=h
  rw[this]at h2;cases h2;exact h3
 ·intro h2
  exact⟨st,h,h2,rfl⟩
def KD (l:List Ent)(at_:Int)(i:Nat):Bool:=(SA (upL l at_)).getD i false
theorem zab {U:List Ent}{i:Nat}(h:U.length<=i):(SA U).getD i false=false:=by
 rw[List.getD_eq_getElem?_getD,List.getElem?_eq_none (by rw[UE];exact h)];rfl
theorem zi6 (U:List Ent)(i:Nat)(hi:i<U.length):(SA U).getD i false = !(((U.drop (i+1)).zip (SA (U.drop (i+1)))).any λy=>y.2&&pI y.1 U[i]):=by
 have h1:=z11 U i
 rw[List.drop_eq_getElem_cons hi,SA]at h1;have h2:=congrArg (λl=>l[0]?) h1
 simp only[List.getElem?_drop,Nat.add_zero,List.getElem?_cons_zero]at h2;rw[List.getD_eq_getElem?_getD,h2];rfl
theorem zi8 (U:List Ent){i:Nat}(hi:i<U.length):(SA U).getD i false=true↔∀k (hk:k<U.length),i<k->((SA U).getD k false&&pI U[k] U[i])=false:=by
 rw[zi6 U i hi,Bool.not_eq_true',List.any_eq_false,<-z11];have hz:(U.drop (i+1)).zip ((SA U).drop (i+1))=(uC U).drop (i+1):=by
  unfold uC List.zip;rw[List.drop_zipWith]
 rw[hz];have cg:∀k (hk:k<U.length),(SA U).getD k false=(SA U)[k]'(by rw[UE];exact hk):=λk hk=>by
  rw[List.getD_eq_getElem?_getD,List.getElem?_eq_getElem (by rw[UE];exact hk)];rfl
 constructor
 ·intro h k hk hik
  have hm:(U[k],(SA U)[k]'(by rw[UE];exact hk))∈(uC U).drop (i+1):=by
   rw[List.mem_drop_iff_getElem];refine⟨k-(i+1),by rw[uH];omega,?_⟩
   have e:i+1+(k-(i+1))=k:=by omega
   rw[<-mS hk];congr 1
  have:=h _ hm;rw[cg k hk];simpa using this
 ·intro h y hy
  rw[List.mem_drop_iff_getElem]at hy;obtain⟨j,hj,e⟩:=hy;rw[uH]at hj;have hk:i+1+j<U.length:=by omega
  rw[mS hk]at e;have:=h (i+1+j) hk (by omega)
  rw[cg _ hk]at this;rw[<-e];simpa using this
theorem gZ (l:List Ent)(at_:Int):∀n,n<=l.length->upK l at_ n<=n/\(∀i (hi:i<l.length),upK l at_ n<=i->i<n->at_<l[i].time)/\(∀h:upK l at_ n-1<l.length,upK l at_ n≠0->l[upK l at_ n-1].time<=at_)
 | 0,_=>⟨Nat.le_refl _,λi _ _ h=>by omega,λ_ h=>absurd rfl h⟩
 | n+1,hn=>by
  obtain⟨h1,h2,h3⟩:=gZ l at_ n (by omega)
  have hlt:n<l.length:=by omega
  have e:((l[n]?).map Ent.time).getD 0=l[n].time:=by rw[List.getElem?_eq_getElem hlt];rfl
  by_cases c:at_<l[n].time
  ·have eu:upK l at_ (n+1)=upK l at_ n:=by unfold upK;rw[e,if_pos c];cases n <;> rfl
   rw[eu];refine⟨by omega,λi hi g1 g2=>?_,h3⟩
   by_cases hin:i=n
   ·subst hin;exact c
   ·exact h2 i hi g1 (by omega)
  ·have eu:upK l at_ (n+1)=n+1:=by unfold upK;rw[e,if_neg c]
   rw[eu];exact⟨Nat.le_refl _,λi _ g1 g2=>by omega,λ_ _=>by simpa using Int.not_lt.1 c⟩
theorem zeA (l:List Ent)(at_:Int):(upL l at_).length=upK l at_ l.length:=by
 unfold upL;rw[List.length_take];have:=(gZ l at_ l.length (Nat.le_refl _)).1;omega
theorem rI (l:List Ent)(at_:Int):(upL l at_).length<=l.length:=by rw[zeA];exact(gZ l at_ l.length (Nat.le_refl _)).1
theorem iZ {l:List Ent}{at_:Int}{i:Nat}(hi:i<(upL l at_).length):(upL l at_)[i]=l[i]'(Nat.lt_of_lt_of_le hi (rI l at_)):=by
 exact List.getElem_take
theorem zeB {l:List Ent}(hs:l.Pairwise λa b=>a.time<=b.time)(at_:Int)(i:Nat)(hi:i<l.length):i<(upL l at_).length↔l[i].time<=at_:=by
 obtain⟨h1,h2,h3⟩:=gZ l at_ l.length (Nat.le_refl _);rw[zeA];constructor
 ·intro h
  have hb:upK l at_ l.length-1<l.length:=by omega
  have h4:=h3 hb (by omega)
  by_cases e:i=upK l at_ l.length-1
  ·subst e;exact h4
  ·have:=List.pairwise_iff_getElem.1 hs i (upK l at_ l.length-1) hi hb (by omega)
   omega
 ·intro h
  rcases Nat.lt_or_ge i (upK l at_ l.length) with g|g
  ·exact g
  ·have:=h2 i hi g hi;omega
def PD (l:List Ent)(at_:Int):List Nat:=(List.range l.length).filter (KD l at_)
def stQ (steps:List Nm)(tries:Int)(a:AllQ)(i:Nat)(x:Ent):AllQ:=
 if(doQ steps tries a.w x).2≠0 then⟨(doQ steps tries a.w x).1,a.ref++[i],a.why++[(doQ steps tries a.w x).2]⟩ else⟨(doQ steps tries a.w x).1,a.ref,a.why⟩
def UC (steps:List Nm)(tries:Int)(l:List Ent)(is:List Nat)(a:AllQ):AllQ:=is.foldl (λa i=>stQ steps tries a i (l.getD i vD)) a
def XB:AllQ:=⟨⟨[],[]⟩,[],[]⟩
def yB (steps:List Nm)(tries:Int)(U:List Ent):AllQ:=goQ steps tries XB 0 (uC U)
theorem zbO (steps:List Nm)(tries:Int)(U:List Ent):∀(m n:Nat) (a:AllQ),n+m=U.length->goQ steps tries a n ((uC U).drop n)=UC steps tries U ((List.range' n m).filter λi=>(SA U).getD i false) a
 | 0,n,a,h=>by
  rw[List.drop_of_length_le (by rw[uH];omega)];rfl
 | m+1,n,a,h=>by
  have hn:n<U.length:=by omega
  have ih:=zbO steps tries U m (n+1)
  have hc:n<(SA U).length:=by rw[UE];exact hn
  have cg:(SA U).getD n false=(SA U)[n]:=by rw[List.getD_eq_getElem?_getD,List.getElem?_eq_getElem hc];rfl
  have ug:U.getD n vD=U[n]:=by rw[List.getD_eq_getElem?_getD,List.getElem?_eq_getElem hn];rfl
  rw[List.drop_eq_getElem_cons (by rw[uH];exact hn),mS hn,List.range'_succ,List.filter_cons,cg]
  unfold goQ;cases (SA U)[n]with
  | false=>rw[if_pos rfl,if_neg (by simp)];exact ih _ (by omega)
  | true=>
   rw[if_neg (by simp),if_pos rfl]
   refine(ih _ (by omega)).trans ?_
   show _=UC steps tries U (_::_) a
   unfold UC;rw[List.foldl_cons,ug];rfl
theorem z5i (l:List Ent)(at_:Int):PD l at_=(List.range' 0 (upL l at_).length).filter λi=>(SA (upL l at_)).getD i false:=by
 unfold PD;have hl:=rI l at_
 have e:List.range l.length=List.range' 0 (upL l at_).length++List.range' (upL l at_).length (l.length-(upL l at_).length):=by
  have:=List.range'_append_1 (s:=0) (m:=(upL l at_).length) (n:=l.length-(upL l at_).length);rw[Nat.zero_add]at this;rw[List.range_eq_range',this];congr 1;omega
 rw[e,List.filter_append];have e2:(List.range' (upL l at_).length (l.length-(upL l at_).length)).filter (KD l at_)=[]:=by
  rw[List.filter_eq_nil_iff];intro i hi;rw[List.mem_range'_1]at hi;unfold KD;rw[zab hi.1];simp
 rw[e2,List.append_nil];rfl
theorem HM {l:List Ent}{at_:Int}{i:Nat}(h:i∈PD l at_):i<(upL l at_).length:=by
 rw[z5i]at h;have:=(List.mem_filter.1 h).1;rw[List.mem_range'_1]at this;omega
theorem z4W (steps:List Nm)(tries:Int)(l:List Ent)(at_:Int):UC steps tries l (PD l at_) XB=yB steps tries (upL l at_):=by
 have h1:=zbO steps tries (upL l at_) (upL l at_).length 0 XB (by omega)
 rw[List.drop_zero]at h1;unfold yB;rw[h1,<-z5i];unfold UC;have:∀(is:List Nat) (a:AllQ),(∀i∈is,i<(upL l at_).length)->is.foldl (λa i=>stQ steps tries a i (l.getD i vD)) a=is.foldl (λa i=>stQ steps tries a i ((upL l at_).getD i vD)) a:=by
  intro is;induction is with
  | nil=>intro a _;rfl
  | cons i r ih=>
   intro a h;have hi:=h i (List.mem_cons_self ..)
   have e:l.getD i vD=(upL l at_).getD i vD:=by
    rw[List.getD_eq_getElem?_getD,List.getD_eq_getElem?_getD,List.getElem?_eq_getElem hi,List.getElem?_eq_getElem (Nat.lt_of_lt_of_le hi (rI l at_)),iZ hi]
   rw[List.foldl_cons,List.foldl_cons,e];exact ih _ λj hj=>h j (List.mem_cons_of_mem _ hj)
 exact this _ _ λi hi=>HM hi
theorem JQ (steps:List Nm)(tries:Int)(h0:steps≠[]):∀(l:List (Ent×Bool)) (S:Flo) (i n:Nat) (a:AllP),FlI S steps n->S.P=a.w->S.ref=a.ref.map (λ(j:Nat)=>(j:Int))->S.why=a.why ->
 (Flo.go steps tries S i l).P=(goP steps tries a i l).w/\(Flo.go steps tries S i l).ref=(goP steps tries a i l).ref.map (λ(j:Nat)=>(j:Int))/\(Flo.go steps tries S i l).why=(goP steps tries a i l).why
 | [],S,i,n,a,I,h1,h2,h3=>⟨h1,h2,h3⟩
 | (x,c)::r,S,i,n,a,I,h1,h2,h3=>by
  have e1:Flo.go steps tries S i ((x,c)::r)=if c=false∨x.kind=7 then Flo.go steps tries S (i+1) r else Flo.go steps tries (S.step steps tries i x) (i+1) r:=rfl
  rw[e1];unfold goP;by_cases hs:c=false∨x.kind=7
  ·rw[if_pos hs,if_pos hs]
   exact JQ steps tries h0 r S (i+1) (n+1) a I.up h1 h2 h3
  ·rw[if_neg hs,if_neg hs]
   obtain⟨s1,s2,s3,s4⟩:=cZ (tries:=tries) I h0 i x;rw[h1]at s2 s3 s4;by_cases hz:(EC steps tries a.w x).2≠0
   ·rw[if_pos hz]at s3 s4 ⊢
    exact JQ steps tries h0 r _ (i+1) (n+1) _ s1 s2 (by rw[s3,h2];simp) (by rw[s4,h3])
   ·rw[if_neg hz]at s3 s4 ⊢
    exact JQ steps tries h0 r _ (i+1) (n+1) _ s1 s2 (by rw[s3,h2]) (by rw[s4,h3])
structure Both (F:Flo) (q:AllQ):Prop where
 inv:Inv F.P q.w
 ref:F.ref=q.ref.map (λ(j:Nat)=>(j:Int))
 why:F.why=q.why
theorem TE (steps:List Nm)(tries:Int)(h0:steps≠[]){U:List Ent}(hf:∀ x∈U,TB x=0):Both (jB steps tries U) (yB steps tries U):=by
 obtain⟨p1,p2,p3⟩:=JQ steps tries h0 (uC U) IF 0 0 ⟨⟨[],[],[],[]⟩,[],[]⟩ (IQ steps) rfl rfl rfl;obtain⟨i1,i2,i3⟩:=PQ steps tries (uC U) ⟨⟨[],[],[],[]⟩,[],[]⟩ XB 0 (λy hy=>BV (hf y.1 (List.of_mem_zip hy).1)) inv0 rfl rfl
 exact⟨by rw[p1];exact i1,by rw[p2,i2];rfl,by rw[p3,i3];rfl⟩
def QB {β:Type}(m:List (Nm × β)):List Nm:=m.map (·.1)
theorem zeC {β:Type}{k:Nm}{v:β}:∀{m:List (Nm×β)},(QB m).Nodup->IB k v m=JA m k v
 | [],_=>rfl
 | e::r,hu=>by
  unfold QB at hu;rw[List.map_cons,List.nodup_cons]at hu;have ih:=zeC (k:=k) (v:=v) hu.2
  unfold IB;by_cases h:k=e.1
  ·rw[if_pos h]
   unfold JA;rw[if_pos (by simp [h])]
   simp only[List.map_cons];rw[if_pos h.symm];congr 1
   conv=>lhs;rw[<-List.map_id r]
   apply List.map_congr_left
   intro z hz;have:¬z.1=k:=λq=>hu.1 (by rw[<-h,<-q];exact List.mem_map_of_mem hz)
   rw[if_neg this];rfl
  ·have hn:¬e.1=k:=λz=>h z.symm
   rw[if_neg h,ih];unfold JA;simp only[List.any_cons,decide_eq_false hn,Bool.false_or,List.map_cons,if_neg hn];split <;> rfl
theorem zdk {β:Type}(m:List (Nm × β))(k:Nm)(v:β):QB (JA m k v)=if k∈QB m then QB m else QB m++[k]:=by
 have hk:m.any (λe=>decide (e.1=k))=decide (k∈QB m):=by
  rw[Bool.eq_iff_iff,List.any_eq_true,decide_eq_true_eq];unfold QB;rw[List.mem_map];simp
 unfold JA;rw[hk];by_cases h:k∈QB m
 ·rw[if_pos (by simp [h]),if_pos h]
  unfold QB;rw[List.map_map];apply List.map_congr_left
  intro e _;simp only[Function.comp];split
  ·rename_i q;exact q.symm
  ·rfl
 ·rw[if_neg (by simp [h]),if_neg h]
  unfold QB;simp
theorem zrR {β:Type}{m:List (Nm × β)}(h:(QB m).Nodup)(k:Nm)(v:β):(QB (JA m k v)).Nodup:=by
 rw[zdk];split
 ·exact h
 ·rename_i hk
  rw[List.nodup_append];exact⟨h,by simp,λa ha b hb=>by rw[List.mem_singleton]at hb;subst hb;exact λe=>hk (e ▸ ha)⟩
theorem z5e {β:Type}{k:Nm}:∀(m:List (Nm×β)),iB k m=mA m k
 | []=>rfl
 | e::r=>by
  unfold iB;rw[gG,z5e r];by_cases h:k=e.1
  ·rw[if_pos h,if_pos h.symm]
  ·rw[if_neg h,if_neg λz=>h z.symm]
section
section
variable {α:Type}
def DK (c1 c2:α->α->Int)(a b:α):Prop:=c1 a b<0∨(c1 a b=0/\c2 a b<0)
theorem zbU {c1 c2:α->α->Int}(o:Ordr c1)(x:α):∀r:List α,r.Pairwise (λa b=>DK c1 c2 b a)->(∀y∈r,c2 y x<0)->(VB (ltO c1) x r).Pairwise (λa b=>DK c1 c2 b a)
 | [],_,_=>by simp [VB]
 | y::r,h,hx=>by
  rw[List.pairwise_cons]at h;unfold VB;cases hc:ltO c1 x y with
  | true=>
   have hc':c1 x y<0:=by simpa [ltO] using hc
   rw[cond_true,List.pairwise_cons];refine⟨λz hz=>?_,zbU o x r h.2 λz hz=>hx z (List.mem_cons_of_mem _ hz)⟩
   rcases List.mem_cons.1 ((SQ (ltO c1) x r).mem_iff.1 hz) with rfl|hz
   ·exact .inl hc'
   ·exact h.1 z hz
  | false=>
   have hc':¬c1 x y<0:=by simpa [ltO] using hc
   have hy:c1 y x<=0:=by have:=o.neg x y;omega
   have key:∀z,c1 z x<=0->c2 z x<0->DK c1 c2 z x:=λz g1 g2=>by
    by_cases e:c1 z x=0
    ·exact .inr ⟨e,g2⟩
    ·exact .inl (by omega)
   rw[cond_false,List.pairwise_cons,List.pairwise_cons];refine⟨λz hz=>?_,h⟩
   rcases List.mem_cons.1 hz with rfl|hz
   ·exact key _ hy (hx _ (List.mem_cons_self ..))
   ·refine key z (o.trans z y x ?_ hy) (hx z (List.mem_cons_of_mem _ hz))
    rcases h.1 z hz with g|⟨g,_⟩ <;> omega
theorem zbZ {c1 c2:α->α->Int}(o:Ordr c1):∀l r:List α,r.Pairwise (λa b=>DK c1 c2 b a)->(∀y∈r,∀x∈l,c2 y x<0)->DJ c2 l->(l.foldl (λr x=>VB (ltO c1) x r) r).Pairwise (λa b=>DK c1 c2 b a)
 | [],r,h,_,_=>h
 | x::l,r,h,h2,h3=>by
  unfold DJ at h3;rw[List.pairwise_cons]at h3;rw[List.foldl_cons];refine zbZ o l _ (zbU o x r h λy hy=>h2 y hy x (List.mem_cons_self ..)) (λy hy z hz=>?_) h3.2
  rcases List.mem_cons.1 ((SQ (ltO c1) x r).mem_iff.1 hy) with rfl|hy
  ·exact h3.1 z hz
  ·exact h2 y hy z (List.mem_cons_of_mem _ hz)
theorem zui {c1 c2:α->α->Int}(o:Ordr c1){l:List α}(h:DJ c2 l):(xB (ltO c1) l).Pairwise (DK c1 c2):=by
 unfold xB;rw[List.pairwise_reverse];exact zbZ o l [] .nil (λy hy=>(by cases hy)) h
end
def FA (bs:List (Nm × Sta)):List Nm:=xB ltS (QB bs)
theorem zrk {bs:List (Nm × Sta)}(hu:(QB bs).Nodup){ns:List Nm}(hp:ns.Perm (QB bs)):xB ltS ns=FA bs:=by
 unfold FA;rw[zcy];refine iS tR (iP tR ((hp.nodup_iff.2 hu).imp λ{a b} h hc=>h (uE hc))) (iP tR (hu.imp λ{a b} h hc=>h (uE hc))) λx=>?_
 rw[OG,OG,hp.mem_iff]
theorem z58 {bs:List (Nm × Sta)}(hu:(QB bs).Nodup):DJ LA (FA bs):=by
 unfold FA;rw[zcy];exact iP tR (hu.imp λ{a b} h hc=>h (uE hc))
theorem zcE {bs:List (Nm × Sta)}{k:Nm}:k∈FA bs↔(mA bs k).isSome=true:=by
 unfold FA;rw[OG];constructor
 ·intro h
  cases hg:mA bs k with
  | some v=>rfl
  | none=>
   exfalso;obtain⟨e,he,rfl⟩:=List.mem_map.1 h;unfold mA at hg;rw[Option.map_eq_none_iff,List.find?_eq_none]at hg;exact hg e he (by simp)
 ·intro h
  obtain⟨v,hv⟩:=Option.isSome_iff_exists.1 h;exact List.mem_map_of_mem (f:=λe:Nm×Sta=>e.1) (ZI hv)
def zB (bs:List (Nm × Sta))(k:Nm):Sta:=(mA bs k).getD sta0
def sinC (bs:List (Nm × Sta))(a b:Nm):Int:=uB (zB bs a).since (zB bs b).since
def TF (bs:List (Nm × Sta))(step k:Nm):Bool:=decide ((zB bs k).state=1)&&decide ((zB bs k).step=step)
def jE (bs:List (Nm × Sta))(step:Nm):List Nm:=xB (ltO (sinC bs)) ((FA bs).filter (TF bs step))
theorem ord3:Ordr uB where
 neg a b:=z10 a b
 trans a b d h1 h2:=by
  unfold uB at *;split at h1 <;> split at h2 <;> split <;> (try split) <;> (try split at h1) <;> (try split at h2) <;> omega
theorem zr3 (bs:List (Nm × Sta)):Ordr (sinC bs):=⟨λa b=>ord3.neg _ _,λa b d h1 h2=>ord3.trans _ _ _ h1 h2⟩
theorem zei (bs:nB)(k:Nm):tC bs k=(zB (asA bs) k).since:=by
 unfold tC zB;cases mA (asA bs) k <;> rfl
theorem LM (bs:nB):QB (asA bs)=bs.map λe=>e.1.board:=by unfold QB asA;rw[List.map_map];rfl
theorem zvb {bs:nB}(hu:(bs.map λe=>e.1.board).Nodup)(step:Nm):jE (asA bs) step=FD bs step:=by
 have hk:(QB (asA bs)).Nodup:=by rw[LM];exact hu
 have hn:(IK bs step).Nodup:=hu.sublist (List.filter_sublist.map _)
 have ne:∀{a b:Nm},a≠b->¬HG bs a b=0:=λ{a b} hab hc=>by
  rw[uL]at hc;split at hc
  ·omega
  ·split at hc
   ·omega
   ·exact hab (uE hc)
 refine iS (uR bs) ?_ (iP (uR bs) (hn.imp ne)) λk=>?_
 ·have h1:=zui (c2:=LA) (zr3 (asA bs)) (l:=(FA (asA bs)).filter (TF (asA bs) step)) (List.Pairwise.sublist List.filter_sublist (z58 hk))
  refine h1.imp λ{a b} h=>?_
  rw[uL,zei,zei];unfold DK sinC uB at h;split
  ·decide
  ·rename_i g
   rw[if_neg g]at h;by_cases e:(zB (asA bs) a).since=(zB (asA bs) b).since
   ·rw[if_pos e]at h
    rw[if_neg (by omega)]
    rcases h with h|⟨_,h⟩
    ·omega
    ·exact h
   ·rw[if_neg e]at h
    omega
 ·rw[zeH]
  unfold jE IK;rw[OG,List.mem_filter,zcE,List.mem_map];constructor
  ·rintro⟨h1,h2⟩
   obtain⟨st,hg⟩:=Option.isSome_iff_exists.1 h1;obtain⟨e,he,e1,e2⟩:=z5b hg;refine⟨e,List.mem_filter.2 ⟨he,?_⟩,e1⟩;unfold TF zB at h2;rw[hg]at h2;unfold sI;rw[e2];exact h2
  ·rintro⟨e,he,rfl⟩
   rw[List.mem_filter]at he;have hg:=zbL hu he.1
   refine⟨by rw[hg];rfl,?_⟩
   unfold TF zB;rw[hg];exact he.2
theorem zcp:∀ a b:Nm,Op.bytesLess a b=decide (a<b)
 | [],[]=>by simp [Op.bytesLess]
 | [],_::_=>by simp [Op.bytesLess]
 | _::_,[]=>by simp [Op.bytesLess]
 | a::x,b::y=>by
  have ih:=zcp x y
  unfold Op.bytesLess;rw[ih,Bool.eq_iff_iff];simp [List.cons_lt_cons_iff]
theorem zqY {a b:Nm}(h:a<b):LA a b<0:=by
 have h1:=zcp a b
 rw[z1r,decide_eq_true h]at h1;unfold ltS at h1;simpa using h1
end
section
attribute [-go_sem] UA ZA
def AA (n:Int):PV:=.int .i64 n
def zA (n:Int):AV:=.p (.int .i64 n)
theorem cW {hp:aA}{id:Nat}{m:List (Int × Int)}{b:Int}(hh:hp[id]?=some (lA AA zA m)):UA (none,[0]) false (AI 0) (.mp id) (AI b) hp=some (AI ((iB b m).getD 0)):=by
 have:=qH (key:=AA) (val:=zA) (λa b=>zcc a b) hh (kk:=(none,[0])) (k:=b) zcd (ok:=false) (z:=AI 0)
 rw[cond_false]at this;refine this.trans ?_;cases iB b m <;> rfl
theorem lP {hp:aA}{id:Nat}{m:List (Int × Int)}{b v:Int}(hh:hp[id]?=some (lA AA zA m)):ZA (none,[0]) (.mp id) (AI b) (AI v) hp=some (.und,hp.set id (lA AA zA (IB b v m)),[]):=
 HK (key:=AA) (val:=zA) (λa b=>zcc a b) hh (kk:=(none,[0])) (k:=b) zcd (v:=v) rfl
theorem TV {α:Type}{P:List α->Prop}(h0:P [])(h1:∀ xs x,P xs->P (xs++[x]))(l:List α):P l:=by
 have key:∀l:List α,P l.reverse:=by
  intro l;induction l with
  | nil=>exact h0
  | cons x l ih=>rw[List.reverse_cons];exact h1 _ _ ih
 have:=key l.reverse;rwa [List.reverse_reverse]at this
end
def UB:Nat->Nat->Nat->List Nat
 | 0,_,_=>[]
 | k+1,p,n=>if n<=1 then [] else if n%p=0 then p::UB k p (n / p) else UB k (p+1) n
def LD:Nat->Nat->Nat->Bool
 | 0,_,n=>decide (n<=1)
 | k+1,p,n=>decide (n<=1)||(if n%p=0 then LD k p (n / p) else LD k (p+1) n)
def EB (ks:List (Int × Int))(q:Int):Int:=(iB q ks).getD 0
def SE (by':Int)(ks:List (Int × Int))(p:Nat):List (Int×Int):=IB (p:Int) (EB ks p+by') ks
def QE (by':Int)(ks:List (Int × Int))(n:Nat):List (Int×Int):=(UB 20 2 n).foldl (SE by') ks
theorem z7I (by':Int)(ks:List (Int × Int))(p:Nat)(q:Int):EB (SE by' ks p) q=EB ks q+if q=p then by' else 0:=by
 unfold SE;unfold EB;rw[FM];by_cases h:q=p
 ·simp [h]
 ·simp [h]
theorem OR (by':Int)(q:Nat):∀(l:List Nat) (ks:List (Int×Int)),EB (l.foldl (SE by') ks) q=EB ks q+by'*(l.count q:Nat)
 | [],ks=>by simp
 | p::l,ks=>by
  simp only[List.foldl_cons];rw[OR by' q l,z7I,List.count_cons]
  by_cases h:(q:Int)=p
  ·have:(p==q)=true:=by simp;omega
   rw[if_pos h,this];simp only[if_true,Int.natCast_add,Int.mul_add];omega
  ·have:(p==q)=false:=by simp;omega
   rw[if_neg h,this];simp
def tD (N:Nat)(ks:List (Int × Int)):Prop:=(KC ks).Nodup/\∀q∈KC ks,2<=q/\q<=N
theorem zpu {by':Int}{N p:Nat}{ks:List (Int × Int)}(hp:2<=p/\p<=N)(h:tD N ks):tD N (SE by' ks p):=by
 refine⟨zpw _ _ h.1,λq hq=>?_⟩
 unfold SE at hq;rw[z5v]at hq;split at hq
 ·exact h.2 q hq
 ·rcases List.mem_append.1 hq with e|e
  ·exact h.2 q e
  ·rw[List.mem_singleton]at e
   omega
theorem zcj {by':Int}{N:Nat}:∀(l:List Nat) {ks:List (Int×Int)},(∀q∈l,2<=q/\q<=N)->tD N ks->tD N (l.foldl (SE by') ks)
 | [],ks,_,h=>h
 | p::l,ks,h1,h=>zcj l (λq hq=>h1 q (by simp [hq])) (zpu (h1 p (by simp)) h)
theorem DM:∀ n:Fin 13,LD 20 2 n.val=true/\(∀q∈UB 20 2 n.val,2<=q/\q<=12):=by decide +kernel
def nC (q:Nat):Nat:=if q=2 then 3 else if q=3 then 2 else if q=5 then 1 else if q=7 then 1 else if q=11 then 1 else 0
theorem ziH:∀ n:Fin 13,∀q:Fin 13,(UB 20 2 n.val).count q.val<=nC q.val:=by decide +kernel
theorem CP {n:Nat}(hn:n<=12)(q:Nat):(UB 20 2 n).count q<=nC q:=by
 by_cases hq:q<=12
 ·exact ziH ⟨n,by omega⟩ ⟨q,by omega⟩
 ·have h:=(DM ⟨n,by omega⟩).2
  rw[List.count_eq_zero.2 (λhm=>by have:=(h q hm).2;omega)]
  omega
theorem zqX:∀ n:Fin 13,∀m:Fin 13,∀q:Fin 13,1<=n.val->n.val<=m.val ->
 ((UB 20 2 n.val).count q.val:Int)-(UB 20 2 m.val).count q.val=(UB 20 2 (n.val / Nat.gcd n.val m.val)).count q.val-(UB 20 2 (m.val / Nat.gcd n.val m.val)).count q.val:=by decide +kernel
def iD (t:Nat × Nat)(q:Nat):Int:=((UB 20 2 t.1).count q:Int)-(UB 20 2 t.2).count q
def nT (ks:List (Int × Int))(t:Nat × Nat):List (Int×Int):=QE (-1) (QE 1 ks t.1) t.2
theorem zrH (ks:List (Int × Int))(t:Nat × Nat)(q:Nat):EB (nT ks t) q=EB ks q+iD t q:=by
 unfold nT QE iD;rw[OR,OR];omega
def BA (l:List (Nat × Nat))(q:Nat):Int:=(l.map λt=>iD t q).sum
theorem zew (l:List (Nat × Nat))(t:Nat × Nat)(q:Nat):BA (l++[t]) q=BA l q+iD t q:=by
 unfold BA;simp
def LC (t:Nat × Nat):Nat×Nat:=(t.1 / Nat.gcd t.1 t.2,t.2 / Nat.gcd t.1 t.2)
def BZ (t:Nat × Nat):Prop:=1<=t.1/\t.1<=t.2/\t.2<=12
theorem zro {t:Nat × Nat}(h:BZ t)(q:Nat):iD t q=iD (LC t) q:=by
 obtain⟨n,m⟩:=t;obtain⟨h1,h2,h3⟩:=h;dsimp only at h1 h2 h3;by_cases hq:q<=12
 ·exact zqX ⟨n,by omega⟩ ⟨m,by omega⟩ ⟨q,by omega⟩ h1 h2
 ·have z:∀a,a<=12->(UB 20 2 a).count q=0:=λa ha=>List.count_eq_zero.2 λhm=>by have:=((DM ⟨a,by omega⟩).2 q hm).2;omega
  have d1:n / Nat.gcd n m<=n:=Nat.div_le_self _ _
  have d2:m / Nat.gcd n m<=m:=Nat.div_le_self _ _
  unfold iD LC;dsimp only;rw[z n (by omega),z m (by omega),z _ (by omega:n / Nat.gcd n m<=12),z _ (by omega:m / Nat.gcd n m<=12)]
theorem zrp {n:Nat}(q:Nat):iD (n,n) q=0:=by unfold iD;dsimp only;omega
theorem zrn {t:Nat × Nat}(h:t.1<=12/\t.2<=12)(q:Nat) : - (nC q:Int)<=iD t q/\iD t q<=nC q:=by
 have a:=CP h.1 q
 have b:=CP h.2 q
 unfold iD;omega
theorem zeu {l:List (Nat × Nat)}(h:∀ t∈l,t.1<=12/\t.2<=12)(q:Nat) : - (nC q*l.length:Int)<=BA l q/\BA l q<=nC q*l.length:=by
 induction l with
 | nil=>simp [BA]
 | cons t l ih=>
  have i:=ih λt ht=>h t (by simp [ht])
  have b:=zrn (h t (by simp)) q
  have e:BA (t::l) q=iD t q+BA l q:=by unfold BA;simp
  rw[e,List.length_cons];have:((nC q:Int)*((l.length+1:Nat):Int))=nC q*l.length+nC q:=by rw[Int.natCast_add,Int.mul_add];omega
  omega
def bC (l:List Int):Int:=l.foldl (· * ·) 1
theorem zrJ (l:List Int)(x:Int):l.foldl (· * ·) x=x*bC l:=by
 unfold bC;induction l generalizing x with
 | nil=>simp
 | cons y l ih=>simp only[List.foldl_cons];rw[ih,ih (1*y)];simp [Int.mul_assoc]
theorem iI (y:Int)(l:List Int):bC (y::l)=y*bC l:=by
 show(y::l).foldl (· * ·) 1=_
 simp only[List.foldl_cons,Int.one_mul];exact zrJ l y
theorem z7M:bC []=1:=rfl
theorem KY (a b:List Int):bC (a++b)=bC a*bC b:=by
 induction a with
 | nil=>simp [z7M]
 | cons x a ih=>rw[List.cons_append,iI,iI,ih,Int.mul_assoc]
theorem SR {a b:List Int}(h:a.Perm b):bC a=bC b:=by
 induction h with
 | nil=>rfl
 | cons x _ ih=>rw[iI,iI,ih]
 | swap x y l=>simp only[iI];rw[<-Int.mul_assoc,<-Int.mul_assoc,Int.mul_comm y x]
 | trans _ _ h1 h2=>exact h1.trans h2
theorem zdc {α:Type}{f:α->Int}:∀{l:List α},(∀x∈l,f x=1)->bC (l.map f)=1
 | [],_=>rfl
 | x::l,h=>by rw[List.map_cons,iI,h x (by simp),zdc λy hy=>h y (by simp [hy])];rfl
theorem yO {α:Type}{f:α->Int}:∀{l:List α},(∀x∈l,1<=f x)->1<=bC (l.map f)
 | [],_=>by simp [z7M]
 | x::l,h=>by
  rw[List.map_cons,iI];have h1:=h x (by simp)
  have h2:=yO λy hy=>h y (List.mem_cons_of_mem _ hy)
  have:=Int.mul_le_mul h1 h2 (by omega) (by omega)
  omega
theorem zdb {α:Type}{f g:α->Int}:∀{l:List α},(∀x∈l,1<=f x/\f x<=g x)->bC (l.map f)<=bC (l.map g)
 | [],_=>by simp [z7M]
 | x::l,h=>by
  rw[List.map_cons,iI,List.map_cons,iI];have h1:=h x (by simp)
  have h2:=zdb λy hy=>h y (List.mem_cons_of_mem _ hy)
  have h3:=yO λy hy=>(h y (List.mem_cons_of_mem _ hy)).1
  exact Int.mul_le_mul h1.2 h2 (by omega) (by omega)
theorem zda {α:Type}[DecidableEq α]{f:α->Int}{ks R:List α}(h1:ks.Nodup)(h2:R.Nodup)(h3:∀ q∈ks,q∈R)(h4:∀ q∈R,q∉ks->f q=1):bC (R.map f)=bC (ks.map f):=by
 have e1:(R.filter (λq=>decide (q∈ks))++R.filter (λq=>!decide (q∈ks))).Perm R:=List.filter_append_perm _ _
 have e2:(R.filter (λq=>decide (q∈ks))).Perm ks:=by
  rw[List.perm_ext_iff_of_nodup (h2.sublist List.filter_sublist) h1];intro q;rw[List.mem_filter];exact⟨λh=>by simpa using h.2,λh=>⟨h3 q h,by simpa using h⟩⟩
 rw[<-SR (e1.map f),List.map_append,KY,SR (e2.map f),zdc (l:=R.filter (λq=>!decide (q∈ks))) (λq hq=>by
  rw[List.mem_filter]at hq;exact h4 q hq.1 (by simpa using hq.2)),Int.mul_one]
def BD (P:Nat->Int)(q:Nat):Int:=(q:Int)^(P q).toNat
theorem z1o {P:Nat->Int}{q:Nat}(h:1<=q):1<=BD P q:=by
 unfold BD;have:(0:Int)<(q:Int)^(P q).toNat:=Int.pow_pos (by omega)
 omega
def nG (q:Nat):Int:=(q:Int)^(3*nC q)
theorem ze1 {q:Nat}(h:1<=q):1<=nG q:=by
 unfold nG;have:(0:Int)<(q:Int)^(3*nC q):=Int.pow_pos (by omega)
 omega
theorem zdd {P:Nat->Int}(hP:∀ q,P q<=3*nC q){ks:List Nat}(h1:ks.Nodup)(h2:∀ q∈ks,2<=q/\q<=12):bC (ks.map (BD P))<=1000000000000000:=by
 have a:bC (ks.map (BD P))<=bC (ks.map nG):=zdb λq hq=>by
  have hq2:=h2 q hq
  refine⟨z1o (by omega),?_⟩
  unfold BD nG;have:=hP q;exact_mod_cast Nat.pow_le_pow_right (by omega:0<q) (by omega:(P q).toNat<=3*nC q)
 have b:bC ((List.range' 2 11).map nG)=bC (((List.range' 2 11).filter λq=>decide (q∈ks)).map nG)*bC (((List.range' 2 11).filter λq=>!decide (q∈ks)).map nG):=by
  rw[<-KY,<-List.map_append];exact(SR ((List.filter_append_perm (λq=>decide (q∈ks)) (List.range' 2 11)).map _)).symm
 have c:((List.range' 2 11).filter λq=>decide (q∈ks)).Perm ks:=by
  rw[List.perm_ext_iff_of_nodup ((List.nodup_range':(List.range' 2 11 1).Nodup).sublist List.filter_sublist) h1];intro q;rw[List.mem_filter,List.mem_range'_1];exact⟨λh=>by simpa using h.2,λh=>⟨by have:=h2 q h;omega,by simpa using h⟩⟩
 rw[SR (c.map _)]at b;have d:1<=bC (((List.range' 2 11).filter λq=>!decide (q∈ks)).map nG):=yO λq hq=>by
  rw[List.mem_filter,List.mem_range'_1]at hq;exact ze1 (by omega)
 have e:bC ((List.range' 2 11).map nG)<=1000000000000000:=by decide +kernel
 have f:1<=bC (ks.map nG):=yO λq hq=>by
  have:=h2 q hq;exact ze1 (by omega)
 generalize bC (((List.range' 2 11).filter λq=>!decide (q∈ks)).map nG)=D at *
 generalize bC (ks.map nG)=F at *;have g:F*1<=F*D:=Int.mul_le_mul_of_nonneg_left d (by omega)
 omega
end Go.Am
