/- Texts of the proof, laid together: SpFlo5, SpFlo6, SpFlo7, SpFlo8, SpFlo9, SpFlo10, SpFlo11, SpRun, SpCts, SpSortN, PUnd, PBusy, SpBusy, SpWtg, PBoo, SpPrs, SpStnd, SpLawET, SpPath. -/
import Derived.KernelRfl
import Derived.Test.YtdnbmbfonpkpfaaGreatDoorlawBO8
set_option linter.all false
section
/- The floor: an entry taken. -/
open Go
set_option linter.all false
set_option maxRecDepth 100000
namespace Go.Am
variable {h:Heap} {K:Post}
attribute [-go_sem] oEqa z0L z1v z3B
attribute [local go_sem] z1G z2w z4T z4U z7Y z7Z z8a z8b z6S z8c z8d z8e z8f z8g z8h z8i
def Flo.put (S:Flo) (i:Nat) (x0:Ent) (st:Sta):Flo:={ S with bs:=S.bs.set i (x0,st) }
def Flo.old (S:Flo) (steps:List Nm) (tries:Int) (x:Ent) (i:Nat) (x0:Ent) (st:Sta):Int × Flo:=
 if x.kind=2 then S.startR i x0 st x
 else if x.kind=3∨x.kind=4 then S.finishR steps tries i x0 st x
 else if x.kind=5 then (if st.state≠3 then (11,S) else (0,S.put i x0 ⟨1,x.time,st.step,st.site,st.failed⟩))
 else if st.state=4∨st.state=5 then (11,S)
 else if st.state=2 then (0,{ S with bs:=S.bs.set i (x0,⟨5,x.time,st.step,[],st.failed⟩),sm:=delS S.sm st.site,runs:=z1n S.runs st.site x.time })
 else (0,S.put i x0 ⟨5,x.time,st.step,st.site,st.failed⟩)
theorem ixB_lt {k:Nm}:∀ {bs:Brds} {i:Nat},ixB k bs=some i→∃ e,bs[i]?=some e:=fun {bs i} h=>by
 obtain⟨e,h1,_⟩:=(z7d k bs).2 i h
 exact⟨e,h1⟩
theorem zrZ (h:Heap) (i:Nat):refA (h.length+8+(3*i+2)) = .ref (qB h i) 0:=by unfold refA qB;rw[Nat.add_assoc]
set_option maxHeartbeats 8000000 in
theorem zsy (fb:Obj) (steps:List Nm) (tries:Int) (hst:steps.length≤1000) (S:Flo) (l:Heap) (i:Nat) (x0:Ent) (st:Sta) (x:Ent) (hx:ixB x.board S.bs=some i) (hi:S.bs[i]?=some (x0,st)) (hr:S.runs.length≤1000000) (he:S.ends.length≤1000000) (hs:st.state=2→st.step∈steps) (hf:0≤st.failed∧st.failed≤1000000) (hk:x.kind≠1) :
 z0c X z4c [.ref (h.length+7) 0,.p x.pv] (FS h fb steps tries S l) K=K (AI (S.old steps tries x i x0 st).1) (FS h fb steps tries (S.old steps tries x i x0 st).2 l) []:=by
 refine rule ?_
 rw[zgT rfl]
 have sS:=fun K=>zzn (h:=h) (K:=K) fb steps tries S (l++[x.bx]) i x0 st hi hr x
 have sF:=fun K=>zuT (h:=h) (K:=K) fb steps tries hst S (l++[x.bx]) i x0 st hi hr he hs hf x
 have lv:=fun K=>zsw (h:=h) (K:=K) fb steps tries S (l++[x.bx]) i _ hi hr x.time
 have tkS:∀ S',S'.bs.length=S.bs.length→(FS h fb steps tries S' (l++[x.bx])).take (h.length+(8+3*S.bs.length+l.length))=FS h fb steps tries S' l:=fun S' hl=>by
  unfold FS
  have:=zbC (h:=h) (B:=boxB S'.bs) (l:=l++[x.bx]) (o0:=fb) (o1:=mobj PV.str refA (mapB (h.length+8) S'.bs)) (o2:=dobj S'.sm S'.ck) (o3:=.row (some 5) (S'.ends.map EndP.pv) 0) (o4:=.row (some 3) (S'.runs.map RunP.pv) 0) (o5:=.row none (S'.ref.map eI) 0) (o6:=.row none (S'.why.map eI) 0) (o7:=wbx h steps tries S'.ends.length S'.runs.length S'.ref.length S'.why.length) l.length
  rw[z0P,hl] at this
  rw[this]
  simp
 have lenS:∀ r,(S.startR i x0 st x)=r→r.2.bs.length=S.bs.length:=fun r hr=>by
  subst hr;unfold Flo.startR Flo.start
  split
  ·rfl
  split
  ·rfl
  split
  ·rfl
  ·simp
 have lenF:∀ r,(S.finishR steps tries i x0 st x)=r→r.2.bs.length=S.bs.length:=fun r hr=>by
  subst hr;unfold Flo.finishR Flo.finish
  split
  ·rfl
  split
  ·rfl
  ·simp
 have lk:=fun (o0 o2 o3 o4 o5 o6 o7:Obj) (B l:Heap)=>z22 (kk:=(none,[2])) (k:=x.board) (h:=FH h o0 (mobj PV.str refA (mapB (h.length+8) S.bs)) o2 o3 o4 o5 o6 o7 B l) (id:=h.length+1) z5V z4T z1E (ok:=false) (z:=.nilp)
 rw[z5X,hx] at lk
 simp only[Option.map_some,Option.getD_some,zrZ,cond_false] at lk
 generalize hR:S.startR i x0 st x=R1 at *
 generalize hF:S.finishR steps tries i x0 st x=R2 at *
 have tk1:=tkS R1.2 (lenS R1 rfl)
 have tk2:=tkS R2.2 (lenF R2 rfl)
 obtain⟨Bx,b1,b2,b3,G,Sq,T,Tk⟩:=z8s (h:=h) hi
 obtain⟨H1,hH1⟩:∃ H,FS h fb steps tries R1.2 (l++[x.bx])=H:=⟨_,rfl⟩
 obtain⟨H2,hH2⟩:∃ H,FS h fb steps tries R2.2 (l++[x.bx])=H:=⟨_,rfl⟩
 rw[hH1] at sS tk1
 rw[hH2] at sF tk2
 have ml:=fun s=>z5Z (h.length+8) S.bs i _ s hi
 have cl:(z1n S.runs st.site x.time).length=S.runs.length:=by simp [z1n]
 unfold FS wbx Ent.bx at sS sF lv
 dsimp only at lv ml
 rw[b1] at sS sF
 rw[b1,b2,ml,cl] at lv
 simp only[Ent.pv] at sS sF
 have e1:∀ v:AV,splice [AI st.state,AI st.since,AS st.step,AS st.site,AI st.failed] 0 [v]=[v,AI st.since,AS st.step,AS st.site,AI st.failed]:=fun _=>rfl
 have G':=G st.state st.since st.step st.site st.failed
 have est:(⟨st.state,st.since,st.step,st.site,st.failed⟩:Sta)=st:=rfl
 rw[est] at G'
 by_cases k2:x.kind=2
 ·have e:S.old steps tries x i x0 st=R1:=by unfold Flo.old;rw[if_pos k2,hR]
  rw[e]
  obtain⟨G1,hG1⟩:∃ H,FS h fb steps tries R1.2 l=H:=⟨_,rfl⟩
  rw[hG1] at tk1 ⊢
  unfold FS wbx
  rw[b1]
  simp only[z2i,Ent.pv,go_sem,b3,T,lk,hk,eq_true k2,↓sS,sS]
  exact tk1
 by_cases k34:x.kind=3∨x.kind=4
 ·have e:S.old steps tries x i x0 st=R2:=by unfold Flo.old;rw[if_neg k2,if_pos k34,hF]
  rw[e]
  obtain⟨G1,hG1⟩:∃ H,FS h fb steps tries R2.2 l=H:=⟨_,rfl⟩
  rw[hG1] at tk2 ⊢
  unfold FS wbx
  rw[b1]
  rcases k34 with k3 | k4
  ·simp only[z2i,Ent.pv,go_sem,b3,T,lk,hk,k2,eq_true k3,↓sF,sF]
   exact tk2
  ·have k3:¬ x.kind=3:=by omega
   simp only[z2i,Ent.pv,go_sem,b3,T,lk,hk,k2,k3,eq_true k4,↓sF,sF]
   exact tk2
 have k3:¬ x.kind=3:=fun z=>k34 (.inl z)
 have k4:¬ x.kind=4:=fun z=>k34 (.inr z)
 by_cases k5:x.kind=5
 ·by_cases h3:st.state=3
  ·have e:S.old steps tries x i x0 st=(0,S.put i x0 ⟨1,x.time,st.step,st.site,st.failed⟩):=by unfold Flo.old;rw[if_neg k2,if_neg k34,if_pos k5,if_neg (by simp [h3])]
   rw[e]
   unfold Flo.put FS wbx
   dsimp only
   rw[b1]
   simp only[z2i,Ent.pv,go_sem,b3,T,lk,hk,k2,k3,k4,eq_true k5,G',G,Sq,splice,eq_true h3]
   rw[Tk,b2,ml]
  ·have e:S.old steps tries x i x0 st=(11,S):=by unfold Flo.old;rw[if_neg k2,if_neg k34,if_pos k5,if_pos h3]
   rw[e]
   unfold FS wbx
   dsimp only
   rw[b1]
   simp only[z2i,Ent.pv,go_sem,b3,T,lk,hk,k2,k3,k4,eq_true k5,G',h3]
   exact Tk _ _ _ _ _ _ _ _ _ _ _
 by_cases h45:st.state=4∨st.state=5
 ·have e:S.old steps tries x i x0 st=(11,S):=by unfold Flo.old;rw[if_neg k2,if_neg k34,if_neg k5,if_pos h45]
  rw[e]
  unfold FS wbx
  dsimp only
  rw[b1]
  rcases h45 with h4 | h5
  ·simp only[z2i,Ent.pv,go_sem,b3,T,lk,hk,k2,k3,k4,k5,G',eq_true h4]
   exact Tk _ _ _ _ _ _ _ _ _ _ _
  ·have h4:¬ st.state=4:=by omega
   simp only[z2i,Ent.pv,go_sem,b3,T,lk,hk,k2,k3,k4,k5,G',h4,eq_true h5]
   exact Tk _ _ _ _ _ _ _ _ _ _ _
 have h4:¬ st.state=4:=fun z=>h45 (.inl z)
 have h5:¬ st.state=5:=fun z=>h45 (.inr z)
 by_cases h2:st.state=2
 ·have e:S.old steps tries x i x0 st=(0,{ S with bs:=S.bs.set i (x0,⟨5,x.time,st.step,[],st.failed⟩),sm:=delS S.sm st.site,runs:=z1n S.runs st.site x.time }):=by unfold Flo.old;rw[if_neg k2,if_neg k34,if_neg k5,if_neg h45,if_pos h2]
  rw[e]
  unfold FS wbx
  dsimp only
  rw[b1]
  simp only[z2i,Ent.pv,go_sem,b3,T,lk,hk,k2,k3,k4,k5,G',G,Sq,splice,h4,h5,eq_true h2,↓lv,lv]
  rw[Tk,b2,ml,cl]
 ·have e:S.old steps tries x i x0 st=(0,S.put i x0 ⟨5,x.time,st.step,st.site,st.failed⟩):=by unfold Flo.old;rw[if_neg k2,if_neg k34,if_neg k5,if_neg h45,if_neg h2]
  rw[e]
  unfold Flo.put FS wbx
  dsimp only
  rw[b1]
  simp only[z2i,Ent.pv,go_sem,b3,T,lk,hk,k2,k3,k4,k5,G',G,Sq,splice,h4,h5,h2]
  rw[Tk,b2,ml]
end Go.Am
end
section
/- The floor: a board that zh5;what an entry does,plainly. -/
open Go
set_option linter.all false
set_option maxRecDepth 100000
namespace Go.Am
variable {h:Heap} {K:Post}
attribute [-go_sem] oEqa z0L z1v z3B
attribute [local go_sem] z1G z2w z4T z4U z7Y z7Z z8a z8b z6S z8c z8d z8e z8f z8g z8h z8i
theorem z8j (fb:Obj) (steps:List Nm) (tries:Int) (S:Flo) (l l2:Heap):(FS h fb steps tries S (l++l2)).take (h.length+(8+3*S.bs.length+l.length))=FS h fb steps tries S l:=by
 unfold FS
 have:=zbC (h:=h) (B:=boxB S.bs) (l:=l++l2) (o0:=fb) (o1:=mobj PV.str refA (mapB (h.length+8) S.bs)) (o2:=dobj S.sm S.ck) (o3:=.row (some 5) (S.ends.map EndP.pv) 0) (o4:=.row (some 3) (S.runs.map RunP.pv) 0) (o5:=.row none (S.ref.map eI) 0) (o6:=.row none (S.why.map eI) 0) (o7:=wbx h steps tries S.ends.length S.runs.length S.ref.length S.why.length) l.length
 rw[z0P] at this
 rw[this]
 simp
theorem z4N (S:Flo) (k:Nm) (o0 o2 o3 o4 o5 o6 o7:Obj) (B l:Heap):z0L (none,[2]) false .nilp (.mp (h.length+1)) (AS k) (FH h o0 (mobj PV.str refA (mapB (h.length+8) S.bs)) o2 o3 o4 o5 o6 o7 B l)=some (match ixB k S.bs with | some i=>.ref (qB h i) 0 | none=>.nilp):=by
 have lk:=z22 (kk:=(none,[2])) (k:=k) (h:=FH h o0 (mobj PV.str refA (mapB (h.length+8) S.bs)) o2 o3 o4 o5 o6 o7 B l) (id:=h.length+1) z5V z4T z1E (ok:=false) (z:=.nilp)
 rw[z5X] at lk
 rw[lk]
 cases ixB k S.bs with
 | none=>rfl
 | some i=>simp only[Option.map_some,Option.getD_some,zrZ,cond_false]
theorem tl1 {o0 o1 o2 o3 o4 o5 o6 o7 o:Obj} {bs:Brds} {l:Heap}:(FH h o0 o1 o2 o3 o4 o5 o6 o7 (boxB bs) (l++[o]))[h.length+(8+3*bs.length+l.length)]?=some o:=by
 have:=zbA (h:=h) (o0:=o0) (o1:=o1) (o2:=o2) (o3:=o3) (o4:=o4) (o5:=o5) (o6:=o6) (o7:=o7) (B:=boxB bs) (l:=l++[o]) l.length
 rw[z0P] at this
 rw[this];simp
theorem zjH (fb:Obj) (steps:List Nm) (tries:Int) (S:Flo) (l:Heap) (x:Ent) (hx:ixB x.board S.bs=none) (hk:x.kind≠1) :
 z0c X z4c [.ref (h.length+7) 0,.p x.pv] (FS h fb steps tries S l) K=K (AI 8) (FS h fb steps tries S l) []:=by
 refine rule ?_
 rw[zgT rfl]
 have lk:=fun (o0 o2 o3 o4 o5 o6 o7:Obj) (B l:Heap)=>z4N (h:=h) S x.board o0 o2 o3 o4 o5 o6 o7 B l
 rw[hx] at lk
 have tk:=z8j (h:=h) fb steps tries S l [x.bx]
 obtain⟨G1,hG1⟩:∃ H,FS h fb steps tries S l=H:=⟨_,rfl⟩
 rw[hG1] at tk ⊢
 rw[← hG1]
 unfold Ent.bx at tk
 unfold FS wbx at tk ⊢
 dsimp only at lk
 simp only[z2i,Ent.pv,go_sem,z0P,tl1,lk,hk]
 unfold FS wbx at hG1
 rw[hG1]
 exact tk
theorem zge (fb:Obj) (steps:List Nm) (tries:Int) (S:Flo) (l:Heap) (x:Ent) (i:Nat) (hx:ixB x.board S.bs=some i) (hk:x.kind=1) :
 z0c X z4c [.ref (h.length+7) 0,.p x.pv] (FS h fb steps tries S l) K=K (AI 6) (FS h fb steps tries S l) []:=by
 refine rule ?_
 rw[zgT rfl]
 have lk:=fun (o0 o2 o3 o4 o5 o6 o7:Obj) (B l:Heap)=>z4N (h:=h) S x.board o0 o2 o3 o4 o5 o6 o7 B l
 rw[hx] at lk
 have tk:=z8j (h:=h) fb steps tries S l [x.bx]
 obtain⟨G1,hG1⟩:∃ H,FS h fb steps tries S l=H:=⟨_,rfl⟩
 rw[hG1] at tk ⊢
 rw[← hG1]
 unfold Ent.bx at tk
 unfold FS wbx at tk ⊢
 dsimp only at lk
 simp only[z2i,Ent.pv,go_sem,z0P,tl1,lk,eq_true hk]
 unfold FS wbx at hG1
 rw[hG1]
 exact tk
def Flo.enter (S:Flo) (steps:List Nm) (x:Ent):Flo:={ S with bs:=S.bs++[(x,⟨1,x.time,steps.headD [],[],0⟩)] }
theorem zzh {b i t:Nat} {n:Int} {P:Post} {H:Heap} (hi:i<b) (ht:b≤t) (k:P (AI n) (H.take t) [(i,t)]):retK false b P (some [AI n]) H [(i,t)]:=by
 have e1:∀ m,reif m H (AI n)=some (AI n):=fun m=>by simp [reif]
 have e2:AV.top (AI n)=0:=by simp [AV.top]
 have e3:close 1 [(i,t)] b=t:=by simp [close,bump,hi];omega
 have e4:z0I [(i,t)] t=true:=by simp [z0I]
 have e5:[(i,t)].filter (fun y=>decide (y.1<t))=[(i,t)]:=by simp;omega
 have e6:z0C [AI n]=AI n:=rfl
 simp only[retK,e6,e1,e2,Nat.max_zero,List.length_cons,List.length_nil,Nat.zero_add,e3,e4,if_true,e5]
 exact⟨Nat.zero_le _,k⟩
set_option maxHeartbeats 4000000 in
theorem zsx (fb:Obj) (steps:List Nm) (tries:Int) (hst:steps≠[]) (S:Flo) (x:Ent) (hx:ixB x.board S.bs=none) (hk:x.kind=1) :
 z0c X z4c [.ref (h.length+7) 0,.p x.pv] (FS h fb steps tries S [x.bx]) K=K (AI 0) (FS h fb steps tries (S.enter steps x) []) [(h.length+1,h.length+(8+3*(S.bs.length+1)))]:=by
 refine rule ?_
 rw[zgT rfl]
 have lk:=fun (o0 o2 o3 o4 o5 o6 o7:Obj) (B l:Heap)=>z4N (h:=h) S x.board o0 o2 o3 o4 o5 o6 o7 B l
 rw[hx] at lk
 obtain⟨s0,sr,rfl⟩:∃ a r,steps=a::r:=by
  cases steps with
  | nil=>exact absurd rfl hst
  | cons a r=>exact⟨a,r,rfl⟩
 have wn:z1s x.board (mapB (h.length+8) S.bs)=none:=by
  have:=z79 (k:=x.board) (l:=mapB (h.length+8) S.bs)
  rw[z5X,hx] at this
  simpa using this
 have q0:h.length+8+3*S.bs.length+2=h.length+(8+3*S.bs.length+2):=by omega
 have up:=fun (o0 o2 o3 o4 o5 o6 o7:Obj) (B l:Heap)=>z4P (kk:=(none,[2])) (k:=x.board) (h:=FH h o0 (mobj PV.str refA (mapB (h.length+8) S.bs)) o2 o3 o4 o5 o6 o7 B l) (id:=h.length+1) z5V z4T z1E (v:=h.length+(8+3*S.bs.length+2)) (val:=refA) rfl
 rw[z7S wn] at up
 have ms:=zeG (h.length+8) S.bs (x,⟨1,x.time,s0,[],0⟩)
 rw[q0] at ms
 dsimp only at ms
 rw[← ms] at up
 have es:z2a (h.length+1) (refA (h.length+(8+3*S.bs.length+2)))=[(h.length+1,h.length+(8+3*(S.bs.length+1)))]:=by
  unfold z2a refA
  have e9:h.length+(8+3*S.bs.length+2)+1=h.length+(8+3*(S.bs.length+1)):=by omega
  simp only[AV.top,e9]
  rw[if_pos (by omega)]
 rw[es] at up
 simp only[refA] at up
 unfold Flo.enter
 obtain⟨bs,sm,ck,ends,runs,ref,why⟩:=S
 unfold FS wbx Ent.bx
 dsimp only at lk hx up ms ⊢
 have t1:∀ (o0 o1 o2 o3 o4 o5 o6 o7 a b:Obj),(FH h o0 o1 o2 o3 o4 o5 o6 o7 (boxB bs) [a,b])[h.length+(8+3*bs.length+1)]?=some b:=fun o0 o1 o2 o3 o4 o5 o6 o7 a b=>tl1 (l:=[a])
 have t2:∀ (o0 o1 o2 o3 o4 o5 o6 o7 a b c:Obj),(FH h o0 o1 o2 o3 o4 o5 o6 o7 (boxB bs) [a,b,c])[h.length+(8+3*bs.length+1)]?=some b:=fun o0 o1 o2 o3 o4 o5 o6 o7 a b c=>by
  have:=zbA (h:=h) (o0:=o0) (o1:=o1) (o2:=o2) (o3:=o3) (o4:=o4) (o5:=o5) (o6:=o6) (o7:=o7) (B:=boxB bs) (l:=[a,b,c]) 1
  rw[z0P] at this
  rw[this];rfl
 have cw:∀ v:List UInt8,cutP none 0 (PV.str v)=some (PV.str v):=fun _=>rfl
 simp only[z2i,Ent.pv,go_sem,z0P,t1,t2,lk,eq_true hk,cw,up]
 refine zzh (by omega) (by omega) ⟨rfl,?_,rfl⟩
 rw[List.take_of_length_le (by rw[z1G,z0P];simp;omega)]
 have sh:∀ (o0 o1 o2 o3 o4 o5 o6 o7:Obj) (B l:Heap),FH h o0 o1 o2 o3 o4 o5 o6 o7 B l=FH h o0 o1 o2 o3 o4 o5 o6 o7 (B++l) []:=fun _ _ _ _ _ _ _ _ _ _=>by unfold FH;simp
 rw[sh,zgP]
 rfl
end Go.Am
end
section
/- Entries that count;entries up tov a moment. -/
open Go
set_option linter.all false
set_option maxRecDepth 100000
namespace Go.Am
variable {h:Heap} {K:Post}
attribute [-go_sem] oEqa z0L z1v z3B
theorem zt5 {l:List Ent} {k:Nat} (hk:k<l.length):cntB (l.drop k)=(!decide ((l[k].site,l[k].no)∈z1z (l.drop (k+1))))::cntB (l.drop (k+1)):=by
 rw[List.drop_eq_getElem_cons hk,zmz]
theorem zvt {l:List Ent} {k:Nat} (hk:k<l.length):z1z (l.drop k)=if decide ((l[k].site,l[k].no)∈z1z (l.drop (k+1)))=false∧l[k].kind=7 then (l[k].of,l[k].other)::z1z (l.drop (k+1)) else z1z (l.drop (k+1)):=by
 rw[List.drop_eq_getElem_cons hk,z1z]
abbrev z19 (b:Bool):PV:=.bool b
def UndM (m:List ((List UInt8 × Int) × Bool)) (u:List (Nm × Int)):Prop:=∀ k,getM k m=if k∈u then some true else none
set_option maxHeartbeats 4000000 in
theorem zjF (l:List Ent) (hl:l.length≤100000):z0c X z9k [z1t l] h K=K (.p (.sl none ((cntB l).map z19))) h []:=by
 refine rule ?_
 rw[c_q05t rfl]
 have mx:l.length≤z1c:=by unfold z1c;omega
 have w0:IntKind.i64.wrap ((l.length:Int)-1)=(l.length:Int)-1:=z0l _ (by omega) (by omega)
 simp only[zht,go_sem,mx,w0]
 refine z08 (fun t:Nat × List ((List UInt8 × Int) × Bool)=>⟨[(0,z1t l),(3,.mp h.length),(4,.own (h.length+1) l.length 0 l.length),(5,AI ((t.1:Int)-1))],h++[mobj srcP z3R t.2,.row none (List.replicate t.1 (z19 false)++(cntB (l.drop t.1)).map z19) 0],[]⟩)
  (fun t=>t.1≤l.length∧UndM t.2 (z1z (l.drop t.1))) (fun t=>t.1) (l.length,[]) ?_ ⟨Nat.le_refl _,fun k=>by simp [z1z,getM]⟩ ?_
 ·simp only[List.drop_length,cntB,List.map_nil,List.append_nil]
  rfl
 rintro⟨k,m⟩ ⟨hk,hm⟩
 dsimp only at hk hm ⊢
 cases k with
 | zero=>
  have c0:¬ (0:Int)≤((0:Nat):Int)-1:=by omega
  have cl:=z1o l
  simp only[go_sem,c0,List.drop_zero,List.replicate_zero,List.nil_append]
  have hw:win ((cntB l).map z19) 0 l.length=(cntB l).map z19:=z7T (by simp [cl])
  simp only[List.length_map,cl,hw,if_true]
  rw[if_pos ⟨trivial,Nat.le_refl _⟩]
  simp [AV.top]
 | succ k=>
  have hlt:k<l.length:=by omega
  have c0:(0:Int)≤((k+1:Nat):Int)-1:=by omega
  have ek:(((k+1:Nat):Int)-1)=(k:Int):=by omega
  have w1:IntKind.i64.wrap ((k:Int)-1)=(k:Int)-1:=z0l _ (by omega) (by omega)
  have hk0:(0:Int)≤(k:Int):=by omega
  have hg:=z0K Ent.pv hlt
  have cx:=z3W (x:=l[k])
  have cs:=zt5 hlt
  have us:=zvt hlt
  have lrow:(List.replicate (k+1) (z19 false)++(cntB (l.drop (k+1))).map z19).length=l.length:=by
   rw[List.length_append,List.length_replicate,List.length_map,z1o,List.length_drop];omega
  have grow:(List.replicate (k+1) (z19 false)++(cntB (l.drop (k+1))).map z19)[k]?=some (z19 false):=by
   rw[List.getElem?_append_left (by simp),List.getElem?_replicate];simp
  have srow:∀ b:Bool,(List.replicate (k+1) (z19 false)++(cntB (l.drop (k+1))).map z19).set k (z19 b)=List.replicate k (z19 false)++(b::cntB (l.drop (k+1))).map z19:=fun b=>by
   rw[List.replicate_succ',List.append_assoc,List.set_append_right _ _ (by simp)]
   simp
  have grow2:∀ b:Bool,(List.replicate k (z19 false)++(b::cntB (l.drop (k+1))).map z19)[k]?=some (z19 b):=fun b=>by
   rw[List.getElem?_append_right (by simp)];simp
  have lrow2:∀ b:Bool,(List.replicate k (z19 false)++(b::cntB (l.drop (k+1))).map z19).length=l.length:=fun b=>by
   rw[List.length_append,List.length_replicate,List.length_map,List.length_cons,z1o,List.length_drop];omega
  obtain⟨R2,hR2⟩:∃ R2:Bool→List PV,∀ b,List.replicate k (z19 false)++(b::cntB (l.drop (k+1))).map z19=R2 b:=⟨_,fun _=>rfl⟩
  simp only[hR2] at srow grow2 lrow2
  have cb:∀ b:Bool,cutP none 0 (z19 b)=some (z19 b):=fun _=>rfl
  generalize hx:l[k]=x at *
  have lk:=fun (hp:Heap) (e:hp[h.length]?=some (mobj srcP z3R m))=>z22 (kk:=(some 2,[2,0])) (k:=(x.site,x.no)) z7L e z5W (ok:=false) (z:=z3R false)
  have up:=fun (hp:Heap) (e:hp[h.length]?=some (mobj srcP z3R m))=>z4P (kk:=(some 2,[2,0])) (k:=(x.of,x.other)) z7L e z5W (v:=true) rfl
  have l1:=fun t=>lk (h++mobj srcP z3R m::t) (by simp)
  have u1:=fun t=>up (h++mobj srcP z3R m::t) (by simp)
  have es:(Option.map z3R (getM (x.site,x.no) m)).getD (z3R false)=AB (decide ((x.site,x.no)∈z1z (l.drop (k+1)))):=by
   rw[hm]
   by_cases e:(x.site,x.no)∈z1z (l.drop (k+1)) <;> simp [e,z3R]
  simp only[cond_false,es] at l1
  have nl0:¬ h.length<0:=by omega
  simp only[z3R,srcP,z2a,AV.top,nl0,if_false] at l1 u1
  generalize hb:decide ((x.site,x.no)∈z1z (l.drop (k+1)))=b at *
  generalize hrow:List.replicate (k+1) (z19 false)++(cntB (l.drop (k+1))).map z19=row at *
  cases b with
  | true=>
   rw[if_neg (by simp)] at us
   simp only[go_sem,c0,ek,hk0,hlt,hg,cx,Ent.pv,splice,l1,lrow,grow,srow,grow2,lrow2,cb,w1]
   refine⟨(k,m),?_,⟨by dsimp only;omega,by rw[us];exact hm⟩,by dsimp only;omega⟩
   dsimp only
   rw[cs,hR2]
   rfl
  | false=>
   by_cases k7:x.kind=7
   ·rw[if_pos ⟨rfl,k7⟩] at us
    simp only[go_sem,c0,ek,hk0,hlt,hg,cx,Ent.pv,splice,l1,u1,lrow,grow,srow,grow2,lrow2,cb,w1,eq_true k7]
    refine⟨(k,updM (x.of,x.other) true m),?_,⟨by dsimp only;omega,?_⟩,by dsimp only;omega⟩
    ·dsimp only
     rw[cs,hR2]
     rfl
    ·rw[us]
     intro j
     rw[z9w,hm j]
     by_cases e:j=(x.of,x.other)
     ·simp [e]
     ·rw[if_neg e];simp [e]
   ·rw[if_neg (by simp [k7])] at us
    simp only[go_sem,c0,ek,hk0,hlt,hg,cx,Ent.pv,splice,l1,lrow,grow,srow,grow2,lrow2,cb,w1,k7]
    refine⟨(k,m),?_,⟨by dsimp only;omega,by rw[us];exact hm⟩,by dsimp only;omega⟩
    dsimp only
    rw[cs,hR2]
    rfl
end Go.Am
end
section
/- Entries followed. -/
open Go
set_option linter.all false
set_option maxRecDepth 100000
namespace Go.Am
variable {h:Heap} {K:Post}
attribute [-go_sem] oEqa z0L z1v z3B
attribute [local go_sem] z1G z2w z4T z4U z7Y z7Z z8a z8b z6S z8c z8d z8e z8f z8g z8h z8i
def Flo.act (S:Flo) (steps:List Nm) (tries:Int) (x:Ent):Int × Flo:=match ixB x.board S.bs with
 | none=>if x.kind=1 then (0,S.enter steps x) else (8,S)
 | some i=>match S.bs[i]? with
  | none=>(8,S)
  | some e=>if x.kind=1 then (6,S) else S.old steps tries x i e.1 e.2
structure FlI (S:Flo) (steps:List Nm) (n:Nat):Prop where
 st:∀ e∈S.bs,(e.2.state=1∨e.2.state=2∨e.2.state=3)→e.2.step∈steps
 fl:∀ e∈S.bs,0≤e.2.failed∧e.2.failed≤n
 nb:(S.bs.map fun e=>e.1.board).Nodup
 ns:(S.sm.map fun e=>e.1.1).Nodup
 bl:S.bs.length≤n
 rl:S.runs.length≤n
 el:S.ends.length≤n
 fr:S.ref.length≤n
 fw:S.why.length≤n
theorem zcc {α:Type} {l:List α} {i:Nat} {a y:α} (h:y∈l.set i a):y∈l∨y=a:=by
 rw[List.mem_iff_getElem?] at h
 obtain⟨j,hj⟩:=h
 rw[List.getElem?_set] at hj
 split at hj
 ·split at hj
  ·right;exact (Option.some.inj hj).symm
  ·cases hj
 ·left;exact List.mem_of_getElem? hj
theorem zs9 {bs:Brds} {i:Nat} {e:Ent × Sta} (he:bs[i]?=some e) (s:Sta):(bs.set i (e.1,s)).map (fun e=>e.1.board)=bs.map fun e=>e.1.board:=by
 rw[List.map_set]
 apply List.ext_getElem?
 intro j
 rw[List.getElem?_set]
 split
 ·rename_i h;subst h
  rw[List.getElem?_map,he]
  have:i<(bs.map fun e=>e.1.board).length:=by
   rw[List.length_map]
   rcases Nat.lt_or_ge i bs.length with h | h
   ·exact h
   ·rw[List.getElem?_eq_none h] at he;cases he
  rw[if_pos this];rfl
 ·rfl
theorem FlI.set {S:Flo} {steps:List Nm} {n:Nat} (I:FlI S steps n) {i:Nat} {e:Ent × Sta} (he:S.bs[i]?=some e) (s:Sta) (h1:(s.state=1∨s.state=2∨s.state=3)→s.step∈steps) (h2:0≤s.failed∧s.failed≤n+1)
 (S':Flo) (hb:S'.bs=S.bs.set i (e.1,s)) (hn:(S'.sm.map fun e=>e.1.1).Nodup) (hr:S'.runs.length≤n+1) (hl:S'.ends.length≤n+1) (hf:S'.ref=S.ref) (hw:S'.why=S.why):FlI S' steps (n+1) where
 st y hy:=by
  rw[hb] at hy
  rcases zcc hy with h | h
  ·exact I.st y h
  ·rw[h];exact h1
 fl y hy:=by
  rw[hb] at hy
  rcases zcc hy with h | h
  ·have:=I.fl y h;omega
  ·rw[h];dsimp only;omega
 nb:=by rw[hb,zs9 he];exact I.nb
 ns:=hn
 bl:=by rw[hb,List.length_set];have:=I.bl;omega
 rl:=hr
 el:=hl
 fr:=by rw[hf];have:=I.fr;omega
 fw:=by rw[hw];have:=I.fw;omega
theorem FlI.up {S:Flo} {steps:List Nm} {n:Nat} (I:FlI S steps n):FlI S steps (n+1):=
 ⟨I.st,fun e he=>by have:=I.fl e he;omega,I.nb,I.ns,by have:=I.bl;omega,by have:=I.rl;omega,by have:=I.el;omega,by have:=I.fr;omega,by have:=I.fw;omega⟩
theorem ztt {m:SMap} {k v:Nm} {c:Nat} (hn:getA (asS m) k=none):asS (m++[((k,v),c)])=putA (asS m) k v∧((m.map fun e=>e.1.1).Nodup→((m++[((k,v),c)]).map fun e=>e.1.1).Nodup):=by
 have ha:(asS m).any (fun e=>decide (e.1=k))=false:=by
  cases h:(asS m).any (fun e=>decide (e.1=k)) with
  | false=>rfl
  | true=>
   exfalso
   obtain⟨e,he,hk⟩:=List.any_eq_true.1 h
   unfold getA at hn
   rw[Option.map_eq_none_iff,List.find?_eq_none] at hn
   exact hn e he hk
 constructor
 ·unfold putA
  rw[if_neg (by simp [ha])]
  unfold asS
  simp
 ·intro hu
  rw[List.map_append,List.nodup_append]
  refine⟨hu,by simp,fun a ha2 b hb2 e=>?_⟩
  have hb3:b=k:=by simpa using hb2
  subst hb3
  subst e
  obtain⟨y,hy,e2⟩:=List.mem_map.1 ha2
  have:(asS m).any (fun e=>decide (e.1=a))=true:=List.any_eq_true.2 ⟨y.1,List.mem_map_of_mem hy,by simpa using e2⟩
  rw[ha] at this;cases this
theorem zpt {k:Nm}:∀ {bs:Brds},ixB k bs=none→k∉bs.map fun e=>e.1.board
 | [],_=>by simp
 | e::r,h=>by
  unfold ixB at h
  by_cases hk:k=e.1.board
  ·rw[if_pos hk] at h;cases h
  ·rw[if_neg hk] at h
   have:=zpt (bs:=r) (by simpa using h)
   simp only[List.map_cons,List.mem_cons,not_or]
   exact⟨hk,this⟩
theorem act_P {S:Flo} {steps:List Nm} {tries:Int} {n:Nat} (I:FlI S steps n) (hst:steps≠[]) (x:Ent) :
 (S.act steps tries x).1=(actP steps tries S.P x).2∧(S.act steps tries x).2.P=(actP steps tries S.P x).1∧FlI (S.act steps tries x).2 steps (n+1)∧(S.act steps tries x).2.ref=S.ref∧(S.act steps tries x).2.why=S.why:=by
 obtain⟨g1,g2⟩:=z7d x.board S.bs
 unfold Flo.act
 cases hx:ixB x.board S.bs with
 | none=>
  have hg:getA S.P.bs x.board=none:=g1 hx
  dsimp only
  by_cases k1:x.kind=1
  ·rw[if_pos k1]
   unfold actP
   rw[if_pos k1,hg]
   refine⟨rfl,?_,?_,rfl,rfl⟩
   ·unfold Flo.enter Flo.P
    dsimp only
    rw[zx8 hx x rfl]
   ·obtain⟨a,r,rfl⟩:∃ a r,steps=a::r:=by
     cases steps with
     | nil=>exact absurd rfl hst
     | cons a r=>exact⟨a,r,rfl⟩
    unfold Flo.enter
    refine⟨fun e he=>?_,fun e he=>?_,?_,I.ns,?_,by have:=I.rl;dsimp only;omega,by have:=I.el;dsimp only;omega,by have:=I.fr;dsimp only;omega,by have:=I.fw;dsimp only;omega⟩
    ·rcases List.mem_append.1 he with h | h
     ·exact I.st e h
     ·rw[List.mem_singleton.1 h];intro _;simp
    ·rcases List.mem_append.1 he with h | h
     ·have:=I.fl e h;omega
     ·rw[List.mem_singleton.1 h];dsimp only;omega
    ·dsimp only
     rw[List.map_append,List.nodup_append]
     refine⟨I.nb,by simp,fun a ha b hb e=>?_⟩
     have hb2:b=x.board:=by simpa using hb
     subst hb2;subst e
     exact zpt hx ha
    ·dsimp only;rw[List.length_append];have:=I.bl;simp;omega
  ·rw[if_neg k1]
   unfold actP
   rw[if_neg k1,hg]
   exact⟨rfl,rfl,I.up,rfl,rfl⟩
 | some i=>
  obtain⟨e,he,hk,hg⟩:=g2 i hx
  have hg':getA S.P.bs x.board=some e.2:=hg
  have pu:=fun s=>zx9 hx he I.nb s
  have hm:e∈S.bs:=List.mem_of_getElem? he
  have hfl:=I.fl e hm
  have hse:=I.st e hm
  dsimp only
  rw[he]
  dsimp only
  unfold actP
  by_cases k1:x.kind=1
  ·rw[if_pos k1,if_pos k1,hg']
   exact⟨rfl,rfl,I.up,rfl,rfl⟩
  rw[if_neg k1,if_neg k1,hg']
  dsimp only
  unfold Flo.old
  have rl:=I.rl
  have el:=I.el
  by_cases k2:x.kind=2
  ·rw[if_pos k2,if_pos k2]
   unfold Flo.startR
   by_cases h1:e.2.state≠1
   ·rw[if_pos h1,if_pos h1];exact⟨rfl,rfl,I.up,rfl,rfl⟩
   rw[if_neg h1,if_neg h1]
   by_cases h2:x.step≠e.2.step
   ·rw[if_pos h2,if_pos h2];exact⟨rfl,rfl,I.up,rfl,rfl⟩
   rw[if_neg h2,if_neg h2]
   have hb:S.P.sites=asS S.sm:=rfl
   rw[hb]
   by_cases h3:(getA (asS S.sm) x.site).isSome=true
   ·rw[if_pos h3,if_pos h3];exact⟨rfl,rfl,I.up,rfl,rfl⟩
   rw[if_neg h3,if_neg h3]
   have hn:getA (asS S.sm) x.site=none:=by simpa using h3
   obtain⟨q1,q2⟩:=ztt (v:=x.board) (c:=S.ck) hn
   refine⟨rfl,?_,?_,rfl,rfl⟩
   ·unfold Flo.start Flo.P
    dsimp only
    rw[pu,q1]
   ·have hs1:e.2.state=1:=by simpa using h1
    exact I.set he ⟨2,x.time,e.2.step,x.site,e.2.failed⟩ (fun _=>hse (.inl hs1)) (by dsimp only;omega) _ rfl (q2 I.ns) (by unfold Flo.start;dsimp only;rw[List.length_append];simp;omega) (by unfold Flo.start;dsimp only;omega) rfl rfl
  rw[if_neg k2,if_neg k2]
  by_cases k34:x.kind=3∨x.kind=4
  ·rw[if_pos k34,if_pos k34]
   unfold Flo.finishR
   by_cases h1:e.2.state≠2
   ·rw[if_pos h1,if_pos h1];exact⟨rfl,rfl,I.up,rfl,rfl⟩
   rw[if_neg h1,if_neg h1]
   by_cases h2:e.2.site≠x.site
   ·rw[if_pos h2,if_pos h2];exact⟨rfl,rfl,I.up,rfl,rfl⟩
   rw[if_neg h2,if_neg h2]
   have hs2:e.2.state=2:=by simpa using h1
   have hin:=hse (.inr (.inl hs2))
   obtain⟨q1,q2⟩:=zmZ (m:=S.sm) (k:=e.2.site) I.ns
   refine⟨rfl,?_,?_,rfl,rfl⟩
   ·unfold Flo.finish Flo.P
    dsimp only
    rw[pu,q1]
   ·refine I.set he (z05 steps tries e.2 x.time (decide (x.kind=3))) (fun h=>?_) ?_ _ rfl q2 (by unfold Flo.finish z1n;dsimp only;rw[List.length_map];omega) (by unfold Flo.finish;dsimp only;rw[List.length_append];simp;omega) rfl rfl
    ·unfold z05 at h ⊢
     by_cases k3:x.kind=3
     ·rw[if_pos (by simp [k3])] at h ⊢
      by_cases hj:steps.findIdx (fun y=>decide (y=e.2.step))+1=steps.length
      ·rw[if_pos hj] at h;dsimp only at h;omega
      ·rw[if_neg hj]
       have jl:steps.findIdx (fun y=>decide (y=e.2.step))<steps.length:=List.findIdx_lt_length_of_exists ⟨e.2.step,hin,by simp⟩
       have jl2:steps.findIdx (fun y=>decide (y=e.2.step))+1<steps.length:=by omega
       dsimp only
       rw[List.getElem?_eq_getElem jl2]
       exact List.getElem_mem jl2
     ·rw[if_neg (by simp [k3])];exact hin
    ·unfold z05
     split
     ·split <;> (dsimp only;omega)
     ·dsimp only;omega
  rw[if_neg k34,if_neg k34]
  by_cases k5:x.kind=5
  ·rw[if_pos k5,if_pos k5]
   by_cases h1:e.2.state≠3
   ·rw[if_pos h1,if_pos h1];exact⟨rfl,rfl,I.up,rfl,rfl⟩
   rw[if_neg h1,if_neg h1]
   have hs3:e.2.state=3:=by simpa using h1
   refine⟨rfl,?_,?_,rfl,rfl⟩
   ·unfold Flo.put Flo.P
    dsimp only
    rw[pu]
   ·exact I.set he ⟨1,x.time,e.2.step,e.2.site,e.2.failed⟩ (fun _=>hse (.inr (.inr hs3))) (by dsimp only;omega) _ rfl I.ns (by unfold Flo.put;dsimp only;omega) (by unfold Flo.put;dsimp only;omega) rfl rfl
  rw[if_neg k5,if_neg k5]
  by_cases h45:e.2.state=4∨e.2.state=5
  ·rw[if_pos h45,if_pos h45];exact⟨rfl,rfl,I.up,rfl,rfl⟩
  rw[if_neg h45,if_neg h45]
  have no5:∀ (a:Int) (b c:Nm) (f:Int),((⟨5,a,b,c,f⟩:Sta).state=1∨(⟨5,a,b,c,f⟩:Sta).state=2∨(⟨5,a,b,c,f⟩:Sta).state=3)→b∈steps:=fun a b c f h=>by dsimp only at h;omega
  by_cases h2:e.2.state=2
  ·rw[if_pos h2,if_pos h2]
   obtain⟨q1,q2⟩:=zmZ (m:=S.sm) (k:=e.2.site) I.ns
   refine⟨rfl,?_,?_,rfl,rfl⟩
   ·unfold Flo.P
    dsimp only
    rw[pu,q1]
   ·exact I.set he ⟨5,x.time,e.2.step,[],e.2.failed⟩ (no5 _ _ _ _) (by dsimp only;omega) _ rfl q2 (by unfold z1n;dsimp only;rw[List.length_map];omega) (by dsimp only;omega) rfl rfl
  ·rw[if_neg h2,if_neg h2]
   refine⟨rfl,?_,?_,rfl,rfl⟩
   ·unfold Flo.put Flo.P
    dsimp only
    rw[pu]
   ·exact I.set he ⟨5,x.time,e.2.step,e.2.site,e.2.failed⟩ (no5 _ _ _ _) (by dsimp only;omega) _ rfl I.ns (by unfold Flo.put;dsimp only;omega) (by unfold Flo.put;dsimp only;omega) rfl rfl
end Go.Am
end
section
/- Entries followed: the walk. -/
open Go
set_option linter.all false
set_option maxRecDepth 100000
namespace Go.Am
variable {h:Heap} {K:Post}
attribute [-go_sem] oEqa z0L z1v z3B
attribute [local go_sem] z1G z2w z4T z4U z7Y z7Z z8a z8b z6S z8c z8d z8e z8f z8g z8h z8i
def upK (l:List Ent) (at_:Int):Nat→Nat
 | 0=>0
 | k+1=>if at_<((l[k]?).map Ent.time).getD 0 then upK l at_ k else k+1
def upL (l:List Ent) (at_:Int):List Ent:=l.take (upK l at_ l.length)
theorem ziu (l:List Ent) (at_:Int) (hl:l.length≤1000000):z0c X z2Q [z1t l,AI at_] h K=K (z1t (upL l at_)) h []:=by
 refine rule ?_
 rw[c_q069 rfl]
 simp only[zhz,go_sem]
 refine z08 (fun k:Nat=>⟨[(0,z1t l),(1,AI at_),(5,AI k)],h,[]⟩) (fun k=>k≤l.length∧upK l at_ k=upK l at_ l.length) (fun k=>k) l.length rfl ⟨Nat.le_refl _,rfl⟩ ?_
 rintro k ⟨hk,hp⟩
 have fin:upK l at_ l.length=k→(∀ P:Prop,True)→z1t (upL l at_)=z1t (l.take k):=fun e _=>by unfold upL;rw[e]
 have hw:∀ k,win (l.map Ent.pv) 0 k=(l.take k).map Ent.pv:=fun k=>by simp [win,List.map_take]
 cases k with
 | zero=>
  have c0:¬ (0:Int)<((0:Nat):Int):=by omega
  have e:=fin hp.symm (fun _=>trivial)
  simp only[go_sem,Int.lt_irrefl,hw,Nat.zero_le,e,c0]
  first | done | rfl
 | succ k=>
  have hlt:k<l.length:=by omega
  have c0:(0:Int)<((k+1:Nat):Int):=by omega
  have w1:IntKind.i64.wrap (((k+1:Nat):Int)-1)=(k:Int):=by rw[z0l _ (by omega) (by omega)];omega
  have hg:=z0K Ent.pv hlt
  have ct:cutP none 2 (Ent.pv l[k])=some (eI l[k].time):=rfl
  rw[upK,List.getElem?_eq_getElem hlt] at hp
  have e0:(Option.map Ent.time (some l[k])).getD 0=l[k].time:=rfl
  rw[e0] at hp
  by_cases h1:at_<l[k].time
  ·rw[if_pos h1] at hp
   simp only[go_sem,c0,w1,hlt,hg,ct,h1]
   exact⟨k,rfl,⟨by omega,hp⟩,by omega⟩
  ·rw[if_neg h1] at hp
   have e:=fin hp.symm (fun _=>trivial)
   have hk':k+1≤l.length:=hk
   simp only[go_sem,c0,w1,hlt,hg,ct,h1,hw,hk',e]
   first | done | rfl
def zfN (S:Flo) (x:Ent):Bool:=(ixB x.board S.bs).isNone&&decide (x.kind=1)
theorem zgd (fb:Obj) (steps:List Nm) (tries:Int) (hst:steps.length≤1000) {n:Nat} (hn:n≤1000000) (S:Flo) (I:FlI S steps n) (l:Heap) (x:Ent) (hx:zfN S x=false) :
 z0c X z4c [.ref (h.length+7) 0,.p x.pv] (FS h fb steps tries S l) K=K (AI (S.act steps tries x).1) (FS h fb steps tries (S.act steps tries x).2 l) []:=by
 unfold Flo.act
 cases hi:ixB x.board S.bs with
 | none=>
  have k1:x.kind≠1:=by
   intro e
   unfold zfN at hx
   rw[hi,e] at hx
   simp at hx
  dsimp only
  rw[if_neg k1]
  exact zjH fb steps tries S l x hi k1
 | some i=>
  obtain⟨e,he⟩:=ixB_lt hi
  have hm:e∈S.bs:=List.mem_of_getElem? he
  dsimp only
  rw[he]
  dsimp only
  by_cases k1:x.kind=1
  ·rw[if_pos k1]
   exact zge fb steps tries S l x i hi k1
  ·rw[if_neg k1]
   have:=I.fl e hm
   have:=I.rl
   have:=I.el
   exact zsy fb steps tries hst S l i e.1 e.2 x hi he (by omega) (by omega) (fun h2=>I.st e hm (.inr (.inl h2))) (by omega) k1
def Flo.step (S:Flo) (steps:List Nm) (tries:Int) (i:Nat) (x:Ent):Flo:=
 if (S.act steps tries x).1≠0 then { (S.act steps tries x).2 with ref:=(S.act steps tries x).2.ref++[(i:Int)],why:=(S.act steps tries x).2.why++[(S.act steps tries x).1] } else (S.act steps tries x).2
def Flo.go (steps:List Nm) (tries:Int):Flo→Nat→List (Ent × Bool)→Flo
 | S,_,[]=>S
 | S,i,(x,c)::r=>if c=false∨x.kind=7 then Flo.go steps tries S (i+1) r else Flo.go steps tries (S.step steps tries i x) (i+1) r
def flo0:Flo:=⟨[],[],0,[],[],[],[]⟩
theorem flI0 (steps:List Nm):FlI flo0 steps 0:=
 ⟨fun e he=>(by cases he),fun e he=>(by cases he),List.nodup_nil,List.nodup_nil,Nat.le_refl _,Nat.le_refl _,Nat.le_refl _,Nat.le_refl _,Nat.le_refl _⟩
theorem zsC {S:Flo} {steps:List Nm} {tries:Int} {n:Nat} (I:FlI S steps n) (hst:steps≠[]) (i:Nat) (x:Ent) :
 FlI (S.step steps tries i x) steps (n+1)∧(S.step steps tries i x).P=(actP steps tries S.P x).1∧(S.step steps tries i x).ref=(if (actP steps tries S.P x).2≠0 then S.ref++[(i:Int)] else S.ref)∧(S.step steps tries i x).why=(if (actP steps tries S.P x).2≠0 then S.why++[(actP steps tries S.P x).2] else S.why):=by
 obtain⟨a1,a2,a3,a4,a5⟩:=act_P (tries:=tries) I hst x
 unfold Flo.step
 rw[← a1]
 by_cases h0:(S.act steps tries x).1≠0
 ·rw[if_pos h0,if_pos h0,if_pos h0]
  refine⟨⟨a3.st,a3.fl,a3.nb,a3.ns,a3.bl,a3.rl,a3.el,?_,?_⟩,a2,by dsimp only;rw[a4],by dsimp only;rw[a5]⟩
  ·dsimp only;rw[List.length_append,a4];have:=I.fr;simp;omega
  ·dsimp only;rw[List.length_append,a5];have:=I.fw;simp;omega
 ·rw[if_neg h0,if_neg h0,if_neg h0]
  exact⟨a3,a2,a4,a5⟩
def escE (h:Heap):Nat→Esc
 | 0=>[]
 | n+1=>(h.length+1,h.length+(8+3*(n+1)))::escE h n
theorem z2y {h:Heap}:∀ {n:Nat} {y:Nat × Nat},y∈escE h n→y.1=h.length+1∧y.2≤h.length+(8+3*n)
 | 0,y,hy=>by cases hy
 | n+1,y,hy=>by
  rcases List.mem_cons.1 hy with e | e
  ·rw[e];exact⟨rfl,Nat.le_refl _⟩
  ·have:=z2y e;omega
theorem zex (h:Heap):∀ (n m:Nat),h.length+8≤m→m≤h.length+(8+3*n)→bump (escE h n) m=h.length+(8+3*n)
 | 0,m,h1,h2=>by simp [escE,bump];omega
 | n+1,m,h1,h2=>by
  unfold escE bump
  rw[List.foldl_cons,if_pos (by dsimp only;omega)]
  have e:max m (h.length+(8+3*(n+1)))=h.length+(8+3*(n+1)):=by omega
  dsimp only
  rw[e]
  have:∀ (x:Esc) (m:Nat),(∀ y∈x,y.2≤m)→x.foldl (fun m y=>if y.1<m then max m y.2 else m) m=m:=by
   intro x
   induction x with
   | nil=>intro m _;rfl
   | cons y r ih=>
    intro m hm
    rw[List.foldl_cons]
    have h1:=hm y (List.mem_cons_self ..)
    have:(if y.1<m then max m y.2 else m)=m:=by split <;> omega
    rw[this]
    exact ih m fun z hz=>hm z (List.mem_cons_of_mem _ hz)
  exact this _ _ fun y hy=>by have:=(z2y hy).2;omega
theorem zzi {b q n:Nat} {P:Post} {H:Heap} (hq:q=b+7) (hH:H.length=b+(8+3*n)) (x:Esc) (hx:∃ h:Heap,h.length=b∧x=escE h n) (k:P (.ref q 0) H x):retK false b P (some [.ref q 0]) H x:=by
 obtain⟨h,rfl,rfl⟩:=hx
 subst hq
 have e1:∀ m,reif m H (.ref (h.length+7) 0)=some (.ref (h.length+7) 0):=fun m=>by simp [reif]
 have e2:AV.top (.ref (h.length+7) 0)=h.length+8:=by simp [AV.top]
 have e6:z0C [AV.ref (h.length+7) 0] = .ref (h.length+7) 0:=rfl
 have e7:max h.length (h.length+8)=h.length+8:=by omega
 have e3:∀ c,bump (escE h n) c=h.length+(8+3*n)→close (escE h n).length (escE h n) (h.length+8)=h.length+(8+3*n):=by
  intro c _
  have hb:=fun m h1 h2=>zex h n m h1 h2
  have:∀ k m,h.length+8≤m→m≤h.length+(8+3*n)→(m=h.length+(8+3*n)∨1≤k)→close k (escE h n) m=h.length+(8+3*n):=by
   intro k
   induction k with
   | zero=>intro m h1 h2 h3;unfold close;omega
   | succ k ih=>
    intro m h1 h2 _
    unfold close
    rw[hb m h1 h2]
    exact ih _ (by omega) (Nat.le_refl _) (.inl rfl)
  refine this _ _ (Nat.le_refl _) (by omega) ?_
  cases n with
  | zero=>left;omega
  | succ n=>right;simp [escE]
 have e3':=e3 _ (zex h n _ (Nat.le_refl _) (by omega))
 have e4:z0I (escE h n) (h.length+(8+3*n))=true:=by
  unfold z0I
  rw[List.all_eq_true]
  intro y hy
  have:=(z2y hy).2
  simp [this]
 have e5:(escE h n).filter (fun y=>decide (y.1<h.length+(8+3*n)))=escE h n:=by
  rw[List.filter_eq_self]
  intro y hy
  have:=(z2y hy).1
  simp;omega
 have e8:H.take (h.length+(8+3*n))=H:=List.take_of_length_le (by omega)
 simp only[retK,e6,e1,e2,e7,e3',e4,e5,e8,if_true]
 exact⟨by omega,k⟩
theorem zkL (fb:Obj) (steps:List Nm) (tries:Int) (S:Flo) (l:Heap):(FS h fb steps tries S l).length=h.length+(8+3*S.bs.length+l.length):=by unfold FS;rw[z1G,z0P]
end Go.Am
end
section
/- Entries followed: the walk,all. -/
open Go
set_option linter.all false
set_option maxRecDepth 100000
namespace Go.Am
variable {h:Heap} {K:Post}
attribute [-go_sem] oEqa z0L z1v z3B
attribute [local go_sem] z1G z2w z4T z4U z7Y z7Z z8a z8b z6S z8c z8d z8e z8f z8g z8h z8i
abbrev z5v (steps:List Nm) (tries:Int):AV:=.p (.agg [.sl none (steps.map .str),eI tries])
def flB (steps:List Nm) (tries:Int):Obj:=.box [AStr steps,AI tries]
def zipC (l:List Ent):List (Ent × Bool):=l.zip (cntB l)
theorem z7U (l:List Ent):(zipC l).length=l.length:=by unfold zipC;rw[List.length_zip,z1o];simp
theorem zvx {l:List Ent} {k:Nat} (hk:k<l.length):(zipC l)[k]'(by rw[z7U];exact hk)=(l[k],(cntB l)[k]'(by rw[z1o];exact hk)):=by unfold zipC;rw[List.getElem_zip]
theorem zx4 {S:Flo} {steps:List Nm} {tries:Int} {x:Ent} (hx:zfN S x=false):(S.act steps tries x).2.bs.length=S.bs.length:=by
 unfold Flo.act
 cases hi:ixB x.board S.bs with
 | none=>
  have k1:x.kind≠1:=by
   intro e
   unfold zfN at hx
   rw[hi,e] at hx
   simp at hx
  dsimp only
  rw[if_neg k1]
 | some i=>
  dsimp only
  cases S.bs[i]? with
  | none=>rfl
  | some e=>
   dsimp only
   split
   ·rfl
   ·unfold Flo.old Flo.startR Flo.start Flo.finishR Flo.finish Flo.put
    split
    ·split
     ·rfl
     split
     ·rfl
     split
     ·rfl
     ·simp
    split
    ·split
     ·rfl
     split
     ·rfl
     ·simp
    split
    ·split
     ·rfl
     ·simp
    split
    ·rfl
    split
    ·simp
    ·simp
abbrev z1j (steps:List Nm) (tries:Int) (l:List Ent):Flo:=Flo.go steps tries flo0 0 (zipC l)
set_option maxHeartbeats 8000000 in
theorem z7Q (steps:List Nm) (tries:Int) (h1:steps.length≤1000) (h0:steps≠[]) (l:List Ent) (hl:l.length≤1000) :
 z0c X z1H [z5v steps tries,z1t l] h K=K (.ref (h.length+7) 0) (FS h (flB steps tries) steps tries (z1j steps tries l) []) (escE h (z1j steps tries l).bs.length):=by
 refine rule ?_
 rw[c_q064 rfl]
 have cnt:=fun h K=>zjF (h:=h) (K:=K) l (by omega)
 simp only[zhw,go_sem,↓cnt,cnt]
 have hF0:Flo.go steps tries flo0 0 ((zipC l).drop 0)=z1j steps tries l:=rfl
 generalize z1j steps tries l=F at *
 refine z08 (fun t:Nat × Flo=>⟨[(5,.ref (h.length+7) 0),(6,.p (.sl none ((cntB l).map z19))),(17,z1t l),(18,AI l.length),(19,AI t.1)],FS h (flB steps tries) steps tries t.2 [],escE h t.2.bs.length⟩)
  (fun t=>t.1≤l.length∧Flo.go steps tries t.2 t.1 ((zipC l).drop t.1)=F∧FlI t.2 steps t.1) (fun t=>l.length-t.1) (0,flo0) ?_ ⟨Nat.zero_le _,hF0,flI0 steps⟩ ?_
 ·rfl
 rintro⟨k,S⟩ ⟨hk,hp,I⟩
 dsimp only at hk hp I ⊢
 rcases Nat.lt_or_ge k l.length with hlt | hge
 ·have w1:IntKind.i64.wrap ((k:Int)+1)=((k+1:Nat):Int):=z0l _ (by omega) (by omega)
  have hkc:k<(cntB l).length:=by rw[z1o];exact hlt
  have hg:=z0K Ent.pv hlt
  have hc:=z0K z19 hkc
  have cx:=z3W (x:=l[k])
  have cc:∀ b:Bool,cutP none 0 (z19 b)=some (z19 b):=fun _=>rfl
  have hzl:k<(zipC l).length:=by rw[z7U];exact hlt
  rw[List.drop_eq_getElem_cons hzl,zvx hlt] at hp
  unfold Flo.go at hp
  generalize (cntB l)[k]=c at *
  generalize hx:l[k]=x at *
  have lenS:=zkL (h:=h) (flB steps tries) steps tries S []
  simp only[List.length_nil,Nat.add_zero] at lenS
  have app0:∀ (S:Flo) (l2:Heap),FS h (flB steps tries) steps tries S []++l2=FS h (flB steps tries) steps tries S l2:=fun S l2=>by unfold FS;rw[z2w];rfl
  have gt:∀ (o:Obj),(FS h (flB steps tries) steps tries S [o])[h.length+(8+3*S.bs.length)]?=some o:=fun o=>by unfold FS;exact tl1 (l:=[])
  have st:∀ (o o':Obj),(FS h (flB steps tries) steps tries S [o]).set (h.length+(8+3*S.bs.length)) o'=FS h (flB steps tries) steps tries S [o']:=fun o o'=>by
   unfold FS
   have:=zth (h:=h) (B:=boxB S.bs) (l:=[o]) (o:=o') (o0:=flB steps tries) (o1:=mobj PV.str refA (mapB (h.length+8) S.bs)) (o2:=dobj S.sm S.ck) (o3:=.row (some 5) (S.ends.map EndP.pv) 0) (o4:=.row (some 3) (S.runs.map RunP.pv) 0) (o5:=.row none (S.ref.map eI) 0) (o6:=.row none (S.why.map eI) 0) (o7:=wbx h steps tries S.ends.length S.runs.length S.ref.length S.why.length) 0
   rw[z0P] at this
   exact this
  have tk0:∀ (o:Obj),(FS h (flB steps tries) steps tries S [o]).take (h.length+(8+3*S.bs.length))=FS h (flB steps tries) steps tries S []:=fun o=>z8j (h:=h) (flB steps tries) steps tries S [] [o]
  have f1:h.length+7+1≤h.length+(8+3*S.bs.length):=by omega
  by_cases hskip:c=false∨x.kind=7
  ·rw[if_pos hskip] at hp
   rcases hskip with e | e
   ·subst e
    simp only[go_sem,hlt,hg,hc,cx,cc,Ent.pv,lenS,app0,gt,st,splice,w1,tk0,f1]
    exact⟨(k+1,S),rfl,⟨by dsimp only;omega,hp,I.up⟩,by dsimp only;omega⟩
   ·cases c with
    | false=>
     simp only[go_sem,hlt,hg,hc,cx,cc,Ent.pv,lenS,app0,gt,st,splice,w1,tk0,f1]
     exact⟨(k+1,S),rfl,⟨by dsimp only;omega,hp,I.up⟩,by dsimp only;omega⟩
    | true=>
     simp only[go_sem,hlt,hg,hc,cx,cc,Ent.pv,lenS,app0,gt,st,splice,w1,tk0,f1,eq_true e]
     exact⟨(k+1,S),rfl,⟨by dsimp only;omega,hp,I.up⟩,by dsimp only;omega⟩
  ·rw[if_neg hskip] at hp
   rw[not_or] at hskip
   have c1:c=true:=by simpa using hskip.1
   have k7:=hskip.2
   subst c1
   obtain⟨I2,_⟩:=zsC (tries:=tries) I h0 k x
   by_cases hnew:zfN S x=true
   ·unfold zfN at hnew
    rw[Bool.and_eq_true,Option.isNone_iff_eq_none] at hnew
    obtain⟨n1,n2⟩:=hnew
    have n2:x.kind=1:=by simpa using n2
    have ea:S.act steps tries x=(0,S.enter steps x):=by unfold Flo.act;rw[n1];dsimp only;rw[if_pos n2]
    have es:S.step steps tries k x=S.enter steps x:=by unfold Flo.step;rw[ea];exact if_neg (by simp)
    rw[es] at hp I2
    have tkN:=fun K=>zsx (h:=h) (K:=K) (flB steps tries) steps tries h0 S x n1 n2
    simp only[Ent.pv,Ent.bx] at tkN
    have lenE:(S.enter steps x).bs.length=S.bs.length+1:=by unfold Flo.enter;simp
    have tkE:(FS h (flB steps tries) steps tries (S.enter steps x) []).take (h.length+(8+3*(S.bs.length+1)))=FS h (flB steps tries) steps tries (S.enter steps x) []:=by
     have:=z8j (h:=h) (flB steps tries) steps tries (S.enter steps x) [] []
     rw[lenE] at this
     exact this
    have mx:max (h.length+(8+3*S.bs.length)) (h.length+(8+3*(S.bs.length+1)))=h.length+(8+3*(S.bs.length+1)):=by omega
    have tr:∀ (x0:Esc) (e:List (Nat × AV)) (H:Heap),z5t (h.length+(8+3*S.bs.length)) x0 ⟨e,H,[(h.length+1,h.length+(8+3*(S.bs.length+1)))]⟩=⟨z83 (h.length+(8+3*(S.bs.length+1))) e,H.take (h.length+(8+3*(S.bs.length+1))),(h.length+1,h.length+(8+3*(S.bs.length+1)))::x0⟩:=fun x0 e H=>by rw[zsL (by omega),mx]
    have f2:h.length+7+1≤h.length+(8+3*(S.bs.length+1)):=by omega
    simp only[go_sem,hlt,hg,hc,cx,cc,Ent.pv,lenS,app0,gt,st,splice,w1,k7,↓tkN,tkN,tr,tkE,f2]
    exact⟨(k+1,S.enter steps x),by dsimp only;rw[lenE];rfl,⟨by dsimp only;omega,hp,I2⟩,by dsimp only;omega⟩
   ·have hnew:zfN S x=false:=by simpa using hnew
    have tkO:=fun K=>zgd (h:=h) (K:=K) (flB steps tries) steps tries h1 (n:=k) (by omega) S I [x.bx] x hnew
    have lenA:(S.act steps tries x).2.bs.length=S.bs.length:=zx4 hnew
    simp only[Ent.pv,Ent.bx] at tkO
    obtain⟨_,_,I3,a4,a5⟩:=act_P (tries:=tries) I h0 x
    have fr:=I3.fr
    have fw:=I3.fw
    unfold Flo.step at hp I2
    generalize S.act steps tries x=R at *
    obtain⟨e,S2⟩:=R
    dsimp only at *
    have tk2:∀ (o:Obj),(FS h (flB steps tries) steps tries S2 [o]).take (h.length+(8+3*S.bs.length))=FS h (flB steps tries) steps tries S2 []:=fun o=>by
     have:=z8j (h:=h) (flB steps tries) steps tries S2 [] [o]
     rw[lenA] at this
     exact this
    by_cases e0:e=0
    ·rw[if_neg (by simp [e0])] at hp I2
     simp only[go_sem,hlt,hg,hc,cx,cc,Ent.pv,lenS,app0,gt,st,splice,w1,k7,↓tkO,tkO,eq_true e0,tk2,f1]
     exact⟨(k+1,S2),by dsimp only;rw[lenA],⟨by dsimp only;omega,hp,I2⟩,by dsimp only;omega⟩
    ·rw[if_pos e0] at hp I2
     obtain⟨bs2,sm2,ck2,ends2,runs2,ref2,why2⟩:=S2
     dsimp only at *
     have m1:ref2.length+1≤z1c:=by unfold z1c;omega
     have m2:why2.length+1≤z1c:=by unfold z1c;omega
     have e5:=fun n o m=>esc7 h 5 n o m (by decide)
     have e6:=fun n o m=>esc7 h 6 n o m (by decide)
     have tkF:∀ (o0 o1 o2 o3 o4 o5 o6 o7 b:Obj),(FH h o0 o1 o2 o3 o4 o5 o6 o7 (boxB bs2) [b]).take (h.length+(8+3*S.bs.length))=FH h o0 o1 o2 o3 o4 o5 o6 o7 (boxB bs2) []:=fun o0 o1 o2 o3 o4 o5 o6 o7 b=>by
      have:=zbC (h:=h) (o0:=o0) (o1:=o1) (o2:=o2) (o3:=o3) (o4:=o4) (o5:=o5) (o6:=o6) (o7:=o7) (B:=boxB bs2) (l:=[b]) 0
      rw[z0P,lenA] at this
      exact this
     have eS:∀ l,FS h (flB steps tries) steps tries ⟨bs2,sm2,ck2,ends2,runs2,ref2,why2⟩ l=FH h (flB steps tries) (mobj PV.str refA (mapB (h.length+8) bs2)) (dobj sm2 ck2) (.row (some 5) (ends2.map EndP.pv) 0) (.row (some 3) (runs2.map RunP.pv) 0) (.row none (ref2.map eI) 0) (.row none (why2.map eI) 0)
      (.box [AStr steps,AI tries,.mp (h.length+1),.mp (h.length+2),.own (h.length+3) ends2.length 0 ends2.length,.own (h.length+4) runs2.length 0 runs2.length,.own (h.length+5) ref2.length 0 ref2.length,.own (h.length+6) why2.length 0 why2.length]) (boxB bs2) l:=fun l=>rfl
     simp only[eS] at tkO
     simp only[go_sem,hlt,hg,hc,cx,cc,Ent.pv,lenS,app0,gt,st,splice,w1,k7,↓tkO,tkO,e0,tkF,f1,m1,m2,e5,e6]
     refine⟨(k+1,⟨bs2,sm2,ck2,ends2,runs2,ref2++[(k:Int)],why2++[e]⟩),?_,⟨by dsimp only;omega,hp,I2⟩,by dsimp only;omega⟩
     dsimp only
     rw[lenA]
     unfold FS wbx
     simp only[List.map_append,List.length_append,List.map_cons,List.map_nil,List.length_cons,List.length_nil,Nat.zero_add]
 ·have ek:k=l.length:=by omega
  subst ek
  rw[show (zipC l).drop l.length=[] from List.drop_of_length_le (by rw[z7U];exact Nat.le_refl _)] at hp
  unfold Flo.go at hp
  subst hp
  have fl:h.length+7+1≤(FS h (flB steps tries) steps tries S []).length:=by rw[zkL];omega
  simp only[go_sem,Nat.lt_irrefl,fl]
  refine zzi (n:=S.bs.length) (H:=FS h (flB steps tries) steps tries S []) rfl (zkL (flB steps tries) steps tries S []) _ ⟨h,rfl,rfl⟩ ?_
  exact⟨rfl,rfl,rfl⟩
end Go.Am
end
section
/- Flows;what is refused;the status of a board: the program. -/
open Go
set_option linter.all false
set_option maxRecDepth 100000
namespace Go.Am
variable {h:Heap} {K:Post}
attribute [-go_sem] oEqa z0L z1v z3B
attribute [local go_sem] z1G z2w z4T z4U z7Y z7Z z8a z8b z6S z8c z8d z8e z8f z8g z8h z8i
def z38:List Nm→List Nm→Int
 | _,[]=>0
 | pre,s::r=>if keyB s=false then 5 else if pre.contains s=true then 6 else z38 (pre++[s]) r
def zfK (steps:List Nm) (tries:Int):Int:=if steps.length=0 then 8 else if (20:Int)<steps.length then 2 else if z38 [] steps≠0 then z38 [] steps else if inB 1 tries 10=false then 1 else 0
attribute [-go_sem] z8Z
theorem zfY (steps:List Nm) (tries:Int) (hl:steps.length≤1000) (hk:∀ s∈steps,s.length≤1000000):z0c X z9i [z5v steps tries] h K=K (AI (zfK steps tries)) h []:=by
 refine rule ?_
 rw[c_q05i rfl]
 unfold zfK
 by_cases h0:steps.length=0
 ·have h0':(steps.length:Int)=0:=by omega
  simp only[za7,go_sem,eq_true h0',h0]
 have h0':¬ (steps.length:Int)=0:=by omega
 by_cases h1:(20:Int)<steps.length
 ·simp only[za7,go_sem,h0',h0,h1]
 simp only[za7,go_sem,h0',h0,h1]
 refine z08 (fun k:Nat=>⟨[(1,.ref h.length 0),(16,AStr steps),(17,AI steps.length),(18,AI k)],h++[.box [AStr steps,AI tries]],[]⟩) (fun k=>k≤steps.length∧z38 (steps.take k) (steps.drop k)=z38 [] steps) (fun k=>steps.length-k) 0 rfl ⟨by omega,rfl⟩ ?_
 rintro k ⟨hkl,hp⟩
 rcases Nat.lt_or_ge k steps.length with hlt | hge
 ·have hg:=z0K PV.str hlt
  have cw:∀ v:List UInt8,cutP none 0 (PV.str v)=some (PV.str v):=fun _=>rfl
  have w2:IntKind.i64.wrap ((k:Int)+1)=((k+1:Nat):Int):=z0l _ (by omega) (by omega)
  have ky:=fun h K=>zjE (h:=h) (K:=K) steps[k] (by have:=hk _ (List.getElem_mem hlt);omega)
  have ct:=fun h K=>z7W (h:=h) (K:=K) (steps.take k) (fun h' _=>strS _) steps[k] (by simp;omega)
  have hw:win (steps.map PV.str) 0 k=(steps.take k).map PV.str:=by simp [win,List.map_take]
  have hk2:k≤steps.length:=by omega
  rw[List.drop_eq_getElem_cons hlt,z38] at hp
  cases h2:keyB steps[k] with
  | false=>
   rw[if_pos h2] at hp
   simp only[go_sem,hlt,hg,cw,↓ky,ky,h2]
   rw[← hp]
   first | done | rfl
  | true=>
   rw[if_neg (by simp [h2])] at hp
   cases h3:(steps.take k).contains steps[k] with
   | true=>
    rw[if_pos h3] at hp
    rw[h3] at ct
    simp only[go_sem,hlt,hg,cw,↓ky,ky,h2,hw,hk2,↓ct,ct]
    rw[← hp]
    first | done | rfl
   | false=>
    rw[if_neg (by rw[h3];simp),← List.take_succ_eq_append_getElem hlt] at hp
    rw[h3] at ct
    simp only[go_sem,hlt,hg,cw,↓ky,ky,h2,hw,hk2,↓ct,ct,w2]
    exact⟨k+1,rfl,⟨by omega,hp⟩,by omega⟩
 ·have ek:k=steps.length:=by omega
  subst ek
  rw[List.drop_length] at hp
  have hz:z38 [] steps=0:=by rw[← hp];rfl
  rw[if_neg (by simp [hz])]
  simp only[go_sem,Nat.lt_irrefl]
  rw[z8Z]
  cases h4:inB 1 tries 10 with
  | false=>simp only[z5G,go_sem,z2C,h4];first | done | rfl
  | true=>simp only[z5G,go_sem,z2C,h4];first | done | rfl
def momF (n:Int):Int:=if z1L n=true then 0 else 1
theorem zcl (n:Int):z0c X z9q [AI n] h K=K (AI (momF n)) h []:=by
 refine rule ?_
 rw[c_q065 rfl]
 unfold momF
 cases h1:z1L n with
 | false=>simp only[zhx,go_sem,z2d,h1,Bool.false_eq_true]
 | true=>simp only[zhx,go_sem,z2d,h1]
def z3S (steps:List Nm) (tries:Int) (l:List Ent) (at_:Int):Int:=orL [zfK steps tries,z3X l,momF at_]
structure StOk (steps:List Nm) (l:List Ent):Prop where
 n:steps.length≤1000
 k:∀ s∈steps,s.length≤1000000
 e:∀ x∈l,EntOk x
 l:l.length≤1000
theorem zck (steps:List Nm) (tries:Int) (l:List Ent) (O:StOk steps l) (at_:Int):z0c X z2P [z5v steps tries,z1t l,AI at_] h K=K (AI (z3S steps tries l at_)) h []:=by
 refine rule ?_
 rw[c_q05v rfl]
 have q1:=fun h K=>zfY (h:=h) (K:=K) steps tries O.n O.k
 have q2:=fun h K=>zan (h:=h) (K:=K) l O.e (by have:=O.l;omega)
 have q3:=fun h K=>zcl (h:=h) (K:=K) at_
 have q4:=fun h K=>zzk (h:=h) (K:=K) [zfK steps tries,z3X l,momF at_] (by simp)
 simp only[AL,List.map_cons,List.map_nil] at q4
 simp only[zmT,go_sem,↓q1,q1,↓q2,q2,↓q3,q3,↓q4,q4]
 rfl
def sta0:Sta:=⟨0,0,[],[],0⟩
def ofP (steps:List Nm) (tries:Int) (l:List Ent) (board:Nm) (at_:Int):Sta × Int:=
 if z3S steps tries l at_≠0 then (sta0,z3S steps tries l at_) else if keyB board=false then (sta0,5) else match getA (asA (z1j steps tries (upL l at_)).bs) board with
 | none=>(sta0,8)
 | some s=>(s,0)
theorem z4C {steps:List Nm} {l:List Ent} (O:StOk steps l) (at_:Int):StOk steps (upL l at_):=
 ⟨O.n,O.k,fun x hx=>O.e x (List.mem_of_mem_take hx),by unfold upL;rw[List.length_take];have:=O.l;omega⟩
theorem z1U {steps:List Nm} {tries:Int} {l:List Ent} {at_:Int} (h:z3S steps tries l at_=0):steps≠[]:=by
 intro e
 subst e
 unfold z3S at h
 have:zfK [] tries=8:=rfl
 rw[this] at h
 simp [orL] at h
set_option maxHeartbeats 4000000 in
theorem s_Of (steps:List Nm) (tries:Int) (l:List Ent) (O:StOk steps l) (board:Nm) (hb:board.length≤1000000) (at_:Int) :
 z0c X z7z [z5v steps tries,z1t l,AS board,AI at_] h K=K (.tup [.p (ofP steps tries l board at_).1.pv,AI (ofP steps tries l board at_).2]) h []:=by
 refine rule ?_
 rw[c_q05l rfl]
 have q1:=fun h K=>zck (h:=h) (K:=K) steps tries l O at_
 have q2:=fun h K=>zjE (h:=h) (K:=K) board (by omega)
 have q3:=fun h K=>ziu (h:=h) (K:=K) l at_ (by have:=O.l;omega)
 unfold ofP
 by_cases h0:z3S steps tries l at_=0
 case neg=>
  rw[if_pos h0]
  simp only[za8,go_sem,↓q1,q1,h0,splice]
  first | done | rfl
 rw[if_neg (by simp [h0])]
 cases h1:keyB board with
 | false=>
  rw[if_pos rfl]
  simp only[za8,go_sem,↓q1,q1,h0,↓q2,q2,h1,splice]
  first | done | rfl
 | true=>
  rw[if_neg (by simp)]
  have q4:=fun h K=>z7Q (h:=h) (K:=K) steps tries O.n (z1U h0) (upL l at_) (z4C O at_).l
  have lk:=fun (h:Heap) (o0 o2 o3 o4 o5 o6 o7:Obj) (B l2:Heap)=>z4N (h:=h) (z1j steps tries (upL l at_)) board o0 o2 o3 o4 o5 o6 o7 B l2
  obtain⟨g1,g2⟩:=z7d board (z1j steps tries (upL l at_)).bs
  generalize z1j steps tries (upL l at_)=F at *
  obtain⟨g,hg⟩:∃ g,h++[Obj.box [AStr steps,AI tries],.box [AI 0,AI 0,AS [],AS [],AI 0]]=g:=⟨_,rfl⟩
  have gl:g.length=h.length+2:=by rw[← hg];simp
  have q5:=fun K=>q4 (h++[Obj.box [AStr steps,AI tries],.box [AI 0,AI 0,AS [],AS [],AI 0]]) K
  have q6:∀ K,z0c X z1H [z5v steps tries,z1t (upL l at_)] (h++[Obj.box [AStr steps,AI tries],.box [AI 0,AI 0,AS [],AS [],AI 0]]) K=K (.ref (g.length+7) 0) (FS g (flB steps tries) steps tries F []) (escE g F.bs.length):=fun K=>by rw[q5,hg]
  have ex:∀ y∈escE g F.bs.length,h.length≤y.1:=fun y hy=>by have:=(z2y hy).1;omega
  have sp:∀ (o0 o1 o2 o3 o4 o5 o6 o7 o:Obj) (B l2:Heap),(FH g o0 o1 o2 o3 o4 o5 o6 o7 B l2).set (h.length+1) o=h++Obj.box [AStr steps,AI tries]::o::o0::o1::o2::o3::o4::o5::o6::o7::(B++l2):=fun o0 o1 o2 o3 o4 o5 o6 o7 o B l2=>by
   rw[← hg];unfold FH
   rw[List.append_assoc,List.set_append_right _ _ (by omega)]
   simp
  have gp:∀ (o0 o1 o2 o3 o4 o5 o6 o7:Obj) (B l2:Heap),(FH g o0 o1 o2 o3 o4 o5 o6 o7 B l2)[h.length+1]?=some (.box [AI 0,AI 0,AS [],AS [],AI 0]):=fun o0 o1 o2 o3 o4 o5 o6 o7 B l2=>by
   rw[← hg];unfold FH
   rw[List.append_assoc,List.getElem?_append_right (by omega)]
   simp
  unfold FS wbx at q6
  cases hi:ixB board F.bs with
  | none=>
   rw[g1 hi]
   rw[hi] at lk
   dsimp only at lk ⊢
   simp only[za8,go_sem,↓q1,q1,h0,↓q2,q2,h1,↓q3,q3,↓q6,q6,splice,lk,sp,gp]
   rw[z7P (v:=.tup [.p sta0.pv,AI 8]) ex (by simp [reif,z4X,z0C,Sta.pv,sta0]) (by simp [AV.top,AV.tops])]
   exact⟨rfl,by simp,rfl⟩
  | some i=>
   obtain⟨e,he,_,hq⟩:=g2 i hi
   rw[hq]
   rw[hi] at lk
   have gq:=fun (o0 o1 o2 o3 o4 o5 o6 o7:Obj) (l2:Heap)=>zf2 (h:=g) (o0:=o0) (o1:=o1) (o2:=o2) (o3:=o3) (o4:=o4) (o5:=o5) (o6:=o6) (o7:=o7) (l:=l2) he
   unfold Sta.bx at gq
   dsimp only at lk ⊢
   simp only[za8,go_sem,↓q1,q1,h0,↓q2,q2,h1,↓q3,q3,↓q6,q6,splice,lk,sp,gp,gq]
   rw[z7P (v:=.tup [.p e.2.pv,AI 0]) ex (by simp [reif,z4X,z0C,Sta.pv]) (by simp [AV.top,AV.tops])]
   exact⟨rfl,by simp,rfl⟩
end Go.Am
end
section
/- Which boards run,by site: the program. -/
open Go
set_option linter.all false
set_option maxRecDepth 100000
namespace Go.Am
variable {h:Heap} {K:Post}
structure SmI (S:Flo) (n:Nat):Prop where
 bn:(S.sm.map (·.2)).Nodup
 bl:∀ e∈S.sm,e.2<S.ck
 ln:S.sm.length≤n
 kl:∀ e∈S.sm,e.1.1.length≤1000000
theorem smI0:SmI flo0 0:=⟨List.nodup_nil,fun e he=>(by cases he),Nat.le_refl _,fun e he=>(by cases he)⟩
theorem SmI.sub {S S':Flo} {n:Nat} (I:SmI S n) (h:S'.sm.Sublist S.sm) (hc:S'.ck=S.ck):SmI S' (n+1):=
 ⟨I.bn.sublist (h.map _),fun e he=>by rw[hc];exact I.bl e (h.subset he),by have:=h.length_le;have:=I.ln;omega,fun e he=>I.kl e (h.subset he)⟩
theorem ztC (m:SMap) (k:Nm):(delS m k).Sublist m:=by
 unfold delS
 split
 ·exact List.eraseIdx_sublist ..
 ·exact List.Sublist.refl _
theorem zzt {S:Flo} {n:Nat} (I:SmI S n) (steps:List Nm) (tries:Int) {x:Ent} (hx:x.site.length≤1000000):SmI (S.act steps tries x).2 (n+1):=by
 have hs:∀ i x0 st,SmI (S.start i x0 st x) (n+1):=fun i x0 st=>by
  refine⟨?_,fun e he=>?_,?_,fun e he=>?_⟩
  ·show ((S.sm++[((x.site,x.board),S.ck)]).map (·.2)).Nodup
   rw[List.map_append,List.nodup_append]
   refine⟨I.bn,by simp,fun a ha b hb=>?_⟩
   obtain⟨e,he,rfl⟩:=List.mem_map.1 ha
   have:=I.bl e he
   simp at hb
   omega
  ·show e.2<S.ck+1
   rcases List.mem_append.1 he with he | he
   ·have:=I.bl e he;omega
   ·simp at he;subst he;exact Nat.lt_succ_self _
  ·show (S.sm++_).length≤n+1
   have:=I.ln
   simp;omega
  ·rcases List.mem_append.1 he with he | he
   ·exact I.kl e he
   ·simp at he;subst he;exact hx
 unfold Flo.act Flo.old Flo.startR Flo.finishR
 repeat' split
 all_goals first | exact hs _ _ _ | exact I.sub (List.Sublist.refl _) rfl | exact I.sub (ztC _ _) rfl
theorem zva {S:Flo} {n:Nat} (I:SmI S n) (steps:List Nm) (tries:Int) (i:Nat) {x:Ent} (hx:x.site.length≤1000000):SmI (S.step steps tries i x) (n+1):=by
 have J:=zzt I steps tries hx
 unfold Flo.step
 split
 ·exact⟨J.bn,J.bl,J.ln,J.kl⟩
 ·exact J
theorem SmI.up {S:Flo} {n:Nat} (I:SmI S n):SmI S (n+1):=I.sub (List.Sublist.refl _) rfl
theorem zzu (steps:List Nm) (tries:Int) (h0:steps≠[]):∀ (l:List (Ent × Bool)) (S:Flo) (i n:Nat),FlI S steps n→SmI S n→(∀ y∈l,y.1.site.length≤1000000) →
 FlI (Flo.go steps tries S i l) steps (n+l.length)∧SmI (Flo.go steps tries S i l) (n+l.length)
 | [],S,i,n,I,J,_=>⟨I,J⟩
 | (x,c)::r,S,i,n,I,J,hx=>by
  have e1:Flo.go steps tries S i ((x,c)::r)=if c=false∨x.kind=7 then Flo.go steps tries S (i+1) r else Flo.go steps tries (S.step steps tries i x) (i+1) r:=rfl
  rw[e1,List.length_cons,show n+(r.length+1)=(n+1)+r.length by omega]
  have hr:=fun y hy=>hx y (List.mem_cons_of_mem (x,c) hy)
  by_cases hs:c=false∨x.kind=7
  ·rw[if_pos hs]
   exact zzu steps tries h0 r S (i+1) (n+1) I.up J.up hr
  ·rw[if_neg hs]
   exact zzu steps tries h0 r _ (i+1) (n+1) (zsC (tries:=tries) I h0 i x).1 (zva J steps tries i (hx (x,c) (List.mem_cons_self ..))) hr
theorem zpa {steps:List Nm} (tries:Int) (h0:steps≠[]) {l:List Ent} (hl:∀ x∈l,x.site.length≤1000000):FlI (z1j steps tries l) steps l.length∧SmI (z1j steps tries l) l.length:=by
 have:=zzu steps tries h0 (zipC l) flo0 0 0 (flI0 steps) smI0 (fun y hy=>hl y.1 (List.of_mem_zip hy).1)
 rw[z7U,Nat.zero_add] at this
 exact this
def mesD (m:SMap):List ME:=m.map fun e=>⟨.str e.1.1,AS e.1.2,e.2⟩
theorem zpv:∀ m:SMap,zjy (mesD m)=some (m.map fun e=>e.1.1)
 | []=>rfl
 | e::r=>by
  have ih:=zpv r
  unfold mesD at ih ⊢
  simp only[List.map_cons,zjy,ih,Option.map_some]
theorem zy2 {S:Flo} {steps:List Nm} {n:Nat} (hn:n≤1000) (I:FlI S steps n) (J:SmI S n):zfQ (mesD S.sm)=some (zcr (S.sm.map fun e=>e.1.1)):=by
 unfold zfQ
 rw[zpv]
 have e:(mesD S.sm).map (·.born)=S.sm.map (·.2):=by unfold mesD;rw[List.map_map];rfl
 dsimp only
 rw[if_pos]
 refine⟨I.ns,by rw[e];exact J.bn,by have:=J.ln;simp;omega,fun s hs=>?_⟩
 obtain⟨y,hy,rfl⟩:=List.mem_map.1 hs
 have:=J.kl y hy
 unfold maxLen
 omega
theorem zfc {q id c:Nat} {es:List ME} {ss:List Nm} (h1:h[q]?=some (.box [.mp id])) (h2:h[id]?=some (.amap es c)) (h3:zfQ es=some ss) :
 z0c X zhE [.fn ze6 [.ref q 0]] h K=K (AStr ss) h []:=
 zbZ (X:=X) (by kernel_rfl) (zqb (by kernel_rfl) h1 h2 h3)
theorem zjG {id:Nat} (hid:id<h.length):z0c X zaD [.mp id] h K=K (.fn ze6 [.ref h.length 0]) (h++[.box [.mp id]]) []:=by
 refine rule ?_
 rw[c_q01s rfl]
 simp only[zmD,go_sem]
 have e:max h.length (h.length+1)=h.length+1:=by omega
 rw[e]
 exact⟨Nat.le_refl _,List.take_of_length_le (by simp)⟩
def z1d (e:Nm × Nm):PV:=.agg [.str e.1,.str e.2]
abbrev z2I (l:List (Nm × Nm)):AV:=.p (.sl (some 2) (l.map z1d))
attribute [-go_sem] oEqa z0L z1v z3B
attribute [local go_sem] z1G z2w z4T z4U z7Y z7Z z8a z8b z6S z8c z8d z8e z8f z8g z8h z8i
def z6L (F:Flo):List (Nm × Nm):=(zcr (F.sm.map fun e=>e.1.1)).map fun s=>(s,(getA (asS F.sm) s).getD [])
def z6K (steps:List Nm) (tries:Int) (l:List Ent) (at_:Int):List (Nm × Nm) × Int:=
 if z3S steps tries l at_≠0 then ([],z3S steps tries l at_) else (z6L (z1j steps tries (upL l at_)),0)
theorem zyF {id:Nat} {hp:Heap} {m:SMap} {c:Nat} {k:Nm} (hh:hp[id]?=some (dobj m c)) :
 z0L (none,[2]) false (AS []) (.mp id) (AS k) hp=some (AS ((getA (asS m) k).getD [])):=by
 have e1:z2c (none,[2]) (AS k)=some (.str k):=z1E
 have e2:mget hp (.mp id)=some (id,m.map fun e=>(⟨.str e.1.1,AS e.1.2,e.2⟩:ME),c):=by simp only[mget,hh,dobj]
 have e3:getA (asS m) k=(m.find? fun e=>decide (e.1.1=k)).map (fun e=>e.1.2):=by
  unfold getA asS
  rw[List.find?_map]
  cases h:m.find? (fun e=>decide (e.1.1=k)) with
  | none=>rw[show (List.find? ((fun e=>decide (e.1=k)) ∘ fun x=>x.1) m)=m.find? (fun e=>decide (e.1.1=k)) from rfl,h];rfl
  | some x=>rw[show (List.find? ((fun e=>decide (e.1=k)) ∘ fun x=>x.1) m)=m.find? (fun e=>decide (e.1.1=k)) from rfl,h];rfl
 simp only[z0L,e1,e2,Option.map_some,z92]
 have e4:=z5Q k m
 rw[e3,← e4]
 cases hf:z4V k m with
 | none=>rfl
 | some i=>
  simp only[Option.bind_some,List.getElem?_map]
  have hs:(m[i]?).isSome=true:=z7J k m i hf
  obtain⟨y,hy⟩:=Option.isSome_iff_exists.1 hs
  rw[hy]
  rfl
theorem zfl (l:List Nm):(zcr l).length=l.length:=List.length_mergeSort _
theorem zsf {b i n:Nat} {e:Int} {sh:Sh} {P:Post} {H:Heap} {x:Esc} {xs:List PV} (hx:∀ y∈x,b≤y.1) (hi:b≤i) (gi:H[i]?=some (.row sh xs 0)) (hn:n=xs.length)
 (k:P (.tup [.p (.sl sh xs),AI e]) (H.take b) []):retK false b P (some [.own i n 0 n,AI e]) H x:=by
 subst hn
 have w1:win xs 0 xs.length=xs:=z7T rfl
 have r1:rd H (.own i xs.length 0 xs.length)=some (sh,xs):=by simp [rd,gi,w1]
 rw[z7P (v:=.tup [.p (.sl sh xs),AI e]) hx (by simp [reif,z4X,z0C,hi,r1]) (by simp [AV.top,AV.tops])]
 exact k
set_option maxHeartbeats 4000000 in
theorem zss (steps:List Nm) (tries:Int) (l:List Ent) (O:StOk steps l) (at_:Int) :
 z0c X zaW [z5v steps tries,z1t l,AI at_] h K=K (.tup [z2I (z6K steps tries l at_).1,AI (z6K steps tries l at_).2]) h []:=by
 refine rule ?_
 rw[c_q05p rfl]
 have q1:=fun h K=>zck (h:=h) (K:=K) steps tries l O at_
 have q3:=fun h K=>ziu (h:=h) (K:=K) l at_ (by have:=O.l;omega)
 unfold z6K
 by_cases h0:z3S steps tries l at_=0
 case neg=>
  rw[if_pos h0]
  simp only[zdV,go_sem,↓q1,q1,h0]
  first | done | rfl
 rw[if_neg (by simp [h0])]
 have q4:=fun h K=>z7Q (h:=h) (K:=K) steps tries O.n (z1U h0) (upL l at_) (z4C O at_).l
 obtain⟨I,J⟩:=zpa tries (z1U h0) (fun x hx=>((z4C O at_).e x hx).s)
 have hn:=(z4C O at_).l
 generalize (upL l at_).length=n at I J hn
 generalize z1j steps tries (upL l at_)=F at *
 obtain⟨g,hg⟩:∃ g,h++[Obj.box [AStr steps,AI tries]]=g:=⟨_,rfl⟩
 have gl:g.length=h.length+1:=by rw[← hg];simp
 have q5:=fun K=>q4 (h++[Obj.box [AStr steps,AI tries]]) K
 have q6:∀ K,z0c X z1H [z5v steps tries,z1t (upL l at_)] (h++[Obj.box [AStr steps,AI tries]]) K=K (.ref (g.length+7) 0) (FS g (flB steps tries) steps tries F []) (escE g F.bs.length):=fun K=>by rw[q5,hg]
 have ex:∀ y∈escE g F.bs.length,h.length≤y.1:=fun y hy=>by have:=(z2y hy).1;omega
 have q7:=fun (o0 o1 o2 o3 o4 o5 o6 o7:Obj) (B:Heap) (l2:Heap) (K:Post)=>zjG (h:=FH g o0 o1 o2 o3 o4 o5 o6 o7 B l2) (K:=K) (id:=g.length+2) (by rw[z1G];omega)
 have q8:=fun (o0 o1 o3 o4 o5 o6 o7 r:Obj) (B:Heap) (K:Post)=>zfc (h:=FH g o0 o1 (dobj F.sm F.ck) o3 o4 o5 o6 o7 B [r,.box [.mp (g.length+2)]]) (K:=K) (q:=g.length+(8+B.length+1)) (id:=g.length+2) (by rw[zbA];rfl) z4U (zy2 hn I J)
 have lk:=fun (o0 o1 o3 o4 o5 o6 o7:Obj) (B l2:Heap) (k:Nm)=>zyF (hp:=FH g o0 o1 (dobj F.sm F.ck) o3 o4 o5 o6 o7 B l2) (m:=F.sm) (c:=F.ck) (k:=k) (id:=g.length+2) z4U
 unfold FS wbx at q6
 simp only[zdV,go_sem,↓q1,q1,h0,↓q3,q3,↓q6,q6,↓q7,q7,↓q8,q8]
 unfold z6L
 have hks:(zcr (F.sm.map fun e=>e.1.1)).length≤1000:=by rw[zfl];have:=J.ln;simp;omega
 generalize zcr (F.sm.map fun e=>e.1.1)=ks at *
 refine z08 (fun k:Nat=>⟨[(9,.ref (g.length+7) 0),(10,.own (g.length+(8+(boxB F.bs).length)) k 0 k),(30,AStr ks),(31,AI ks.length),(32,AI k)],
  FH g (flB steps tries) (mobj PV.str refA (mapB (g.length+8) F.bs)) (dobj F.sm F.ck) (.row (some 5) (F.ends.map EndP.pv) 0) (.row (some 3) (F.runs.map RunP.pv) 0) (.row none (F.ref.map eI) 0) (.row none (F.why.map eI) 0)
   (.box [AStr steps,AI tries,.mp (g.length+1),.mp (g.length+2),.own (g.length+3) F.ends.length 0 F.ends.length,.own (g.length+4) F.runs.length 0 F.runs.length,.own (g.length+5) F.ref.length 0 F.ref.length,.own (g.length+6) F.why.length 0 F.why.length])
   (boxB F.bs) [.row (some 2) (((ks.take k).map fun s=>(s,(getA (asS F.sm) s).getD [])).map z1d) 0,.box [.mp (g.length+2)]],escE g F.bs.length⟩)
  (fun k=>k≤ks.length) (fun k=>ks.length-k) 0 ?_ (Nat.zero_le _) ?_
 ·simp
 intro k hk
 rcases Nat.lt_or_ge k ks.length with hlt | hge
 ·have hg2:=z0K PV.str hlt
  have cw:∀ v:List UInt8,cutP none 0 (PV.str v)=some (PV.str v):=fun _=>rfl
  have w2:IntKind.i64.wrap ((k:Int)+1)=((k+1:Nat):Int):=z0l _ (by omega) (by omega)
  have m1:k+1≤z1c:=by unfold z1c;omega
  have gt:=fun (o0 o1 o2 o3 o4 o5 o6 o7:Obj) (B:Heap) (l2:Heap)=>(zbA (h:=g) (o0:=o0) (o1:=o1) (o2:=o2) (o3:=o3) (o4:=o4) (o5:=o5) (o6:=o6) (o7:=o7) (B:=B) (l:=l2) 0)
  have st:=fun (o0 o1 o2 o3 o4 o5 o6 o7 o:Obj) (B:Heap) (l2:Heap)=>(zth (h:=g) (o0:=o0) (o1:=o1) (o2:=o2) (o3:=o3) (o4:=o4) (o5:=o5) (o6:=o6) (o7:=o7) (o:=o) (B:=B) (l:=l2) 0)
  have tk:=fun (o0 o1 o2 o3 o4 o5 o6 o7:Obj) (B:Heap) (l2:Heap)=>(zbC (h:=g) (o0:=o0) (o1:=o1) (o2:=o2) (o3:=o3) (o4:=o4) (o5:=o5) (o6:=o6) (o7:=o7) (B:=B) (l:=l2) 2)
  simp only[Nat.add_zero] at gt st
  have l1:(((ks.take k).map fun s=>(s,(getA (asS F.sm) s).getD [])).map z1d).length=k:=by simp;omega
  have f1:g.length+7+1≤g.length+(8+(boxB F.bs).length+2):=by omega
  have f2:g.length+(8+(boxB F.bs).length)+1≤g.length+(8+(boxB F.bs).length+2):=by omega
  have e9:((ks.take k).map fun s=>(s,(getA (asS F.sm) s).getD [])).map z1d++[.agg [.str ks[k],.str ((getA (asS F.sm) ks[k]).getD [])]]=((ks.take (k+1)).map fun s=>(s,(getA (asS F.sm) s).getD [])).map z1d:=by
   rw[List.take_succ_eq_append_getElem hlt,List.map_append,List.map_append];rfl
  generalize ((ks.take k).map fun s=>(s,(getA (asS F.sm) s).getD [])).map z1d=rw0 at *
  simp only[go_sem,hlt,hg2,cw,lk,m1,w2,gt,st,tk,l1,z4A,f1,f2,List.getElem?_cons_zero,List.set_cons_zero,Nat.zero_le,true_and]
  exact⟨k+1,by rw[← e9],by omega,by omega⟩
 ·have ek:k=ks.length:=by omega
  subst ek
  rw[List.take_length]
  have gt:=fun (o0 o1 o2 o3 o4 o5 o6 o7:Obj) (B:Heap) (l2:Heap)=>(zbA (h:=g) (o0:=o0) (o1:=o1) (o2:=o2) (o3:=o3) (o4:=o4) (o5:=o5) (o6:=o6) (o7:=o7) (B:=B) (l:=l2) 0)
  simp only[Nat.add_zero] at gt
  simp only[go_sem,Nat.lt_irrefl]
  rw[if_pos (by omega),zbC]
  refine zsf ex (by omega) ((gt _ _ _ _ _ _ _ _ _ _).trans rfl) (by simp) ⟨rfl,?_,rfl⟩
  rw[← hg];unfold FH
  rw[List.append_assoc,List.take_left]
end Go.Am
end
section
/- How many boards are in each state: the program. -/
open Go
set_option linter.all false
set_option maxRecDepth 100000
namespace Go.Am
variable {h:Heap} {K:Post}
abbrev kC:Int→PV:=fun n=>.int .i64 n
abbrev vC:Int→AV:=fun n=>AI n
theorem lookC {hp:Heap} {id:Nat} {m:List (Int × Int)} {b:Int} (hh:hp[id]?=some (mobj kC vC m)):z0L (none,[0]) false (AI 0) (.mp id) (AI b) hp=some (AI ((getM b m).getD 0)):=by
 have:=z22 (key:=kC) (val:=vC) (fun a b=>z5U a b) hh (kk:=(none,[0])) (k:=b) z4g (ok:=false) (z:=AI 0)
 rw[cond_false] at this
 refine this.trans ?_
 cases getM b m <;> rfl
theorem updC {hp:Heap} {id:Nat} {m:List (Int × Int)} {b v:Int} (hh:hp[id]?=some (mobj kC vC m)):z1v (none,[0]) (.mp id) (AI b) (AI v) hp=some (.und,hp.set id (mobj kC vC (updM b v m)),[]):=
 z4P (key:=kC) (val:=vC) (fun a b=>z5U a b) hh (kk:=(none,[0])) (k:=b) z4g (v:=v) rfl
theorem zcb:∀ (bs:Brds) (q i:Nat) (e:Ent × Sta),bs[i]?=some e→(mapB q bs)[i]?=some (e.1.board,q+(3*i+2))
 | [],q,i,e,h=>by simp at h
 | y::r,q,0,e,h=>by simp at h;subst h;rfl
 | y::r,q,i+1,e,h=>by
  have:=zcb r (q+3) i e (by simpa using h)
  simp only[mapB,List.getElem?_cons_succ,this]
  rw[show q+3+(3*i+2)=q+(3*(i+1)+2) by omega]
def stOf (bs:Brds) (i:Nat):Int:=match bs[i]? with
 | some e=>e.2.state
 | none=>0
def cntI (bs:Brds) (seen:List Nat) (s:Int):Nat:=(seen.filter fun i=>decide (stOf bs i=s)).length
def cntS (bs:Brds) (s:Int):Nat:=(bs.filter fun e=>decide (e.2.state=s)).length
theorem zt4 {bs:Brds} {seen:List Nat} (hd:seen.Nodup) (hb:∀ i∈seen,i<bs.length) (ha:∀ i,i<bs.length→i∈seen) (s:Int):cntI bs seen s=cntS bs s:=by
 have hp:=zfj hd hb ha
 unfold cntI cntS
 rw[(hp.filter _).length_eq]
 clear hp hd hb ha
 have:∀ (pre bs:Brds),((List.range' pre.length bs.length).filter fun i=>decide (stOf (pre++bs) i=s)).length=(bs.filter fun e=>decide (e.2.state=s)).length:=by
  intro pre bs
  induction bs generalizing pre with
  | nil=>rfl
  | cons e r ih=>
   rw[List.length_cons,List.range'_succ,List.filter_cons,List.filter_cons]
   have h1:stOf (pre++e::r) pre.length=e.2.state:=by unfold stOf;simp
   have h2:=ih (pre++[e])
   rw[List.append_assoc,List.length_append] at h2
   rw[h1]
   split
   ·rw[List.length_cons,List.length_cons];exact congrArg (· + 1) h2
   ·exact h2
 have:=this [] bs
 rw[List.range_eq_range']
 exact this
theorem zm0 (bs:Brds) (seen:List Nat) (i:Nat) (s:Int):cntI bs (seen++[i]) s=cntI bs seen s+if s=stOf bs i then 1 else 0:=by
 unfold cntI
 rw[List.filter_append,List.length_append]
 by_cases h:stOf bs i=s
 ·simp [h]
 ·have h':¬ s=stOf bs i:=fun z=>h z.symm
  simp [h,h']
def zcy:List Nm:=[[119,97,105,116,115],[114,117,110,115],[102,97,105,108,101,100],[100,111,110,101],[115,99,114,97,112,112,101,100]]
theorem zgb {k:Nat} (hk:k<5):z0c X zaZ [AI ((k+1:Nat):Int)] h K=K (AS (zcy.getD k [])) h []:=by
 refine rule ?_
 rw[c_q066 rfl]
 have w0:IntKind.i64.wrap 0=0:=rfl
 have w1:IntKind.i64.wrap 1=1:=rfl
 have w2:IntKind.i64.wrap 2=2:=rfl
 have w3:IntKind.i64.wrap 3=3:=rfl
 have w4:IntKind.i64.wrap 4=4:=rfl
 have n0:z0N (.p (.int .i64 0))=some 0:=rfl
 have n1:z0N (.p (.int .i64 1))=some 1:=rfl
 have n2:z0N (.p (.int .i64 2))=some 2:=rfl
 have n3:z0N (.p (.int .i64 3))=some 3:=rfl
 have n4:z0N (.p (.int .i64 4))=some 4:=rfl
 match k,hk with
 | 0,_=>simp [z8Q,go_sem,w0,n0,zcy,Int.add_sub_cancel,PV.sc,reif,AV.top]
 | 1,_=>simp [z8Q,go_sem,w1,n1,zcy,Int.add_sub_cancel,PV.sc,reif,AV.top]
 | 2,_=>simp [z8Q,go_sem,w2,n2,zcy,Int.add_sub_cancel,PV.sc,reif,AV.top]
 | 3,_=>simp [z8Q,go_sem,w3,n3,zcy,Int.add_sub_cancel,PV.sc,reif,AV.top]
 | 4,_=>simp [z8Q,go_sem,w4,n4,zcy,Int.add_sub_cancel,PV.sc,reif,AV.top]
def z31 (bs:Brds):List (Nm × Nm):=(List.range 5).map fun k=>(zcy.getD k [],itoa (cntS bs ((k+1:Nat):Int)))
def z86 (steps:List Nm) (tries:Int) (l:List Ent) (at_:Int):List (Nm × Nm) × Int:=
 if z3S steps tries l at_≠0 then ([],z3S steps tries l at_) else (z31 (z1j steps tries (upL l at_)).bs,0)
attribute [-go_sem] oEqa z0L z1v z3B z3C z3D
def GC (h:Heap) (steps:List Nm) (tries:Int) (m:List (Int × Int)):Heap:=h++[.box [AStr steps,AI tries],mobj kC vC m]
section
variable {steps:List Nm} {tries:Int} {m m':List (Int × Int)} {o0 o1 o2 o3 o4 o5 o6 o7 o:Obj} {B l l2:Heap} {G:Nat}
theorem z4Y:(GC h steps tries m).length=h.length+2:=by unfold GC;simp
theorem GC_low:(FH (GC h steps tries m) o0 o1 o2 o3 o4 o5 o6 o7 B l)[h.length+1]?=some (mobj kC vC m):=by
 unfold FH GC
 rw[List.append_assoc,List.getElem?_append_right (by omega)]
 simp
theorem GC_set:(FH (GC h steps tries m) o0 o1 o2 o3 o4 o5 o6 o7 B l).set (h.length+1) (mobj kC vC m')=FH (GC h steps tries m') o0 o1 o2 o3 o4 o5 o6 o7 B l:=by
 unfold FH GC
 rw[List.append_assoc,List.append_assoc,List.set_append_right _ _ (by omega)]
 simp
theorem GC_g1 (hG:h.length+2=G):(FH (GC h steps tries m) o0 o1 o2 o3 o4 o5 o6 o7 B l)[G+1]?=some o1:=by rw[← hG,← z4Y (steps:=steps) (tries:=tries) (m:=m)];exact z4T
theorem GC_g7 (hG:h.length+2=G):(FH (GC h steps tries m) o0 o1 o2 o3 o4 o5 o6 o7 B l)[G+7]?=some o7:=by rw[← hG,← z4Y (steps:=steps) (tries:=tries) (m:=m)];exact z6S
theorem GC_gt (hG:h.length+2=G) (n:Nat):(FH (GC h steps tries m) o0 o1 o2 o3 o4 o5 o6 o7 B l)[G+(8+B.length+n)]?=l[n]?:=by rw[← hG,← z4Y (steps:=steps) (tries:=tries) (m:=m)];exact zbA n
theorem GC_st (hG:h.length+2=G) (n:Nat):(FH (GC h steps tries m) o0 o1 o2 o3 o4 o5 o6 o7 B l).set (G+(8+B.length+n)) o=FH (GC h steps tries m) o0 o1 o2 o3 o4 o5 o6 o7 B (l.set n o):=by rw[← hG,← z4Y (steps:=steps) (tries:=tries) (m:=m)];exact zth n
theorem GC_tk (hG:h.length+2=G) (n:Nat):(FH (GC h steps tries m) o0 o1 o2 o3 o4 o5 o6 o7 B l).take (G+(8+B.length+n))=FH (GC h steps tries m) o0 o1 o2 o3 o4 o5 o6 o7 B (l.take n):=by rw[← hG,← z4Y (steps:=steps) (tries:=tries) (m:=m)];exact zbC n
theorem GC_tl (hG:h.length+2=G):(FH (GC h steps tries m) o0 o1 o2 o3 o4 o5 o6 o7 B l).length=G+(8+B.length+l.length):=by rw[z1G,z4Y,hG]
theorem GC_gq (hG:h.length+2=G) {bs:Brds} {i:Nat} {e:Ent × Sta} (hi:bs[i]?=some e):(FH (GC h steps tries m) o0 o1 o2 o3 o4 o5 o6 o7 (boxB bs) l)[G+8+(3*i+2)]?=some e.2.bx:=by
 have:=zf2 (h:=GC h steps tries m) (o0:=o0) (o1:=o1) (o2:=o2) (o3:=o3) (o4:=o4) (o5:=o5) (o6:=o6) (o7:=o7) (l:=l) hi
 unfold qB at this
 rw[z4Y,hG,← Nat.add_assoc] at this
 exact this
end
def HC (h:Heap) (steps:List Nm) (tries:Int) (F:Flo) (G:Nat) (m:List (Int × Int)) (l:Heap):Heap:=
 FH (GC h steps tries m) (flB steps tries) (mobj PV.str refA (mapB (G+8) F.bs)) (dobj F.sm F.ck) (.row (some 5) (F.ends.map EndP.pv) 0) (.row (some 3) (F.runs.map RunP.pv) 0) (.row none (F.ref.map eI) 0) (.row none (F.why.map eI) 0)
  (.box [AStr steps,AI tries,.mp (G+1),.mp (G+2),.own (G+3) F.ends.length 0 F.ends.length,.own (G+4) F.runs.length 0 F.runs.length,.own (G+5) F.ref.length 0 F.ref.length,.own (G+6) F.why.length 0 F.why.length]) (boxB F.bs) l
section
variable {steps:List Nm} {tries:Int} {F:Flo} {m m':List (Int × Int)} {o:Obj} {l l2:Heap} {G:Nat}
theorem zkO:(HC h steps tries F G m l)[h.length+1]?=some (mobj kC vC m):=GC_low
theorem HC_set:(HC h steps tries F G m l).set (h.length+1) (mobj kC vC m')=HC h steps tries F G m' l:=GC_set
theorem zx3 (hG:h.length+2=G):(HC h steps tries F G m l)[G+1]?=some (mobj PV.str refA (mapB (G+8) F.bs)):=GC_g1 hG
theorem HC_g7 (hG:h.length+2=G):(HC h steps tries F G m l)[G+7]?=some (.box [AStr steps,AI tries,.mp (G+1),.mp (G+2),.own (G+3) F.ends.length 0 F.ends.length,.own (G+4) F.runs.length 0 F.runs.length,.own (G+5) F.ref.length 0 F.ref.length,.own (G+6) F.why.length 0 F.why.length]):=GC_g7 hG
theorem HC_g0 (hG:h.length+2=G):(HC h steps tries F G m l)[G+(8+(boxB F.bs).length)]?=l[0]?:=GC_gt hG 0
theorem zv1 (hG:h.length+2=G):(HC h steps tries F G m l)[G+(8+(boxB F.bs).length+1)]?=l[1]?:=GC_gt hG 1
theorem HC_s0 (hG:h.length+2=G):(HC h steps tries F G m l).set (G+(8+(boxB F.bs).length)) o=HC h steps tries F G m (l.set 0 o):=GC_st hG 0
theorem HC_s1 (hG:h.length+2=G):(HC h steps tries F G m l).set (G+(8+(boxB F.bs).length+1)) o=HC h steps tries F G m (l.set 1 o):=GC_st hG 1
theorem HC_tk (hG:h.length+2=G) (n:Nat):(HC h steps tries F G m l).take (G+(8+(boxB F.bs).length+n))=HC h steps tries F G m (l.take n):=GC_tk hG n
theorem zgq (hG:h.length+2=G):(HC h steps tries F G m l).length=G+(8+(boxB F.bs).length+l.length):=GC_tl hG
theorem zkN:HC h steps tries F G m l++l2=HC h steps tries F G m (l++l2):=z2w
theorem HC_gq (hG:h.length+2=G) {i:Nat} {e:Ent × Sta} (hi:F.bs[i]?=some e):(HC h steps tries F G m l)[G+8+(3*i+2)]?=some e.2.bx:=GC_gq hG hi
theorem HC_tk0:(HC h steps tries F G m l).take h.length=h:=by unfold HC FH GC;rw[List.append_assoc,List.take_left]
end
set_option maxHeartbeats 4000000 in
theorem zuR (steps:List Nm) (tries:Int) (l:List Ent) (O:StOk steps l) (at_:Int) :
 z0c X zaV [z5v steps tries,z1t l,AI at_] h K=K (.tup [z2I (z86 steps tries l at_).1,AI (z86 steps tries l at_).2]) h []:=by
 refine rule ?_
 rw[c_q05j rfl]
 have q1:=fun h K=>zck (h:=h) (K:=K) steps tries l O at_
 have q3:=fun h K=>ziu (h:=h) (K:=K) l at_ (by have:=O.l;omega)
 unfold z86
 simp only[zhr]
 refine⟨_,_,_,⟨rfl,rfl,rfl⟩,?_⟩
 by_cases h0:z3S steps tries l at_=0
 case neg=>
  rw[if_pos h0]
  simp only[go_sem,↓q1,q1,h0]
  first | done | rfl
 rw[if_neg (by simp [h0])]
 have q4:=fun h K=>z7Q (h:=h) (K:=K) steps tries O.n (z1U h0) (upL l at_) (z4C O at_).l
 obtain⟨I,J⟩:=zpa tries (z1U h0) (fun x hx=>((z4C O at_).e x hx).s)
 have hn:=(z4C O at_).l
 generalize (upL l at_).length=n at I J hn
 generalize z1j steps tries (upL l at_)=F at *
 obtain⟨G,hG⟩:∃ G,h.length+2=G:=⟨_,rfl⟩
 have q6:∀ K,z0c X z1H [z5v steps tries,z1t (upL l at_)] (h++[Obj.box [AStr steps,AI tries],mobj kC vC []]) K=K (.ref (G+7) 0) (FS (GC h steps tries []) (flB steps tries) steps tries F []) (escE (GC h steps tries []) F.bs.length):=fun K=>by
  have:=q4 (GC h steps tries []) K
  rw[z4Y,hG] at this
  exact this
 have ex:∀ y∈escE (GC h steps tries []) F.bs.length,h.length≤y.1:=fun y hy=>by have:=(z2y hy).1;rw[z4Y] at this;omega
 generalize escE (GC h steps tries []) F.bs.length=ES at *
 have em:Obj.amap [] 0=mobj kC vC []:=rfl
 unfold FS wbx at q6
 rw[z4Y,hG] at q6
 have q7:∀ K,z0c X z1H [z5v steps tries,z1t (upL l at_)] (h++[Obj.box [AStr steps,AI tries],mobj kC vC []]) K=K (.ref (G+7) 0) (HC h steps tries F G [] []) ES:=q6
 have mr:=zbk (h:=HC h steps tries F G [] []) (id:=G+1) (key:=PV.str) (val:=refA) (l:=mapB (G+8) F.bs) (zx3 hG)
 rw[zgq hG,zkN,z5Y] at mr
 simp only[List.length_nil,Nat.add_zero,List.nil_append] at mr
 simp only[go_sem,↓q1,q1,h0,em,↓q3,q3,↓q7,q7,HC_g7 hG,mr]
 have hbl:F.bs.length≤1000:=by have:=I.bl;omega
 refine z08 (fun t:List Nat × List (Int × Int)=>⟨[(9,.mp (h.length+1)),(30,.it (G+(8+(boxB F.bs).length)))],HC h steps tries F G t.2 [.iter (some (G+1)) F.bs.length t.1 F.bs.length],ES⟩)
  (fun t=>(t.1.Nodup∧∀ i∈t.1,i<F.bs.length)∧∀ s,(getM s t.2).getD 0=(cntI F.bs t.1 s:Int)) (fun t=>F.bs.length-t.1.length) ([],[]) rfl ⟨⟨List.nodup_nil,by simp⟩,fun s=>rfl⟩ ?_
 rintro⟨seen,m⟩ ⟨⟨hd,hb⟩,hc⟩
 dsimp only at hd hb hc ⊢
 simp only[go_sem]
 have ml:(mapB (G+8) F.bs).length=F.bs.length:=z5Y _ _
 have hi0:(HC h steps tries F G m [.iter (some (G+1)) F.bs.length seen F.bs.length])[G+(8+(boxB F.bs).length)]?=some (.iter (some (G+1)) (mapB (G+8) F.bs).length seen (mapB (G+8) F.bs).length):=by rw[HC_g0 hG,ml];rfl
 refine zxo (key:=PV.str) (val:=refA) (l:=mapB (G+8) F.bs) (m:=G+1) (seen:=seen) hi0 (zx3 hG) ?_ ?_
 ·intro hall
  rw[ml] at hall
  have hcs:∀ s,(getM s m).getD 0=(cntS F.bs s:Int):=fun s=>by rw[hc,zt4 hd hb hall]
  simp only[HC_s0 hG]
  simp only[go_sem]
  rw[zgq hG,zkN]
  simp only[List.length_cons,List.length_nil,Nat.zero_add,List.cons_append,List.nil_append]
  have cl:(z31 F.bs).length=5:=rfl
  refine z08 (fun k:Nat=>⟨[(9,.mp (h.length+1)),(12,.own (G+(8+(boxB F.bs).length+1)) k 0 k),(13,AI ((k+1:Nat):Int))],HC h steps tries F G m [.iter none 1 [] 0,.row (some 2) (((z31 F.bs).take k).map z1d) 0],ES⟩)
   (fun k=>k≤5) (fun k=>5-k) 0 rfl (Nat.zero_le _) ?_
  intro k hk
  rcases Nat.lt_or_ge k 5 with hlt | hge
  ·have sw:=fun h K=>zgb (h:=h) (K:=K) hlt
   have lk:=fun (l2:Heap) (b:Int)=>lookC (hp:=HC h steps tries F G m l2) (b:=b) zkO
   have cle:cntS F.bs ((k+1:Nat):Int)≤1000:=by unfold cntS;exact Nat.le_trans (List.length_filter_le _ _) hbl
   have it:=fun h K=>zsr (h:=h) (K:=K) (cntS F.bs ((k+1:Nat):Int)) (by omega) (by omega)
   have c5:((k+1:Nat):Int)≤5:=by omega
   have w2:IntKind.i64.wrap (((k+1:Nat):Int)+1)=((k+1+1:Nat):Int):=z0l _ (by omega) (by omega)
   have m1:k+1≤z1c:=by unfold z1c;omega
   have l1:(((z31 F.bs).take k).map z1d).length=k:=by simp;omega
   have e9:((z31 F.bs).take k).map z1d++[.agg [.str (zcy.getD k []),.str (itoa (cntS F.bs ((k+1:Nat):Int)))]]=((z31 F.bs).take (k+1)).map z1d:=by
    rw[List.take_succ_eq_append_getElem (by omega),List.map_append]
    unfold z31
    simp only[List.map_cons,List.map_nil,List.getElem_map,List.getElem_range,z1d]
   generalize ((z31 F.bs).take k).map z1d=rw0 at *
   have f1:h.length+1+1≤G+(8+(boxB F.bs).length+2):=by omega
   have f2:G+(8+(boxB F.bs).length+1)+1≤G+(8+(boxB F.bs).length+2):=by omega
   simp only[go_sem,c5,↓sw,sw,lk,hcs,↓it,it,m1,w2,zv1 hG,HC_s1 hG,HC_tk hG,zgq hG,zkN,l1,z4A,f1,f2,List.length_cons,List.length_nil,Nat.zero_add,List.getElem?_cons_zero,List.getElem?_cons_succ,List.set_cons_zero,List.set_cons_succ,Nat.zero_le,true_and]
   exact⟨k+1,by rw[← e9],by omega,by omega⟩
  ·have ek:k=5:=by omega
   subst ek
   have c6:¬ ((5+1:Nat):Int)≤5:=by decide
   have tc:(z31 F.bs).take 5=z31 F.bs:=rfl
   simp only[go_sem,c6,tc]
   rw[if_pos (by rw[zgq hG];simp only[List.length_cons,List.length_nil];omega)]
   exact zsf ex (by omega) ((zv1 hG).trans rfl) rfl ⟨rfl,HC_tk0,rfl⟩
 ·intro i hi hni
  rw[ml] at hi
  have he:=List.getElem?_eq_getElem hi
  have hst:stOf F.bs i=F.bs[i].2.state:=by unfold stOf;rw[he]
  have hmi:(mapB (G+8) F.bs)[i]'(by omega)=(F.bs[i].1.board,G+8+(3*i+2)):=by
   have:=zcb F.bs (G+8) i F.bs[i] he
   rw[List.getElem?_eq_getElem (by omega)] at this
   exact Option.some.inj this
  have hnn:(seen++[i]).Nodup:=by rw[List.nodup_append];exact⟨hd,by simp,fun a ha b hb=>by rw[List.mem_singleton] at hb;subst hb;intro e;subst e;exact hni ha⟩
  have hbb:∀ x∈seen++[i],x<F.bs.length:=fun x hx=>by
   rcases List.mem_append.1 hx with hx | hx
   ·exact hb x hx
   ·rw[List.mem_singleton] at hx;rw[hx];exact hi
  have hlen:seen.length<F.bs.length:=by
   have h2:=hnn.length_le_of_subset (l₂:=List.range F.bs.length) (fun x hx=>by rw[List.mem_range];exact hbb x hx)
   simp at h2
   omega
  rw[hmi,ml,HC_s0 hG]
  have me:=zbj (h:=HC h steps tries F G m [.iter (some (G+1)) F.bs.length (seen++[i]) F.bs.length]) (j:=G+(8+(boxB F.bs).length)) (m:=G+1) (key:=PV.str) (val:=refA) (l:=mapB (G+8) F.bs) (seen:=seen) (i:=i) (by rw[HC_g0 hG,ml];rfl) (zx3 hG) (by omega)
  rw[hmi] at me
  have lk:=fun (l2:Heap) (b:Int)=>lookC (hp:=HC h steps tries F G m l2) (b:=b) zkO
  have up:=fun (l2:Heap) (b v:Int)=>updC (hp:=HC h steps tries F G m l2) (b:=b) (v:=v) zkO
  have gq:=fun (l2:Heap)=>HC_gq (h:=h) (steps:=steps) (tries:=tries) (m:=m) (l:=l2) hG he
  unfold Sta.bx at gq
  unfold refA at me ⊢
  have cle:cntI F.bs seen F.bs[i].2.state≤1000:=by unfold cntI;have:=List.length_filter_le (fun j=>decide (stOf F.bs j=F.bs[i].2.state)) seen;omega
  have w2:IntKind.i64.wrap ((cntI F.bs seen F.bs[i].2.state:Int)+1)=(cntI F.bs seen F.bs[i].2.state:Int)+1:=z0l _ (by omega) (by omega)
  simp only[go_sem,List.set_cons_zero,me,gq,lk,hc,w2,up,HC_set]
  refine⟨(seen++[i],updM F.bs[i].2.state ((cntI F.bs seen F.bs[i].2.state:Int)+1) m),rfl,⟨⟨hnn,hbb⟩,fun s=>?_⟩,by dsimp only;rw[List.length_append];simp;omega⟩
  dsimp only
  rw[z9w,zm0,hst]
  by_cases e:s=F.bs[i].2.state
  ·rw[if_pos e,if_pos e,e];simp
  ·rw[if_neg e,if_neg e,hc];simp
end Go.Am
end
section
/- Sorting texts by a comparison: printed by program. -/
open Go
set_option linter.unusedSimpArgs false
namespace Go.Am
attribute [-go_sem] PV.cells splice
variable {h:Heap} {K:Post}
theorem zbX (id n:Nat) (l tl:List PV) (hn:n=l.length+tl.length) (hs:shps none l) (hl:l.length≤1000) (hh:h[id]?=some (.row none (l++tl) 0)) {g:Nat} {caps:List AV} {c:PV→PV→Int} (hc:Cmps g caps c l id h) :
 z0c X zaT [.own id n 0 l.length,AI 0,AI l.length,.fn g caps] h K=K (.tup []) (h.set id (.row none (z1K (ltC c) l++tl) 0)) []:=by
 refine rule ?_
 rw[c_q04m]
 have hid:=z71 hh
 have hst:∀ o,(h.set id o)[id]?=some o:=fun o=>z3I hid
 simp only[zho,go_sem,show IntKind.i64.wrap 1=1 from rfl]
 refine z08 (fun i:Nat=>⟨[(0,.own id n 0 l.length),(1,AI 0),(2,AI l.length),(3,.fn g caps),(8,AI i)],h.set id (.row none ((z2n (ltC c) (l.take i)).reverse++(l.drop i++tl)) 0),[]⟩) (fun i=>1≤i∧(i≤l.length∨i=1)) (fun i=>l.length-i) 1 ?_ (by simp) ?_
 ·have:(z2n (ltC c) (l.take 1)).reverse++(l.drop 1++tl)=l++tl:=by cases l <;> rfl
  rw[this,zcn hh];rfl
 rintro i ⟨hi1,hi2⟩
 rcases Nat.lt_or_ge i l.length with hlt | hge
 ·simp only[go_sem,hlt]
  have hxl:l[i]∈l:=List.getElem_mem hlt
  generalize hx:l[i]=x at *
  generalize hR:z2n (ltC c) (l.take i)=R
  have hRl:R.length=i:=by rw[← hR,zbf];simp;omega
  have hRm:∀ z∈R,z∈l:=fun z hz=>List.mem_of_mem_take ((z3A (ltC c) (l.take i)).mem_iff.1 (by rw[hR];exact hz))
  have hdrop:l.drop i=x::l.drop (i+1):=by rw[← hx];exact List.drop_eq_getElem_cons hlt
  have hnext:z2n (ltC c) (l.take (i+1))=insR (ltC c) x R:=by rw[z3O _ _ _ hlt,hR,hx]
  refine z08 (fun t:List PV × List PV=>⟨[(0,.own id n 0 l.length),(1,AI 0),(2,AI l.length),(3,.fn g caps),(8,AI i),(9,AI t.1.length)],h.set id (.row none (t.1.reverse++x::t.2) 0),[]⟩)
   (fun t=>∃ B,R=B++t.1∧t.2=B.reverse++(l.drop (i+1)++tl)∧∀ b∈B,ltC c x b=true) (fun t=>t.1.length) (R,l.drop (i+1)++tl) (by rw[hdrop,hRl];rfl) ⟨[],rfl,rfl,by simp⟩ ?_
  rintro⟨A,C⟩ ⟨B,q1,q2,q3⟩
  dsimp only at q1 q2 q3
  have hlen:(A.reverse++x::C).length=n:=by
   have:R.length=B.length+A.length:=by rw[q1];simp
   rw[q2];simp;omega
  have hBA:B.length+A.length<l.length:=by
   have:R.length=B.length+A.length:=by rw[q1];simp
   omega
  have hln:l.length≤n:=by omega
  have w1:IntKind.i64.wrap ((i:Int)+1)=((i+1:Nat):Int):=z0l _ (by omega) (by omega)
  cases A with
  | nil=>
   have hd:insR (ltC c) x R=B++[x]:=by rw[q1];exact z7K (ltC c) x [] B q3 (fun y r h=>by cases h)
   simp only[go_sem,Int.lt_irrefl,w1]
   refine⟨i+1,?_,by omega,by omega⟩
   simp only[hnext,hd,q2,List.reverse_append,List.reverse_nil,List.nil_append,List.reverse_cons,List.append_assoc,List.cons_append]
  | cons y A=>
   have hyl:y∈l:=hRm y (by rw[q1];simp)
   have g1:=zpo (y::A) C x
   have g2:=zhW A C x y
   have sw:=zhX A C x y
   simp only[List.length_cons] at hBA
   generalize hrow:(y::A).reverse++x::C=row at *
   simp only[List.length_cons] at g1
   have w2:IntKind.i64.wrap (((A.length+1:Nat):Int)-1)=(A.length:Int):=by rw[z0l _ (by omega) (by omega)];omega
   have p1:(0:Int)<((A.length+1:Nat):Int):=by omega
   have b1:A.length+1<l.length:=by omega
   have b2:A.length<l.length:=by omega
   have cx:=zab (hs x hxl)
   have cy:=zab (hs y hyl)
   have hcc:=fun o K=>hc o x hxl y hyl K
   by_cases hxy:c x y<0
   ·have g3:(row.set (A.length+1) y)[A.length]?=some y:=by rw[List.getElem?_set_ne (by omega),g2]
    have lx:=zcq (hs x hxl)
    have ly:=zcq (hs y hyl)
    have sx:=zcp (hs x hxl)
    have sy:=zcp (hs y hyl)
    simp only[z0a] at lx ly
    have t1:=fun i xs h1=>zi1 (hs x hxl) (hs y hyl) id i 0 xs h1
    have t2:=fun i xs h1=>zi1 (hs y hyl) (hs x hxl) id i 0 xs h1
    simp only[go_sem,hst,p1,hlen,g1,g2,g3,w2,b1,b2,hln,cx,cy,hcc,hxy,lx,ly,sx,sy,t1,t2,sw]
    refine⟨(A,y::C),rfl,⟨B++[y],by simp [q1],by simp [q2],fun b hb=>?_⟩,by simp⟩
    rw[List.mem_append,List.mem_singleton] at hb
    rcases hb with hb | rfl
    ·exact q3 b hb
    ·simpa [ltC] using hxy
   ·have hd:insR (ltC c) x R=B++x::y::A:=by rw[q1];exact z7K (ltC c) x (y::A) B q3 (fun z r h=>by cases h;simpa [ltC] using hxy)
    simp only[go_sem,hst,p1,hlen,g1,g2,w2,b1,b2,hln,cx,cy,hcc,hxy,w1]
    refine⟨i+1,?_,by omega,by omega⟩
    simp only[hnext,hd,← hrow,q2,List.reverse_append,List.reverse_cons,List.append_assoc,List.cons_append,List.nil_append]
 ·have hge':¬ i<l.length:=by omega
  have e1:l.take i=l:=List.take_of_length_le hge
  have e2:l.drop i=[]:=List.drop_of_length_le hge
  simp only[go_sem,hge',e1,e2]
  rfl
theorem z3Q (id:Nat) (l:List PV) (hs:shps none l) (hl:l.length≤12) (hh:h[id]?=some (.row none l 0)) {g:Nat} {caps:List AV} {c:PV→PV→Int} (hc:Cmps g caps c l id h) :
 z0c X zaR [.own id l.length 0 l.length,.fn g caps] h K=K (.tup []) (h.set id (.row none (z1K (ltC c) l) 0)) []:=by
 refine rule ?_
 rw[c_q04a]
 have w0:IntKind.u64.wrap (l.length:Int)=l.length:=zvr _ (by omega) (by omega)
 obtain⟨m,hm⟩:=zy7 (l.length:Int) (by omega) (by omega)
 have is:=fun K=>zbX (h:=h) (K:=K) id l.length l [] rfl hs (by omega) (by rw[List.append_nil];exact hh) hc
 simp only[List.append_nil] at is
 have key:∀ K:Post,z0c X z5f [.own id l.length 0 l.length,AI 0,AI l.length,AI m,.fn g caps] h K=K (.tup []) (h.set id (.row none (z1K (ltC c) l) 0)) []:=by
  intro K
  refine rule ?_
  rw[c_q051]
  simp only[zhp,go_sem]
  refine z08 (fun _:Unit=>⟨[(0,.own id l.length 0 l.length),(1,AI 0),(2,AI l.length),(3,AI m),(4,.fn g caps),(10,AB true),(11,AB true)],h,[]⟩) (fun _=>True) (fun _=>0) () rfl trivial ?_
  intro _ _
  have w1:IntKind.i64.wrap ((l.length:Int)-0)=l.length:=by rw[z0l _ (by omega) (by omega)];omega
  have b1:((l.length:Int)≤12):=by omega
  simp only[go_sem,w1,b1,is]
 simp only[zmQ,go_sem,w0,hm,key]
end Go.Am
end
section
/- What is z1z at once is nothing;refused entries left out: plainly. -/
open Go
set_option linter.all false
set_option maxRecDepth 100000
namespace Go.Am
def gtE (a b:Ent):Prop:=0<z1b b a
theorem z2x {x y:Int}:0<cmp3 x y↔y<x:=by unfold cmp3;split <;> (try split) <;> omega
theorem z7o {x y:Int}:cmp3 x y=0↔x=y:=by unfold cmp3;split <;> (try split) <;> omega
theorem zpk {a b c:Ent} (h1:gtE a b) (h2:gtE b c):gtE a c:=by
 unfold gtE z1b at *
 have lt1:∀ {x y:List UInt8},0<cmpL x y↔cmpL y x<0:=fun {x y}=>by rw[z7I y x];omega
 by_cases t1:cmp3 b.time a.time=0
 ·rw[if_neg (by simp [t1])] at h1
  have e1:=z7o.1 t1
  by_cases t2:cmp3 c.time b.time=0
  ·rw[if_neg (by simp [t2])] at h2
   have e2:=z7o.1 t2
   rw[if_neg (by rw[e2,e1];simp [z7o])]
   by_cases s1:cmpL b.site a.site=0
   ·rw[if_neg (by simp [s1])] at h1
    have f1:=z30 s1
    by_cases s2:cmpL c.site b.site=0
    ·rw[if_neg (by simp [s2])] at h2
     have f2:=z30 s2
     rw[if_neg (by rw[f2,f1];simp [z5A])]
     rw[z2x] at *;omega
    ·rw[if_pos s2] at h2
     rw[f1] at s2 h2
     rw[if_pos s2];exact h2
   ·rw[if_pos s1] at h1
    by_cases s2:cmpL c.site b.site=0
    ·have f2:=z30 s2
     rw[f2,if_pos s1];exact h1
    ·rw[if_pos s2] at h2
     have q:=z6X (lt1.1 h1) (lt1.1 h2)
     have q2:=lt1.2 q
     rw[if_pos (by omega)];exact q2
  ·rw[if_pos t2,z2x] at h2
   have:¬ cmp3 c.time a.time=0:=fun z=>by have:=z7o.1 z;omega
   rw[if_pos this,z2x];omega
 ·rw[if_pos t1,z2x] at h1
  by_cases t2:cmp3 c.time b.time=0
  ·have e2:=z7o.1 t2
   have:¬ cmp3 c.time a.time=0:=fun z=>by have:=z7o.1 z;omega
   rw[if_pos this,z2x];omega
  ·rw[if_pos t2,z2x] at h2
   have:¬ cmp3 c.time a.time=0:=fun z=>by have:=z7o.1 z;omega
   rw[if_pos this,z2x];omega
theorem zev (p:Option Ent) (x:Ent) (r:List Ent):z0E p (x::r)=(if entF x≠0 then entF x else if (p.elim false fun q=>decide (z1b x q≤0))=true then 7 else z0E (some x) r):=by cases p <;> rfl
theorem z7v:∀ (l:List Ent) (p:Option Ent),z0E p l=0↔(∀ x∈l,entF x=0)∧(p.toList++l).Pairwise gtE∨l=[]
 | [],p=>by simp [z0E]
 | x::r,p=>by
  have ih:=z7v r (some x)
  rw[zev]
  have ord:((p.elim false fun q=>decide (z1b x q≤0))=true)↔¬ ∀ q∈p.toList,gtE q x:=by
   cases p with
   | none=>simp
   | some q=>simp [gtE]
  constructor
  ·intro h
   left
   by_cases h1:entF x=0
   ·rw[if_neg (by simp [h1])] at h
    by_cases h2:(p.elim false fun q=>decide (z1b x q≤0))=true
    ·rw[if_pos h2] at h;exact absurd h (by decide)
    ·rw[if_neg h2] at h
     have h2':∀ q∈p.toList,gtE q x:=by
      rw[ord] at h2
      exact Classical.not_not.1 h2
     have hr:(x::r).Pairwise gtE:=by
      rcases ih.1 h with ⟨_,q⟩ | q
      ·exact q
      ·rw[q];exact List.pairwise_singleton ..
     refine⟨fun y hy=>?_,?_⟩
     ·rcases List.mem_cons.1 hy with e | e
      ·rw[e];exact h1
      ·rcases ih.1 h with ⟨q,_⟩ | q
       ·exact q y e
       ·rw[q] at e;cases e
     ·cases p with
      | none=>exact hr
      | some q=>
       refine List.pairwise_cons.2 ⟨fun y hy=>?_,hr⟩
       have hq:=h2' q (by simp)
       rcases List.mem_cons.1 hy with e | e
       ·rw[e];exact hq
       ·exact zpk hq ((List.pairwise_cons.1 hr).1 y e)
   ·rw[if_pos h1] at h;exact absurd h h1
  ·intro h
   rcases h with ⟨h1,h2⟩ | h
   ·have hx:=h1 x (List.mem_cons_self ..)
    rw[if_neg (by simp [hx])]
    have hr:(x::r).Pairwise gtE:=(List.pairwise_append.1 h2).2.1
    have hn:¬ (p.elim false fun q=>decide (z1b x q≤0))=true:=by
     rw[ord]
     exact Classical.not_not.2 fun q hq=>(List.pairwise_append.1 h2).2.2 q hq x (List.mem_cons_self ..)
    rw[if_neg hn]
    exact ih.2 (.inl ⟨fun y hy=>h1 y (List.mem_cons_of_mem _ hy),hr⟩)
   ·cases h
theorem zb5:∀ (l seen:List Ent),z2s seen l=false↔(∀ x∈l,∀ o∈seen,z3u o x=false)∧l.Pairwise fun o x=>z3u o x=false
 | [],seen=>by simp [z2s]
 | x::r,seen=>by
  have ih:=zb5 r (seen++[x])
  unfold z2s
  by_cases h:seen.any (fun o=>z3u o x)=true
  ·rw[if_pos h]
   constructor
   ·intro q;cases q
   ·rintro⟨q,_⟩
    obtain⟨o,ho,hs⟩:=List.any_eq_true.1 h
    rw[q x (List.mem_cons_self ..) o ho] at hs;cases hs
  ·rw[if_neg h,ih,List.pairwise_cons]
   have hs:∀ o∈seen,z3u o x=false:=by simpa using h
   constructor
   ·rintro⟨q1,q2⟩
    refine⟨fun y hy o ho=>?_,fun y hy=>q1 y hy x (by simp),q2⟩
    rcases List.mem_cons.1 hy with e | e
    ·rw[e];exact hs o ho
    ·exact q1 y e o (by simp [ho])
   ·rintro⟨q1,q2,q3⟩
    refine⟨fun y hy o ho=>?_,q3⟩
    rcases List.mem_append.1 ho with e | e
    ·exact q1 y (List.mem_cons_of_mem _ hy) o e
    ·rw[List.mem_singleton.1 e];exact q2 y hy
theorem z9a (l:List Ent):z3X l=0↔l.length≤2000∧(∀ x∈l,entF x=0)∧l.Pairwise gtE∧l.Pairwise fun o x=>z3u o x=false:=by
 have e0:z0E none l=0↔(∀ x∈l,entF x=0)∧l.Pairwise gtE:=by
  rw[z7v]
  constructor
  ·rintro (h | h)
   ·exact h
   ·rw[h];simp
  ·intro h;exact .inl h
 have t0:=zb5 l []
 unfold z3X
 constructor
 ·intro h
  split at h
  ·cases h
  rename_i h1
  split at h
  ·rename_i h2;exact absurd h h2
  rename_i h2
  split at h
  ·cases h
  rename_i h3
  have h2':z0E none l=0:=by simpa using h2
  have h3':z2s [] l=false:=by simpa using h3
  exact⟨by omega,(e0.1 h2').1,(e0.1 h2').2,(t0.1 h3').2⟩
 ·rintro⟨h1,h2,h3,h4⟩
  rw[if_neg (by omega),if_neg (by simp [e0.2 ⟨h2,h3⟩]),if_neg (by rw[t0.2 ⟨fun _ _ _ h=>(by cases h),h4⟩];simp)]
theorem zoG {l m:List Ent} (h:m.Sublist l) (hl:z3X l=0):z3X m=0:=by
 rw[z9a] at *
 obtain⟨a,b,c,d⟩:=hl
 exact⟨by have:=h.length_le;omega,fun x hx=>b x (h.subset hx),c.sublist h,d.sublist h⟩
theorem early {l:List Ent} (hv:∀ x∈l,EntV x) (hf:z3X l=0):∀ x∈l,x.time≤1000∧x.site≠[122,122]:=fun x hx=>by
 have:=(zh3 (zoF hf x hx)).t
 have z:=(hv x hx).z
 exact⟨by omega,z.1⟩
end Go.Am
end
section
/- For how long a site runs boards,plainly. -/
open Go
set_option linter.all false
set_option maxRecDepth 100000
namespace Go.Am
def CH:Int→Int→List RunP→Prop
 | lo,hi,[]=>lo≤hi
 | lo,hi,r::rest=>lo≤r.frm∧r.frm≤r.til∧0≤r.til∧CH r.til hi rest
theorem zku:∀ {l:List RunP} {lo hi hi':Int},CH lo hi l→hi≤hi'→CH lo hi' l
 | [],lo,hi,hi',h,g=>by unfold CH at *;omega
 | r::rest,lo,hi,hi',h,g=>⟨h.1,h.2.1,h.2.2.1,zku h.2.2.2 g⟩
theorem zkv:∀ {l:List RunP} {lo hi:Int} {r:RunP},CH lo hi l→hi≤r.frm→r.frm≤r.til→0≤r.til→CH lo r.til (l++[r])
 | [],lo,hi,r,h,a,b,c=>by unfold CH at h;exact⟨by omega,b,c,Int.le_refl _⟩
 | y::rest,lo,hi,r,h,a,b,c=>⟨h.1,h.2.1,h.2.2.1,zkv h.2.2.2 a b c⟩
theorem zvy:∀ {l:List RunP} {lo hi:Int},CH lo hi l→∀ r∈l,0≤r.til
 | [],_,_,_,r,hr=>by cases hr
 | y::rest,lo,hi,h,r,hr=>by
  rcases List.mem_cons.1 hr with e | e
  ·rw[e];exact h.2.2.1
  ·exact zvy h.2.2.2 r e
def over (frm_ til_:Int) (r:RunP):Int:=max 0 (min (if r.til<0 then til_ else r.til) til_-max r.frm frm_)
def zsA (rs:List RunP) (busy:Bool) (T:Int):Prop:=if busy then ∃ pre r,rs=pre++[r]∧CH 0 r.frm pre∧r.til<0∧0≤r.frm∧r.frm≤T else CH 0 T rs
theorem zb2 {rs:List RunP} {busy:Bool} {T T':Int} (h:zsA rs busy T) (g:T≤T'):zsA rs busy T':=by
 unfold zsA at *
 cases busy with
 | true=>
  obtain⟨pre,r,a,b,c,d,e⟩:=h
  exact⟨pre,r,a,b,c,d,by omega⟩
 | false=>exact zku h g
def ofS (s:Nm) (l:List RunP):List RunP:=l.filter fun r=>decide (r.site=s)
theorem z4m {s site:Nm} (h:s≠site) (t:Int):∀ l,ofS s (z1n l site t)=ofS s l
 | []=>rfl
 | r::rest=>by
  have ih:=z4m h t rest
  unfold ofS z1n at *
  simp only[List.map_cons,List.filter_cons]
  rw[ih]
  by_cases e:r.site=site∧r.til<0
  ·rw[if_pos e]
   have:¬ r.site=s:=fun z=>h (z ▸ e.1)
   simp [this]
  ·rw[if_neg e]
theorem zeM {site:Nm} (t:Int):∀ l,ofS site (z1n l site t)=(ofS site l).map fun r=>if r.til<0 then { r with til:=t } else r
 | []=>rfl
 | r::rest=>by
  have ih:=zeM (site:=site) t rest
  unfold ofS z1n at *
  simp only[List.map_cons,List.filter_cons]
  by_cases e:r.site=site
  ·by_cases g:r.til<0
   ·simp [e,g,ih]
   ·simp [e,g,ih]
  ·simp [e,ih]
theorem zj1 {pre:List RunP} {t:Int} (h:∀ r∈pre,0≤r.til):(pre.map fun r=>if r.til<0 then { r with til:=t } else r)=pre:=by
 conv=>rhs;rw[← List.map_id pre]
 apply List.map_congr_left
 intro r hr
 have:=h r hr
 rw[if_neg (by omega)]
 rfl
structure BI (p:FlP) (T:Int):Prop where
 inv:∃ q,Inv p q
 st:∀ s,zsA (ofS s p.runs) (getA p.sites s).isSome T
 si:∀ b st,getA p.bs b=some st→0≤st.since∧st.since≤T
 en:∀ e∈p.ends,0≤e.frm∧e.frm≤e.til∧e.til≤T
theorem BI.mono {p:FlP} {T T':Int} (h:BI p T) (g:T≤T'):BI p T':=
 ⟨h.inv,fun s=>zb2 (h.st s) g,fun b st hb=>by have:=h.si b st hb;omega,fun e he=>by have:=h.en e he;omega⟩
theorem bi0:BI ⟨[],[],[],[]⟩ 0:=
 ⟨⟨_,inv0⟩,fun s=>(show CH 0 0 [] from Int.le_refl _),fun b st h=>(by cases h),fun e he=>(by cases he)⟩
theorem zgO {p:FlP} {T t:Int} (B:BI p T) (ht:T≤t) {board:Nm} {b:Sta} (hb:getA p.bs board=some b) (h2:b.state=2) (s:Nm):zsA (ofS s (z1n p.runs b.site t)) (getA (delA p.sites b.site) s).isSome t:=by
 obtain⟨q,I⟩:=B.inv
 rw[zbV]
 by_cases e:s=b.site
 ·subst e
  rw[if_pos rfl]
  have hs:getA p.sites b.site=some board:=(I.sts b.site board).2 ⟨b,hb,h2,rfl⟩
  have h:=B.st b.site
  rw[hs] at h
  obtain⟨pre,r,a1,a2,a3,a4,a5⟩:=h
  rw[zeM,a1,List.map_append,zj1 (zvy a2)]
  show CH 0 t (pre++_)
  simp only[List.map_cons,List.map_nil,if_pos a3]
  exact zkv (r:={ r with til:=t }) a2 (Int.le_refl _) (by dsimp only;omega) (by dsimp only;omega)
 ·rw[if_neg e,z4m e]
  exact zb2 (B.st s) ht
theorem zxC (steps:List Nm) (tries:Int) {p:FlP} {T:Int} (B:BI p T) (x:Ent) (w:EntW x) (h7:x.kind≠7) (hT:T≤x.time):BI (actP steps tries p x).1 x.time:=by
 obtain⟨q,I⟩:=B.inv
 have inv':∃ q',Inv (actP steps tries p x).1 q':=⟨_,(zuv steps tries I x w.b w.s w.t w.k h7).2⟩
 have t0:=w.t
 have M:=B.mono hT
 have putSi:∀ (k:Nm) (v:Sta),0≤v.since→v.since≤x.time→∀ b st,getA (putA p.bs k v) b=some st→0≤st.since∧st.since≤x.time:=fun k v h1 h2 b st hb=>by
  rw[z2z] at hb
  split at hb
  ·cases hb;exact⟨h1,h2⟩
  ·exact M.si b st hb
 revert inv'
 unfold actP
 by_cases k1:x.kind=1
 ·rw[if_pos k1]
  cases hb:getA p.bs x.board with
  | some b=>intro inv';exact M
  | none=>
   intro inv'
   exact⟨inv',M.st,putSi _ _ t0 (Int.le_refl _),M.en⟩
 rw[if_neg k1]
 cases hb:getA p.bs x.board with
 | none=>intro inv';exact M
 | some b=>
  have hsi:=B.si x.board b hb
  dsimp only
  by_cases k2:x.kind=2
  ·rw[if_pos k2]
   by_cases a1:b.state≠1
   ·rw[if_pos a1];intro inv';exact M
   rw[if_neg a1]
   by_cases a2:x.step≠b.step
   ·rw[if_pos a2];intro inv';exact M
   rw[if_neg a2]
   by_cases a3:(getA p.sites x.site).isSome=true
   ·rw[if_pos a3];intro inv';exact M
   rw[if_neg a3]
   intro inv'
   refine⟨inv',fun s=>?_,putSi _ _ t0 (Int.le_refl _),M.en⟩
   dsimp only
   rw[z2z]
   have hfil:ofS s (p.runs++[⟨x.site,x.time,-1⟩])=ofS s p.runs++(if x.site=s then [⟨x.site,x.time,-1⟩] else []):=by
    unfold ofS
    rw[List.filter_append,List.filter_cons]
    by_cases e:x.site=s <;> simp [e]
   rw[hfil]
   by_cases e:s=x.site
   ·subst e
    rw[if_pos rfl,if_pos rfl]
    have h:=M.st x.site
    have hn:(getA p.sites x.site).isSome=false:=by simpa using a3
    rw[hn] at h
    exact⟨_,_,rfl,h,by dsimp only;omega,t0,Int.le_refl _⟩
   ·have e':¬ x.site=s:=fun z=>e z.symm
    rw[if_neg e,if_neg e',List.append_nil]
    exact M.st s
  rw[if_neg k2]
  by_cases k34:x.kind=3∨x.kind=4
  ·rw[if_pos k34]
   by_cases a1:b.state≠2
   ·rw[if_pos a1];intro inv';exact M
   rw[if_neg a1]
   by_cases a2:b.site≠x.site
   ·rw[if_pos a2];intro inv';exact M
   rw[if_neg a2]
   intro inv'
   have h2:b.state=2:=by simpa using a1
   refine⟨inv',fun s=>zgO B hT hb h2 s,putSi _ _ ?_ ?_,fun e he=>?_⟩
   ·unfold z05;split
    ·split <;> exact t0
    ·exact t0
   ·unfold z05;split
    ·split <;> exact Int.le_refl _
    ·exact Int.le_refl _
   ·rcases List.mem_append.1 he with h | h
    ·exact M.en e h
    ·rw[List.mem_singleton.1 h];dsimp only;omega
  rw[if_neg k34]
  by_cases k5:x.kind=5
  ·rw[if_pos k5]
   by_cases a1:b.state≠3
   ·rw[if_pos a1];intro inv';exact M
   rw[if_neg a1]
   intro inv'
   exact⟨inv',M.st,putSi _ _ t0 (Int.le_refl _),M.en⟩
  rw[if_neg k5]
  by_cases a1:b.state=4∨b.state=5
  ·rw[if_pos a1];intro inv';exact M
  rw[if_neg a1]
  by_cases h2:b.state=2
  ·rw[if_pos h2]
   intro inv'
   exact⟨inv',fun s=>zgO B hT hb h2 s,putSi _ _ t0 (Int.le_refl _),M.en⟩
  ·rw[if_neg h2]
   intro inv'
   exact⟨inv',M.st,putSi _ _ t0 (Int.le_refl _),M.en⟩
theorem zxB (steps:List Nm) (tries:Int) (h0:steps≠[]):∀ (l:List (Ent × Bool)) (S:Flo) (i n:Nat) (T Z:Int),FlI S steps n→BI S.P T→(∀ y∈l,EntW y.1)→(∀ y∈l,T≤y.1.time∧y.1.time≤Z)→T≤Z→(l.map fun y=>y.1.time).Pairwise (· ≤ ·)→BI (Flo.go steps tries S i l).P Z
 | [],S,i,n,T,Z,I,B,_,_,hz,_=>B.mono hz
 | (x,c)::r,S,i,n,T,Z,I,B,hw,ht,hz,hp=>by
  have e1:Flo.go steps tries S i ((x,c)::r)=if c=false∨x.kind=7 then Flo.go steps tries S (i+1) r else Flo.go steps tries (S.step steps tries i x) (i+1) r:=rfl
  have hwr:=fun y hy=>hw y (List.mem_cons_of_mem (x,c) hy)
  have hx:=ht (x,c) (List.mem_cons_self ..)
  rw[List.map_cons,List.pairwise_cons] at hp
  rw[e1]
  by_cases hs:c=false∨x.kind=7
  ·rw[if_pos hs]
   exact zxB steps tries h0 r S (i+1) (n+1) T Z I.up B hwr (fun y hy=>ht y (List.mem_cons_of_mem _ hy)) hz hp.2
  ·rw[if_neg hs]
   obtain⟨s1,s2,_⟩:=zsC (tries:=tries) I h0 i x
   have h7:x.kind≠7:=fun e=>hs (.inr e)
   have B':=zxC steps tries B x (hw (x,c) (List.mem_cons_self ..)) h7 hx.1
   rw[← s2] at B'
   refine zxB steps tries h0 r _ (i+1) (n+1) x.time Z s1 B' hwr (fun y hy=>⟨?_,(ht y (List.mem_cons_of_mem _ hy)).2⟩) hx.2 hp.2
   exact hp.1 y.1.time (List.mem_map_of_mem (f:=fun y:Ent × Bool=>y.1.time) hy)
theorem zyu {a b:Ent} (h:gtE a b):a.time≤b.time:=by
 unfold gtE z1b at h
 by_cases t:cmp3 b.time a.time=0
 ·have:=z7o.1 t;omega
 ·rw[if_pos t,z2x] at h;omega
theorem bi_flo (steps:List Nm) (tries:Int) (h0:steps≠[]) {l:List Ent} (hf:z3X l=0) {Z:Int} (h1:∀ x∈l,x.time≤Z) (hZ:0≤Z):BI (z1j steps tries l).P Z:=by
 have hfl:=(z9a l).1 hf
 refine zxB steps tries h0 (zipC l) flo0 0 0 0 Z (flI0 steps) bi0 (fun y hy=>entF_W (hfl.2.1 y.1 (List.of_mem_zip hy).1)) (fun y hy=>?_) hZ ?_
 ·have hm:=(List.of_mem_zip hy).1
  exact⟨(zh3 (hfl.2.1 y.1 hm)).t.1,h1 y.1 hm⟩
 ·have:(zipC l).map (fun y=>y.1.time)=l.map Ent.time:=by
   unfold zipC
   rw[show (fun y:Ent × Bool=>y.1.time)=Ent.time ∘ Prod.fst from rfl,← List.map_map,List.map_fst_zip (by rw[z1o];exact Nat.le_refl _)]
  rw[this,List.pairwise_map]
  exact hfl.2.2.1.imp zyu
end Go.Am
end
section
/- For how long a site runs boards: the program. -/
open Go
set_option linter.all false
set_option maxRecDepth 100000
namespace Go.Am
variable {h:Heap} {K:Post}
attribute [-go_sem] oEqa z0L z1v z3B
section
variable {fb:Obj} {steps:List Nm} {tries:Int} {S:Flo} {o o':Obj} {l:Heap}
end
def zcs (steps:List Nm) (tries:Int) (l:List Ent) (step:Nm) (at_:Int):Int:=if z3S steps tries l at_=0 then (if steps.contains step then 0 else 8) else z3S steps tries l at_
theorem zgc (steps:List Nm) (tries:Int) (l:List Ent) (O:StOk steps l) (step:Nm) (at_:Int):z0c X zba [z5v steps tries,z1t l,AS step,AI at_] h K=K (AI (zcs steps tries l step at_)) h []:=by
 refine rule ?_
 rw[c_q067 rfl]
 have q1:=fun h K=>zck (h:=h) (K:=K) steps tries l O at_
 have ct:=fun h K=>z7W (h:=h) (K:=K) steps (fun h' _=>strS _) step (by have:=O.n;omega)
 unfold zcs
 by_cases h0:z3S steps tries l at_=0
 ·rw[if_pos h0]
  cases hc:steps.contains step with
  | true=>
   rw[hc] at ct
   simp only[zaA,go_sem,↓q1,q1,h0,↓ct,ct]
   first | done | rfl
  | false=>
   rw[hc] at ct
   simp only[zaA,go_sem,↓q1,q1,h0,↓ct,ct]
   first | done | rfl
 ·rw[if_neg h0]
  simp only[zaA,go_sem,↓q1,q1,h0]
end Go.Am
end
section
/- Which boards wait for a step: the program. -/
open Go
set_option linter.all false
set_option maxRecDepth 100000
namespace Go.Am
variable {h:Heap} {K:Post}
attribute [-go_sem] oEqa z0L z1v z3B z3C z3D
attribute [local go_sem] z1G z2w z4T z4U z7Y z7Z z8a z8b z6S z8c z8d z8e z8f z8g z8h z8i
def z1g (bs:Brds) (k:Nm):Int:=match getA (asA bs) k with
 | some s=>s.since
 | none=>0
def cmpW (bs:Brds) (a b:Nm):Int:=orL [cmp3 (z1g bs a) (z1g bs b),cmpL a b]
theorem zbK (bs:Brds) (a b:Nm):cmpW bs a b=if z1g bs a<z1g bs b then -1 else if z1g bs b<z1g bs a then 1 else cmpL a b:=by
 unfold cmpW cmp3
 generalize z1g bs a=A
 generalize z1g bs b=B
 by_cases h1:A<B
 ·rw[if_pos h1,if_pos h1];rfl
 ·rw[if_neg h1,if_neg h1]
  by_cases h2:A=B
  ·rw[if_pos h2,if_neg (by omega)]
   show (if (0:Int)≠0 then (0:Int) else if cmpL a b≠0 then cmpL a b else 0)=cmpL a b
   rw[if_neg (by simp)]
   by_cases h3:cmpL a b=0
   ·rw[if_neg (by simp [h3]),h3]
   ·rw[if_pos h3]
  ·rw[if_neg h2,if_pos (by omega)];rfl
theorem ordW (bs:Brds):Ordr (cmpW bs) where
 neg a b:=by
  rw[zbK,zbK]
  have:=z7I a b
  split <;> split <;> (try split) <;> omega
 trans a b d h1 h2:=by
  rw[zbK] at h1 h2 ⊢
  have key:cmpL a b≤0→cmpL b d≤0→cmpL a d≤0:=fun g1 g2=>by
   by_cases e1:cmpL a b=0
   ·rw[z30 e1];exact g2
   ·by_cases e2:cmpL b d=0
    ·rw[← z30 e2];exact g1
    ·have:=z6X (a:=a) (b:=b) (c:=d) (by omega) (by omega);omega
  by_cases c1:z1g bs a<z1g bs d
  ·rw[if_pos c1];decide
  ·rw[if_neg c1]
   by_cases c2:z1g bs a<z1g bs b
   ·rw[if_pos c2] at h1
    by_cases c3:z1g bs b<z1g bs d
    ·omega
    ·rw[if_neg c3] at h2
     by_cases c4:z1g bs d<z1g bs b
     ·rw[if_pos c4] at h2;omega
     ·omega
   ·rw[if_neg c2] at h1
    by_cases c5:z1g bs b<z1g bs a
    ·rw[if_pos c5] at h1;omega
    ·rw[if_neg c5] at h1
     by_cases c3:z1g bs b<z1g bs d
     ·omega
     ·rw[if_neg c3] at h2
      by_cases c4:z1g bs d<z1g bs b
      ·rw[if_pos c4] at h2;omega
      ·rw[if_neg c4] at h2
       rw[if_neg (by omega)]
       exact key h1 h2
def zcw (step:Nm) (e:Ent × Sta):Bool:=decide (e.2.state=1)&&decide (e.2.step=step)
def z6b (bs:Brds) (step:Nm):List Nm:=(bs.filter (zcw step)).map fun e=>e.1.board
def z5u (bs:Brds) (step:Nm):List Nm:=z1K (ltO (cmpW bs)) (z6b bs step)
theorem zft {bs:Brds} {step k:Nm}:k∈z5u bs step↔k∈z6b bs step:=z91
theorem zjT {bs:Brds} {step:Nm} (hu:(bs.map fun e=>e.1.board).Nodup) {ns:List Nm} (hp:ns.Perm (z6b bs step)):z1K (ltO (cmpW bs)) ns=z5u bs step:=by
 have hn:(z6b bs step).Nodup:=hu.sublist (List.filter_sublist.map _)
 have ne:∀ {a b:Nm},a≠b→¬ cmpW bs a b=0:=fun {a b} hab hc=>by
  rw[zbK] at hc
  split at hc
  ·omega
  ·split at hc
   ·omega
   ·exact hab (z30 hc)
 refine zb3 (ordW bs) (z78 (ordW bs) ((hp.nodup_iff.2 hn).imp ne)) (z78 (ordW bs) (hn.imp ne)) fun x=>?_
 rw[z91,zft,hp.mem_iff]
theorem zjI (fb:Obj) (steps:List Nm) (tries:Int) (S:Flo) (l:Heap) (q:Nat) (hq:(FS h fb steps tries S l)[q]?=some (.box [.ref (h.length+7) 0])) {a b:Nm} {i j:Nat} (ha:ixB a S.bs=some i) (hb:ixB b S.bs=some j) :
 z0c X z9p [AS a,AS b,.ref q 0] (FS h fb steps tries S l) K=K (AI (cmpW S.bs a b)) (FS h fb steps tries S l) []:=by
 refine rule ?_
 rw[c_q063 rfl]
 obtain⟨e,he,_,ga⟩:=(z7d a S.bs).2 i ha
 obtain⟨f,hf,_,gb⟩:=(z7d b S.bs).2 j hb
 have sa:z1g S.bs a=e.2.since:=by unfold z1g;rw[ga]
 have sb:z1g S.bs b=f.2.since:=by unfold z1g;rw[gb]
 unfold cmpW
 rw[sa,sb]
 unfold FS wbx at hq ⊢
 have la:=fun (o0 o2 o3 o4 o5 o6 o7:Obj) (B l2:Heap)=>z4N (h:=h) S a o0 o2 o3 o4 o5 o6 o7 B l2
 have lb:=fun (o0 o2 o3 o4 o5 o6 o7:Obj) (B l2:Heap)=>z4N (h:=h) S b o0 o2 o3 o4 o5 o6 o7 B l2
 rw[ha] at la
 rw[hb] at lb
 have ge:=fun (o0 o1 o2 o3 o4 o5 o6 o7:Obj) (l2:Heap)=>zf2 (h:=h) (o0:=o0) (o1:=o1) (o2:=o2) (o3:=o3) (o4:=o4) (o5:=o5) (o6:=o6) (o7:=o7) (l:=l2) he
 have gf:=fun (o0 o1 o2 o3 o4 o5 o6 o7:Obj) (l2:Heap)=>zf2 (h:=h) (o0:=o0) (o1:=o1) (o2:=o2) (o3:=o3) (o4:=o4) (o5:=o5) (o6:=o6) (o7:=o7) (l:=l2) hf
 unfold Sta.bx at ge gf
 have q1:=fun h K=>z77 (h:=h) (K:=K) e.2.since f.2.since
 have q2:=fun h K=>z2D (h:=h) (K:=K) a b
 have q3:=fun h K=>zsv (h:=h) (K:=K) [cmp3 e.2.since f.2.since,cmpL a b] (by simp)
 simp only[AL,List.map_cons,List.map_nil] at q3
 simp only[zmV,go_sem,hq,la,lb,ge,gf,↓q1,q1,↓q2,q2,↓q3,q3]
 rw[zbC,List.take_length]
section
variable {fb o:Obj} {steps:List Nm} {tries:Int} {S:Flo} {l l2:Heap}
theorem zkM:(FS h fb steps tries S l)[h.length+1]?=some (mobj PV.str refA (mapB (h.length+8) S.bs)):=z4T
theorem FSw_g7:(FS h fb steps tries S l)[h.length+7]?=some (.box [AStr steps,AI tries,.mp (h.length+1),.mp (h.length+2),.own (h.length+3) S.ends.length 0 S.ends.length,.own (h.length+4) S.runs.length 0 S.runs.length,.own (h.length+5) S.ref.length 0 S.ref.length,.own (h.length+6) S.why.length 0 S.why.length]):=z6S
theorem FSw_t0:(FS h fb steps tries S l)[h.length+(8+(boxB S.bs).length)]?=l[0]?:=zbA 0
theorem zvz (n:Nat):(FS h fb steps tries S l)[h.length+(8+(boxB S.bs).length+n)]?=l[n]?:=zbA n
theorem zc2 (n:Nat):(FS h fb steps tries S l).set (h.length+(8+(boxB S.bs).length+n)) o=FS h fb steps tries S (l.set n o):=zth n
theorem zv0 (n:Nat):(FS h fb steps tries S l).take (h.length+(8+(boxB S.bs).length+n))=FS h fb steps tries S (l.take n):=zbC n
theorem z6T:(FS h fb steps tries S l).length=h.length+(8+(boxB S.bs).length+l.length):=z1G
theorem z8k:FS h fb steps tries S l++l2=FS h fb steps tries S (l++l2):=z2w
theorem FSw_gq {i:Nat} {e:Ent × Sta} (hi:S.bs[i]?=some e):(FS h fb steps tries S l)[h.length+8+(3*i+2)]?=some e.2.bx:=by
 have:=zf2 (h:=h) (o0:=fb) (o1:=mobj PV.str refA (mapB (h.length+8) S.bs)) (o2:=dobj S.sm S.ck) (o3:=.row (some 5) (S.ends.map EndP.pv) 0) (o4:=.row (some 3) (S.runs.map RunP.pv) 0) (o5:=.row none (S.ref.map eI) 0) (o6:=.row none (S.why.map eI) 0) (o7:=wbx h steps tries S.ends.length S.runs.length S.ref.length S.why.length) (l:=l) hi
 unfold qB at this
 rw[← Nat.add_assoc] at this
 exact this
end
theorem zps {k:Nm}:∀ {bs:Brds},k∈bs.map (fun e=>e.1.board)→∃ i,ixB k bs=some i
 | [],h=>by cases h
 | e::r,h=>by
  unfold ixB
  by_cases hk:k=e.1.board
  ·exact⟨0,if_pos hk⟩
  ·rw[if_neg hk]
   rw[List.map_cons,List.mem_cons] at h
   obtain⟨i,hi⟩:=zps (h.resolve_left hk)
   exact⟨i+1,by rw[hi];rfl⟩
def z5q (bs:Brds) (step:Nm) (seen:List Nat):List Nm:=seen.filterMap fun i=>(bs[i]?).bind fun e=>if zcw step e then some e.1.board else none
theorem zjK {bs:Brds} {step:Nm} {seen:List Nat} {i:Nat} {e:Ent × Sta} (he:bs[i]?=some e):z5q bs step (seen++[i])=z5q bs step seen++if zcw step e then [e.1.board] else []:=by
 unfold z5q
 rw[List.filterMap_append]
 congr 1
 simp only[List.filterMap_cons,List.filterMap_nil,he,Option.bind_some]
 cases zcw step e <;> rfl
theorem zs4 {bs:Brds} {step:Nm} {seen:List Nat} (hd:seen.Nodup) (hb:∀ i∈seen,i<bs.length) (ha:∀ i,i<bs.length→i∈seen):(z5q bs step seen).Perm (z6b bs step):=by
 have hp:=zfj hd hb ha
 refine (hp.filterMap _).trans ?_
 clear hp hd hb ha
 have:∀ (pre bs:Brds),((List.range' pre.length bs.length).filterMap fun i=>((pre++bs)[i]?).bind fun e=>if zcw step e then some e.1.board else none)=(bs.filter (zcw step)).map fun e=>e.1.board:=by
  intro pre bs
  induction bs generalizing pre with
  | nil=>rfl
  | cons e r ih=>
   have h2:=ih (pre++[e])
   rw[List.append_assoc,List.length_append] at h2
   have h1:(pre++e::r)[pre.length]?=some e:=by simp
   rw[List.length_cons,List.range'_succ,List.filterMap_cons,List.filter_cons,h1]
   simp only[Option.bind_some]
   cases zcw step e with
   | true=>simp only[if_true,List.map_cons];exact congrArg _ h2
   | false=>exact h2
 have:=this [] bs
 rw[List.range_eq_range']
 exact List.Perm.of_eq this
theorem zs5 (bs:Brds) (step:Nm) (seen:List Nat):(z5q bs step seen).length≤seen.length:=List.length_filterMap_le _ _
theorem zs6 {bs:Brds} {step:Nm} {seen:List Nat} {k:Nm} (h:k∈z5q bs step seen):k∈bs.map fun e=>e.1.board:=by
 unfold z5q at h
 obtain⟨i,_,h⟩:=List.mem_filterMap.1 h
 obtain⟨e,he,h⟩:=Option.bind_eq_some_iff.1 h
 split at h
 ·cases h;exact List.mem_map_of_mem (List.mem_of_getElem? he)
 ·cases h
set_option maxHeartbeats 4000000 in
theorem zap (fb:Obj) (steps:List Nm) (tries:Int) (S:Flo) (hu:(S.bs.map fun e=>e.1.board).Nodup) (hbl:S.bs.length≤12) (step:Nm) :
 z0c X zaY [.ref (h.length+7) 0,AS step] (FS h fb steps tries S []) K=K (AStr (z5u S.bs step)) (FS h fb steps tries S []) []:=by
 refine rule ?_
 rw[c_q062 rfl]
 simp only[zhv]
 refine⟨_,_,_,⟨rfl,rfl,rfl⟩,?_⟩
 have mr:=zbk (h:=FS h fb steps tries S [.box [.ref (h.length+7) 0],.row none [] 0]) (id:=h.length+1) (key:=PV.str) (val:=refA) (l:=mapB (h.length+8) S.bs) zkM
 rw[z6T,z8k,z5Y] at mr
 simp only[List.length_cons,List.length_nil,Nat.zero_add,List.cons_append,List.nil_append] at mr
 have f0:h.length+7+1≤h.length+(8+(boxB S.bs).length):=by omega
 have gt0:=fun l=>FSw_t0 (h:=h) (fb:=fb) (steps:=steps) (tries:=tries) (S:=S) (l:=l)
 have gt1:=fun l=>zvz (h:=h) (fb:=fb) (steps:=steps) (tries:=tries) (S:=S) (l:=l) 1
 have gt2:=fun l=>zvz (h:=h) (fb:=fb) (steps:=steps) (tries:=tries) (S:=S) (l:=l) 2
 simp only[go_sem,z6T,z8k,List.length_nil,List.length_cons,Nat.add_zero,Nat.zero_add,List.nil_append,List.cons_append,gt0,gt1,gt2,FSw_g7,mr,f0]
 have st1:=fun l o=>zc2 (h:=h) (fb:=fb) (steps:=steps) (tries:=tries) (S:=S) (l:=l) (o:=o) 1
 have tk:=fun l=>zv0 (h:=h) (fb:=fb) (steps:=steps) (tries:=tries) (S:=S) (l:=l) 3
 have f1:h.length+(8+(boxB S.bs).length)+1≤h.length+(8+(boxB S.bs).length+3):=by omega
 have f2:h.length+(8+(boxB S.bs).length+1)+1≤h.length+(8+(boxB S.bs).length+3):=by omega
 have f3:h.length+(8+(boxB S.bs).length+2)+1≤h.length+(8+(boxB S.bs).length+3):=by omega
 have ml:(mapB (h.length+8) S.bs).length=S.bs.length:=z5Y _ _
 refine z08 (fun t:List Nat × Option Nm=>⟨match t.2 with
  | none=>[(1,AS step),(2,.ref (h.length+(8+(boxB S.bs).length)) 0),(5,.own (h.length+(8+(boxB S.bs).length+1)) (z5q S.bs step t.1).length 0 (z5q S.bs step t.1).length),(12,.it (h.length+(8+(boxB S.bs).length+2)))]
  | some nm=>[(1,AS step),(2,.ref (h.length+(8+(boxB S.bs).length)) 0),(5,.own (h.length+(8+(boxB S.bs).length+1)) (z5q S.bs step t.1).length 0 (z5q S.bs step t.1).length),(6,AS nm),(12,.it (h.length+(8+(boxB S.bs).length+2))),(30,AB false)],
  FS h fb steps tries S [.box [.ref (h.length+7) 0],.row none ((z5q S.bs step t.1).map PV.str) 0,.iter (some (h.length+1)) S.bs.length t.1 S.bs.length],[]⟩)
  (fun t=>t.1.Nodup∧∀ i∈t.1,i<S.bs.length) (fun t=>S.bs.length-t.1.length) ([],none) rfl ⟨List.nodup_nil,by simp⟩ ?_
 rintro⟨seen,on⟩ ⟨hd,hb⟩
 dsimp only at hd hb
 have hsl:seen.length≤S.bs.length:=by
  have h2:=hd.length_le_of_subset (l₂:=List.range S.bs.length) (fun x hx=>by rw[List.mem_range];exact hb x hx)
  simpa using h2
 have hwl:=zs5 S.bs step seen
 rcases on with _ | nm
 all_goals
  simp only[go_sem]
  refine zxo (key:=PV.str) (val:=refA) (l:=mapB (h.length+8) S.bs) (m:=h.length+1) (seen:=seen) (by rw[gt2,ml];rfl) zkM ?_ ?_
  ·intro hall
   rw[ml] at hall
   have hp:=zs4 (step:=step) hd hb hall
   have hw:=zjT hu hp
   rw[zc2]
   simp only[List.set_cons_zero,List.set_cons_succ]
   have hmem:∀ k∈z5q S.bs step seen,∃ i,ixB k S.bs=some i:=fun k hk=>zps (zs6 hk)
   generalize z5q S.bs step seen=ns at *
   have so:=fun K=>z3Q (h:=FS h fb steps tries S [.box [.ref (h.length+7) 0],.row none (ns.map PV.str) 0,.iter none 1 [] 0]) (K:=K) (h.length+(8+(boxB S.bs).length+1)) (ns.map PV.str) (fun x hx=>by obtain⟨n,_,rfl⟩:=List.mem_map.1 hx;rfl) (by simp;omega) (by rw[gt1];rfl)
    (g:=z9p) (caps:=[.ref (h.length+(8+(boxB S.bs).length)) 0]) (c:=fun x y=>cmpW S.bs (zvs x) (zvs y)) (fun o x hx y hy K=>by
     obtain⟨a,ha,rfl⟩:=List.mem_map.1 hx
     obtain⟨b,hb,rfl⟩:=List.mem_map.1 hy
     obtain⟨i,hi⟩:=hmem a ha
     obtain⟨j,hj⟩:=hmem b hb
     rw[zc2]
     exact zjI fb steps tries S _ _ (by rw[gt0];rfl) hi hj)
   have im:z1K (ltC fun x y=>cmpW S.bs (zvs x) (zvs y)) (ns.map PV.str)=(z5u S.bs step).map PV.str:=by
    rw[← hw]
    exact zpr PV.str (fun a b=>rfl) ns
   have wl:(z5u S.bs step).length=ns.length:=by rw[← hw,z90]
   rw[im] at so
   simp only[zc2,List.set_cons_zero,List.set_cons_succ,List.length_map] at so
   simp only[go_sem,z6T,List.length_cons,List.length_nil,Nat.zero_add,Nat.reduceAdd,f1,f2,tk,List.take_succ_cons,List.take_zero,so]
   have wf:win ((z5u S.bs step).map PV.str) 0 ns.length=(z5u S.bs step).map PV.str:=z7T (by simp [wl])
   have tk0:∀ l,(FS h fb steps tries S l).take (h.length+(8+(boxB S.bs).length))=FS h fb steps tries S []:=fun l=>zv0 0
   simp [gt1,wl,wf,tk0,AV.top]
  ·intro i hi hni
   rw[ml] at hi
   have he:=List.getElem?_eq_getElem hi
   have hmi:(mapB (h.length+8) S.bs)[i]'(by omega)=(S.bs[i].1.board,h.length+8+(3*i+2)):=by
    have:=zcb S.bs (h.length+8) i S.bs[i] he
    rw[List.getElem?_eq_getElem (by omega)] at this
    exact Option.some.inj this
   have hnn:(seen++[i]).Nodup:=by rw[List.nodup_append];exact⟨hd,by simp,fun a ha b hb=>by rw[List.mem_singleton] at hb;subst hb;intro e;subst e;exact hni ha⟩
   have hbb:∀ x∈seen++[i],x<S.bs.length:=fun x hx=>by
    rcases List.mem_append.1 hx with hx | hx
    ·exact hb x hx
    ·rw[List.mem_singleton] at hx;rw[hx];exact hi
   have hlen:seen.length<S.bs.length:=by
    have h2:=hnn.length_le_of_subset (l₂:=List.range S.bs.length) (fun x hx=>by rw[List.mem_range];exact hbb x hx)
    simp at h2
    omega
   rw[hmi,ml,zc2]
   have me:=fun l0=>zbj (h:=FS h fb steps tries S [.box [.ref (h.length+7) 0],l0,.iter (some (h.length+1)) S.bs.length (seen++[i]) S.bs.length]) (j:=h.length+(8+(boxB S.bs).length+2)) (m:=h.length+1) (key:=PV.str) (val:=refA) (l:=mapB (h.length+8) S.bs) (seen:=seen) (i:=i) (by rw[gt2,ml];rfl) zkM (by omega)
   rw[hmi] at me
   have gq:=fun (l2:Heap)=>FSw_gq (h:=h) (fb:=fb) (steps:=steps) (tries:=tries) (l:=l2) he
   unfold Sta.bx at gq
   unfold refA at me ⊢
   have m1:(z5q S.bs step seen).length+1≤z1c:=by unfold z1c;omega
   have hsn:=zjK (step:=step) (seen:=seen) he
   have hw1:zcw step S.bs[i]=(decide (S.bs[i].2.state=1)&&decide (S.bs[i].2.step=step)):=rfl
   rw[hw1] at hsn
   generalize S.bs[i]=e at *
   simp only[List.set_cons_zero,List.set_cons_succ]
   by_cases c1:e.2.state=1
   ·by_cases c2:e.2.step=step
    ·rw[decide_eq_true c1,decide_eq_true c2] at hsn
     simp only[go_sem,me,gq,c1,c2,m1,z6T,z8k,gt1,st1,tk,z4A,f1,f2,f3,List.length_map,List.length_cons,List.length_nil,List.getElem?_cons_zero,List.getElem?_cons_succ,List.set_cons_zero,List.set_cons_succ]
     exact⟨(seen++[i],none),by dsimp only;rw[hsn];simp only[List.map_append,List.length_append];rfl,⟨hnn,hbb⟩,by dsimp only;rw[List.length_append];simp;omega⟩
    ·rw[decide_eq_true c1,decide_eq_false c2] at hsn
     simp only[Bool.and_false,Bool.false_eq_true,if_false,List.append_nil] at hsn
     simp only[go_sem,me,gq,c1,c2,m1,z6T,z8k,gt1,st1,tk,z4A,f1,f2,f3,List.length_map,List.length_cons,List.length_nil,List.getElem?_cons_zero,List.getElem?_cons_succ,List.set_cons_zero,List.set_cons_succ]
     exact⟨(seen++[i],some e.1.board),by dsimp only;rw[hsn],⟨hnn,hbb⟩,by dsimp only;rw[List.length_append];simp;omega⟩
   ·rw[decide_eq_false c1] at hsn
    simp only[Bool.false_and,Bool.false_eq_true,if_false,List.append_nil] at hsn
    simp only[go_sem,me,gq,c1,m1,z6T,z8k,gt1,st1,tk,z4A,f1,f2,f3,List.length_map,List.length_cons,List.length_nil,List.getElem?_cons_zero,List.getElem?_cons_succ,List.set_cons_zero,List.set_cons_succ]
    exact⟨(seen++[i],some e.1.board),by dsimp only;rw[hsn],⟨hnn,hbb⟩,by dsimp only;rw[List.length_append];simp;omega⟩
def z6N (steps:List Nm) (tries:Int) (l:List Ent) (step:Nm) (at_:Int):List Nm × Int:=
 if zcs steps tries l step at_≠0 then ([],zcs steps tries l step at_) else (z5u (z1j steps tries (upL l at_)).bs step,0)
theorem zz0 {steps:List Nm} {tries:Int} {l:List Ent} {step:Nm} {at_:Int} (h:zcs steps tries l step at_=0):z3S steps tries l at_=0:=by
 unfold zcs at h
 split at h
 ·rename_i h0;exact h0
 ·exact h
set_option maxHeartbeats 4000000 in
theorem zst (steps:List Nm) (tries:Int) (l:List Ent) (O:StOk steps l) (step:Nm) (at_:Int) (hbl:(z1j steps tries (upL l at_)).bs.length≤12) :
 z0c X zaX [z5v steps tries,z1t l,AS step,AI at_] h K=K (.tup [AStr (z6N steps tries l step at_).1,AI (z6N steps tries l step at_).2]) h []:=by
 refine rule ?_
 rw[c_q05r rfl]
 have q1:=fun h K=>zgc (h:=h) (K:=K) steps tries l O step at_
 have q3:=fun h K=>ziu (h:=h) (K:=K) l at_ (by have:=O.l;omega)
 unfold z6N
 by_cases h0:zcs steps tries l step at_=0
 case neg=>
  rw[if_pos h0]
  simp only[zhs,go_sem,↓q1,q1,h0]
  first | done | rfl
 rw[if_neg (by simp [h0])]
 have hf:=zz0 h0
 have q4:=fun h K=>z7Q (h:=h) (K:=K) steps tries O.n (z1U hf) (upL l at_) (z4C O at_).l
 obtain⟨I,_⟩:=zpa tries (z1U hf) (fun x hx=>((z4C O at_).e x hx).s)
 generalize (upL l at_).length=n at I
 generalize z1j steps tries (upL l at_)=F at *
 obtain⟨g,hg⟩:∃ g,h++[Obj.box [AStr steps,AI tries]]=g:=⟨_,rfl⟩
 have gl:g.length=h.length+1:=by rw[← hg];simp
 have q5:=fun K=>q4 (h++[Obj.box [AStr steps,AI tries]]) K
 have q6:∀ K,z0c X z1H [z5v steps tries,z1t (upL l at_)] (h++[Obj.box [AStr steps,AI tries]]) K=K (.ref (g.length+7) 0) (FS g (flB steps tries) steps tries F []) (escE g F.bs.length):=fun K=>by rw[q5,hg]
 have ex:∀ y∈escE g F.bs.length,h.length≤y.1:=fun y hy=>by have:=(z2y hy).1;omega
 have q7:=fun K=>zap (h:=g) (K:=K) (flB steps tries) steps tries F I.nb hbl step
 simp only[zhs,go_sem,↓q1,q1,h0,↓q3,q3,↓q6,q6,↓q7,q7]
 rw[z7P (v:=.tup [AStr (z5u F.bs step),AI 0]) ex (by simp [reif,z4X,z0C]) (by simp [AV.top,AV.tops])]
 refine⟨rfl,?_,rfl⟩
 rw[← hg]
 unfold FS FH
 rw[List.append_assoc,List.take_left]
end Go.Am
end
section
/- Each board is in one state,each site runs at most one: plainly. -/
open Go
set_option linter.all false
set_option maxRecDepth 100000
namespace Go.Am
structure BoI (S:Flo) (N:List Nm):Prop where
 st:∀ e∈S.bs,1≤e.2.state∧e.2.state≤5
 nm:∀ e∈S.bs,e.1.board∈N
theorem boI0 (N:List Nm):BoI flo0 N:=⟨fun e he=>(by cases he),fun e he=>(by cases he)⟩
theorem BoI.put {S S':Flo} {N:List Nm} (I:BoI S N) {i:Nat} {e:Ent × Sta} (he:S.bs[i]?=some e) {s:Sta} (hs:1≤s.state∧s.state≤5) (hb:S'.bs=S.bs.set i (e.1,s)):BoI S' N where
 st y hy:=by
  rw[hb] at hy
  rcases zcc hy with h | h
  ·exact I.st y h
  ·rw[h];exact hs
 nm y hy:=by
  rw[hb] at hy
  rcases zcc hy with h | h
  ·exact I.nm y h
  ·rw[h];exact I.nm e (List.mem_of_getElem? he)
theorem zct (steps:List Nm) (tries:Int) (s:Sta) (t:Int) (p:Bool):1≤(z05 steps tries s t p).state∧(z05 steps tries s t p).state≤5:=by
 unfold z05
 split
 ·split
  ·exact⟨(by dsimp only;omega),(by dsimp only;omega)⟩
  ·exact⟨(by dsimp only;omega),(by dsimp only;omega)⟩
 ·dsimp only
  split <;> exact⟨by omega,by omega⟩
theorem zxS {S:Flo} {N:List Nm} (I:BoI S N) (steps:List Nm) (tries:Int) {x:Ent} (hx:x.kind=1→x.board∈N):BoI (S.act steps tries x).2 N:=by
 unfold Flo.act
 split
 ·split
  ·rename_i hk
   refine⟨fun e he=>?_,fun e he=>?_⟩
   ·rcases List.mem_append.1 he with h | h
    ·exact I.st e h
    ·rw[List.mem_singleton] at h;rw[h];exact⟨(by dsimp only;omega),(by dsimp only;omega)⟩
   ·rcases List.mem_append.1 he with h | h
    ·exact I.nm e h
    ·rw[List.mem_singleton] at h;rw[h];exact hx hk
  ·exact I
 ·rename_i i hi
  split
  ·exact I
  ·rename_i e he
   split
   ·exact I
   ·unfold Flo.old Flo.startR Flo.finishR
    repeat' split
    all_goals first
     | exact I
     | exact I.put he (s:=⟨2,x.time,e.2.step,x.site,e.2.failed⟩) ⟨(by dsimp only;omega),(by dsimp only;omega)⟩ rfl
     | exact I.put he (zct steps tries e.2 x.time (decide (x.kind=3))) rfl
     | exact I.put he (s:=⟨1,x.time,e.2.step,e.2.site,e.2.failed⟩) ⟨(by dsimp only;omega),(by dsimp only;omega)⟩ rfl
     | exact I.put he (s:=⟨5,x.time,e.2.step,[],e.2.failed⟩) ⟨(by dsimp only;omega),(by dsimp only;omega)⟩ rfl
     | exact I.put he (s:=⟨5,x.time,e.2.step,e.2.site,e.2.failed⟩) ⟨(by dsimp only;omega),(by dsimp only;omega)⟩ rfl
theorem ztx {S:Flo} {N:List Nm} (I:BoI S N) (steps:List Nm) (tries:Int) (i:Nat) {x:Ent} (hx:x.kind=1→x.board∈N):BoI (S.step steps tries i x) N:=by
 have J:=zxS I steps tries hx
 unfold Flo.step
 split
 ·exact⟨J.st,J.nm⟩
 ·exact J
theorem zxT (steps:List Nm) (tries:Int) (N:List Nm):∀ (l:List (Ent × Bool)) (S:Flo) (i:Nat),BoI S N→(∀ y∈l,y.1.kind=1→y.1.board∈N)→BoI (Flo.go steps tries S i l) N
 | [],S,i,I,_=>I
 | (x,c)::r,S,i,I,hx=>by
  have e1:Flo.go steps tries S i ((x,c)::r)=if c=false∨x.kind=7 then Flo.go steps tries S (i+1) r else Flo.go steps tries (S.step steps tries i x) (i+1) r:=rfl
  rw[e1]
  have hr:=fun y hy=>hx y (List.mem_cons_of_mem (x,c) hy)
  split
  ·exact zxT steps tries N r S (i+1) I hr
  ·exact zxT steps tries N r _ (i+1) (ztx I steps tries i (hx (x,c) (List.mem_cons_self ..))) hr
theorem flo_Bo (steps:List Nm) (tries:Int) (N:List Nm) {l:List Ent} (hl:∀ x∈l,x.kind=1→x.board∈N):BoI (z1j steps tries l) N:=
 zxT steps tries N (zipC l) flo0 0 (boI0 N) (fun y hy=>hl y.1 (List.of_mem_zip hy).1)
theorem zso {F:Flo} {s k:Nm} (hk:k≠[]∨(getA (asS F.sm) s).isSome=true):(s,k)∈z6L F↔getA (asS F.sm) s=some k:=by
 unfold z6L
 rw[List.mem_map]
 constructor
 ·rintro⟨y,hy,e⟩
  simp only[Prod.mk.injEq] at e
  obtain⟨rfl,e⟩:=e
  have hy2:y∈F.sm.map fun e=>e.1.1:=(List.mergeSort_perm _ _).mem_iff.1 hy
  cases h:getA (asS F.sm) y with
  | some v=>rw[h] at e;rw[← e];rfl
  | none=>
   exfalso
   obtain⟨z,hz,rfl⟩:=List.mem_map.1 hy2
   unfold getA asS at h
   rw[Option.map_eq_none_iff,List.find?_eq_none] at h
   exact h z.1 (List.mem_map_of_mem hz) (by simp)
 ·intro h
  refine⟨s,(List.mergeSort_perm _ _).mem_iff.2 ?_,by rw[h];rfl⟩
  obtain⟨z,hz,e⟩:=List.mem_map.1 (zbW h)
  rw[List.mem_map]
  exact⟨z,hz,by rw[e]⟩
theorem zhQ:∀ {bs:Brds},(bs.map fun e=>e.1.board).Nodup→∀ {e:Ent × Sta},e∈bs→getA (asA bs) e.1.board=some e.2
 | [],_,e,h=>by cases h
 | y::r,hu,e,h=>by
  rw[List.map_cons,List.nodup_cons] at hu
  unfold asA
  rw[List.map_cons,z11]
  rcases List.mem_cons.1 h with h | h
  ·rw[h,if_pos rfl]
  ·have:¬ y.1.board=e.1.board:=fun q=>hu.1 (by rw[q];exact List.mem_map_of_mem h)
   rw[if_neg this]
   exact zhQ hu.2 h
theorem z5T {bs:Brds} {k:Nm} {st:Sta} (h:getA (asA bs) k=some st):∃ e∈bs,e.1.board=k∧e.2=st:=by
 obtain⟨e,he,h2⟩:=List.mem_map.1 (zbW h)
 simp only[Prod.mk.injEq] at h2
 exact⟨e,he,h2⟩
def z9x (bs:Brds) (s:Int) (k:Nm):Bool:=match getA (asA bs) k with
 | some st=>decide (st.state=s)
 | none=>false
theorem zjc {bs:Brds} (hu:(bs.map fun e=>e.1.board).Nodup) {N:List Nm} (hn:N.Nodup) (hs:∀ e∈bs,e.1.board∈N) (s:Int):cntS bs s=(N.filter (z9x bs s)).length:=by
 unfold cntS
 have h1:((bs.filter fun e=>decide (e.2.state=s)).map fun e=>e.1.board).length=(bs.filter fun e=>decide (e.2.state=s)).length:=List.length_map _
 rw[← h1]
 refine List.Perm.length_eq ((List.perm_ext_iff_of_nodup (hu.sublist (List.filter_sublist.map _)) (hn.sublist List.filter_sublist)).2 fun k=>?_)
 rw[List.mem_map,List.mem_filter]
 constructor
 ·rintro⟨e,he,rfl⟩
  rw[List.mem_filter] at he
  refine⟨hs e he.1,?_⟩
  unfold z9x
  rw[zhQ hu he.1]
  exact he.2
 ·rintro⟨_,h⟩
  unfold z9x at h
  cases hg:getA (asA bs) k with
  | none=>rw[hg] at h;cases h
  | some st=>
   rw[hg] at h
   obtain⟨e,he,e1,e2⟩:=z5T hg
   exact⟨e,List.mem_filter.2 ⟨he,by rw[e2];exact h⟩,e1⟩
def b4N:List Nm:=[[98,49],[98,50],[98,51],[98,52]]
theorem zmg:b4N.Nodup:=by decide
theorem zvw {bs:Brds} {k:Nm} {st:Sta} (h:getA (asA bs) k=some st) (h1:st.state=1):k∈z5u bs st.step:=by
 obtain⟨e,he,e1,e2⟩:=z5T h
 rw[zft]
 unfold z6b
 exact List.mem_map.2 ⟨e,List.mem_filter.2 ⟨he,by unfold zcw;rw[e2];simp [h1]⟩,e1⟩
theorem zfm {l:List Nm} (h:l.Nodup):(zcr l).Pairwise fun a b=>a<b:=by
 have tr:∀ a b c:Nm,decide (a≤b)=true→decide (b≤c)=true→decide (a≤c)=true:=fun a b c h1 h2=>by simp only[decide_eq_true_eq] at *;exact List.le_trans h1 h2
 have tot:∀ a b:Nm,(decide (a≤b)||decide (b≤a))=true:=fun a b=>by simp only[Bool.or_eq_true,decide_eq_true_eq];exact List.le_total a b
 have h1:=List.pairwise_mergeSort tr tot l
 have h2:(zcr l).Nodup:=((List.mergeSort_perm l _).nodup_iff).2 h
 refine (h1.and h2).imp fun {a b} ⟨q1,q2⟩=>?_
 simp only[decide_eq_true_eq] at q1
 rcases List.le_iff_lt_or_eq.1 q1 with q | q
 ·exact q
 ·exact absurd q q2
theorem ztW {x:Ent} (h:entF x=0) (h7:x.kind≠7):keyB x.board=true:=by
 unfold entF at h
 split at h
 ·cases h
 split at h
 ·cases h
 split at h
 ·cases h
 split at h
 ·cases h
 rename_i h4
 have hn:z73 x=true:=by simpa using h4
 unfold z73 at hn
 rw[if_neg h7] at hn
 split at hn
 ·rw[Bool.and_eq_true] at hn;exact hn.1
 ·exact hn
theorem brd_b4 {x:Ent} (h:entF x=0) (h7:x.kind≠7) (hw:x.board∈brdN):x.board∈b4N:=by
 have hk:=ztW h h7
 simp only[brdN,List.mem_cons,List.not_mem_nil,or_false] at hw
 rcases hw with e | e | e | e | e | e
 ·rw[e] at hk;exact absurd hk (by decide)
 ·rw[e] at hk;exact absurd hk (by decide)
 ·rw[e];decide
 ·rw[e];decide
 ·rw[e];decide
 ·rw[e];decide
structure Boo (F:Flo) (steps:List Nm):Prop where
 fl:∃ n,FlI F steps n
 bo:BoI F b4N
 iv:∃ q,Inv F.P q
theorem Boo.len {F:Flo} {steps:List Nm} (B:Boo F steps):F.bs.length≤4:=by
 obtain⟨n,I⟩:=B.fl
 have:=I.nb.length_le_of_subset (l₂:=b4N) (fun k hk=>by obtain⟨e,he,rfl⟩:=List.mem_map.1 hk;exact B.bo.nm e he)
 rw[List.length_map] at this
 exact this
theorem Boo.cnt {F:Flo} {steps:List Nm} (B:Boo F steps) (s:Int):cntS F.bs s=(b4N.filter (z9x F.bs s)).length:=by
 obtain⟨n,I⟩:=B.fl
 exact zjc I.nb zmg B.bo.nm s
theorem Boo.st {F:Flo} {steps:List Nm} (B:Boo F steps) {k:Nm} {st:Sta} (h:getA (asA F.bs) k=some st):1≤st.state∧st.state≤5:=by
 obtain⟨e,he,_,e2⟩:=z5T h
 rw[← e2];exact B.bo.st e he
theorem Boo.step {F:Flo} {steps:List Nm} (B:Boo F steps) {k:Nm} {st:Sta} (h:getA (asA F.bs) k=some st) (h1:st.state=1):st.step∈steps:=by
 obtain⟨n,I⟩:=B.fl
 obtain⟨e,he,_,e2⟩:=z5T h
 rw[← e2];exact I.st e he (.inl (by rw[e2];exact h1))
theorem Boo.runs {F:Flo} {steps:List Nm} (B:Boo F steps) {k:Nm} {st:Sta} (hk:k≠[]) (h:getA (asA F.bs) k=some st):(st.site,k)∈z6L F↔st.state=2:=by
 obtain⟨q,I⟩:=B.iv
 rw[zso (.inl hk)]
 have:=I.sts st.site k
 show getA (asS F.sm) st.site=some k↔_
 rw[show getA (asS F.sm) st.site=getA F.P.sites st.site from rfl,this]
 constructor
 ·rintro⟨s2,h2,h3,_⟩
  have:getA F.P.bs k=some st:=h
  rw[this] at h2
  cases h2
  exact h3
 ·intro h2
  exact⟨st,h,h2,rfl⟩
theorem zxU (steps:List Nm) (tries:Int) (h0:steps≠[]) {l:List Ent} (hf:z3X l=0) (hw:∀ x∈l,x.board∈brdN) (hs:∀ x∈l,x.site.length≤1000000) {Z:Int} (h1:∀ x∈l,x.time≤Z) (hZ:0≤Z):Boo (z1j steps tries l) steps where
 fl:=⟨_,(zpa tries h0 hs).1⟩
 bo:=flo_Bo steps tries b4N (fun x hx hk=>brd_b4 (((z9a l).1 hf).2.1 x hx) (by omega) (hw x hx))
 iv:=(bi_flo steps tries h0 hf h1 hZ).inv
end Go.Am
end
section
/- Lists of pairs looked through: the program. -/
open Go
set_option linter.all false
set_option maxRecDepth 100000
namespace Go.Am
variable {h:Heap} {K:Post}
theorem zsq (P:List (Nm × Nm)) (q:Nm × Nm) (hl:P.length≤1000000):z0c X zaQ [z2I P,.p (z1d q)] h K=K (AI (if P.findIdx (fun x=>decide (x=q))<P.length then (P.findIdx (fun x=>decide (x=q)):Int) else -1)) h []:=by
 refine rule ?_
 rw[c_q047]
 obtain⟨q1,q2⟩:=q
 simp only[zhm,go_sem,z1d]
 refine z08 (fun k:Nat=>⟨[(0,z2I P),(3,.ref h.length 0),(7,AI P.length),(8,AI k)],h++[.box [AS q1,AS q2]],[]⟩) (fun k=>k≤P.length∧∀ i (hi:i<P.length),i<k→P[i]≠(q1,q2)) (fun k=>P.length-k) 0 rfl ⟨by omega,fun i _ hi=>by omega⟩ ?_
 rintro k ⟨hk,hp⟩
 rcases Nat.lt_or_ge k P.length with hlt | hge
 ·have hg:=z0K z1d hlt
  simp only[z1d] at hg
  have w2:IntKind.i64.wrap ((k:Int)+1)=((k+1:Nat):Int):=z0l _ (by omega) (by omega)
  by_cases he:P[k]=(q1,q2)
  ·have e1:P.findIdx (fun x=>decide (x=(q1,q2)))=k:=by
    rw[List.findIdx_eq hlt]
    exact⟨by simpa using he,fun j hj=>by simpa using hp j (by omega) hj⟩
   have a1:(P[k]).1=q1:=by rw[he]
   have a2:(P[k]).2=q2:=by rw[he]
   simp only[go_sem,hlt,hg,w2,a1,a2,e1]
  ·have hc:¬ (q1=(P[k]).1∧q2=(P[k]).2):=fun ⟨c1,c2⟩=>he (by rw[c1,c2])
   simp only[go_sem,hlt,hg,w2]
   rw[if_neg (by simpa using hc)]
   exact⟨k+1,rfl,⟨by omega,fun i hi hik=>by
    rcases Nat.lt_or_ge i k with hh | hh
    ·exact hp i hi hh
    ·have:i=k:=by omega
     subst this;exact he⟩,by omega⟩
 ·have e1:k=P.length:=by omega
  subst e1
  have e2:¬ P.findIdx (fun x=>decide (x=(q1,q2)))<P.length:=by
   intro hh
   have:=List.findIdx_getElem (p:=fun x=>decide (x=(q1,q2))) (xs:=P) (w:=hh)
   exact hp _ hh hh (by simpa using this)
  simp only[go_sem,Nat.lt_irrefl,e2]
theorem zeV (P:List (Nm × Nm)) (q:Nm × Nm) (hl:P.length≤1000000):z0c X zaO [z2I P,.p (z1d q)] h K=K (AB (decide (q∈P))) h []:=by
 refine rule ?_
 rw[c_q03w]
 have S:=fun h K=>zsq (h:=h) (K:=K) P q hl
 obtain⟨q1,q2⟩:=q
 simp only[z1d] at S
 simp only[zmO,go_sem,z1d,↓S,S]
 by_cases hm:(q1,q2)∈P
 ·have:P.findIdx (fun x=>decide (x=(q1,q2)))<P.length:=List.findIdx_lt_length_of_exists ⟨_,hm,by simp⟩
  simp [this,hm]
 ·have:¬ P.findIdx (fun x=>decide (x=(q1,q2)))<P.length:=by
   intro hh
   have h2:=List.findIdx_getElem (p:=fun x=>decide (x=(q1,q2))) (xs:=P) (w:=hh)
   apply hm
   have h3:P[P.findIdx (fun x=>decide (x=(q1,q2)))]=(q1,q2):=by simpa using h2
   rw[← h3];exact List.getElem_mem hh
  simp [this,hm]
end Go.Am
end
section
/- stationed: a z0I call,computed. -/
open Go
set_option linter.all false
namespace Go.Am
end Go.Am
end
section
/- EntryTexts returns true. -/
open Go
set_option linter.all false
set_option maxRecDepth 100000
namespace Go.Am
variable {L:List Int} {a:Int} {h l:Heap} {id:Nat} {K:Post}
theorem zam (hp:posN 20000 a) (n:Nat) (hn:n≤20) :
 GenE zaH [AI n] L a (fun v a2=>a≤a2∧a2≤a+8000∧∃ rs:List Ent,rs.length≤n∧(∀ r∈rs,EntV r)∧z3X rs=0∧v=z1t rs):=by
 refine GenE.of fun h id hid=>?_
 rw[c_q02m rfl]
 simp only[zhi,go_sem,hid]
 refine z08 (fun t:Nat × Int=>⟨[(0,.ref id 0),(1,AI n),(6,AI t.1)],h.set id (strm L t.2),[]⟩) (fun t=>t.1≤8∧a≤t.2∧t.2≤a+1000*t.1) (fun t=>8-t.1) (0,a) rfl ⟨by simp,by simp,by simp⟩ ?_
 rintro⟨k,b⟩ ⟨h1,h2,h3⟩
 dsimp only at h1 h2 h3 ⊢
 rcases Nat.lt_or_ge k 8 with hlt | hge
 ·have hk:(k:Int)<8:=by omega
  have w1:IntKind.i64.wrap ((k:Int)+1)=((k+1:Nat):Int):=z0l _ (by omega) (by omega)
  obtain⟨_,a2,⟨c1,c2,rs,r1,r2,rfl⟩,V⟩:=(zpc (L:=L) (a:=b) (z0O hp h2 (by omega)) n hn).set (h:=h) hid
  have F:=fun h K=>zao (h:=h) (K:=K) rs (fun x hx=>(r2 x hx).ok) (by omega)
  by_cases hf:z3X rs=0
  ·simp only[go_sem,hid,hk,↓V,V,↓F,F,hf]
   exact⟨a2,⟨by omega,by omega,rs,r1,r2,hf,rfl⟩,rfl⟩
  ·simp only[go_sem,hid,hk,↓V,V,↓F,F,hf,w1]
   exact⟨(k+1,a2),rfl,⟨by dsimp only;omega,by dsimp only;omega,by dsimp only;omega⟩,by dsimp only;omega⟩
 ·have hk:¬ (k:Int)<8:=by omega
  simp only[go_sem,hid,hk]
  exact⟨b,⟨by omega,by omega,[],by simp,by simp,by decide,rfl⟩,rfl⟩
end Go.Am
end
section
/- The shortest way between two states of a test access port: a search over a queue. -/
open Go
set_option linter.all false
namespace Go.Am
variable {h:Heap} {K:Post}
attribute [-go_sem] z0L z1v z3C z3D
def nxtT:List (List Nat):=[[1,0],[1,2],[3,9],[4,5],[4,5],[6,8],[6,7],[4,8],[1,2],[10,0],[11,12],[11,12],[13,15],[13,14],[11,15],[1,2]]
def nxt (s t:Nat):Nat:=(nxtT.getD s []).getD t 0
theorem zyR {s t:Nat} (hs:s<16) (ht:t<2):([AI 1,AI 0,AI 1,AI 2,AI 3,AI 9,AI 4,AI 5,AI 4,AI 5,AI 6,AI 8,AI 6,AI 7,AI 4,AI 8,AI 1,AI 2,AI 10,AI 0,AI 11,AI 12,AI 11,AI 12,AI 13,AI 15,AI 13,AI 14,AI 11,AI 15,AI 1,AI 2]:List AV)[s*2+t*1]?=some (AI (nxt s t)):=by
 have hs':s=0∨s=1∨s=2∨s=3∨s=4∨s=5∨s=6∨s=7∨s=8∨s=9∨s=10∨s=11∨s=12∨s=13∨s=14∨s=15:=by omega
 have ht':t=0∨t=1:=by omega
 rcases hs' with rfl | rfl | rfl | rfl | rfl | rfl | rfl | rfl | rfl | rfl | rfl | rfl | rfl | rfl | rfl | rfl <;> rcases ht' with rfl | rfl <;> rfl
theorem zph {Y:Ctx} (hY:Y.fn z9s=some zcT) (s t:Nat) (hs:s<16) (ht:t<2):z0c Y z9s [AI s,AI t] h K=K (AI (nxt s t)) h []:=by
 refine rule ?_
 rw[z0k hY rfl (show z0t h [AI s,AI t]=some ([AI s,AI t],h) from rfl) rfl,e_q06q]
 show zmY _ _ _ _ _ _ (finR [.t 4] false _ _)
 have g:=zyR hs ht
 simp only[zmY,go_sem,hs,ht,g]
abbrev Ways:=List (Int × List UInt8)
def keyP (n:Int):PV:=.int .i64 n
def valP (s:List UInt8):AV:=.p (.str s)
def bit1 (t:Nat):List UInt8:=[UInt8.ofNat (48+t)]
def zfs (at_ t:Nat) (s:Ways × List Nat):Ways × List Nat:=
 if (getM (nxt at_ t:Int) s.1).isSome then s else (updM (nxt at_ t:Int) ((getM (at_:Int) s.1).getD []++bit1 t) s.1,s.2++[nxt at_ t])
def z6M (at_:Nat):Nat→Ways × List Nat→Ways × List Nat
 | 0,s=>s
 | t+1,s=>zfs at_ t (z6M at_ t s)
def popS (s:Ways × List Nat):Ways × List Nat:=match s.2 with
 | []=>s
 | a::r=>z6M a 2 (s.1,r)
def bfs (a:Nat):Nat→Ways × List Nat
 | 0=>([((a:Int),[])],[a])
 | k+1=>popS (bfs a k)
def zzb (a b:Nat):List UInt8:=(getM (b:Int) (bfs a 16).1).getD []
def zjq (s:Ways × List Nat):Bool:=decide (s.1.length≤16)&&decide (s.2.length≤16)&&s.2.all (fun x=>decide (x<16))&&s.1.all (fun e=>decide (e.2.length≤16))
theorem zmj:(List.range 16).all (fun a=>(List.range 16).all (fun k=>zjq (bfs a k) && !(bfs a k).2.isEmpty)&&zjq (bfs a 16)&&(bfs a 16).2.isEmpty)=true:=by kernel_rfl
theorem ztw {a k:Nat} (ha:a<16) (hk:k<16):zjq (bfs a k)=true∧(bfs a k).2≠[]:=by
 have h1:=List.all_eq_true.1 zmj a (List.mem_range.2 ha)
 simp only[Bool.and_eq_true] at h1
 have h2:=List.all_eq_true.1 h1.1.1 k (List.mem_range.2 hk)
 simp only[Bool.and_eq_true,Bool.not_eq_true',List.isEmpty_eq_false_iff] at h2
 exact h2
theorem zxA {a:Nat} (ha:a<16):zjq (bfs a 16)=true∧(bfs a 16).2=[]:=by
 have h1:=List.all_eq_true.1 zmj a (List.mem_range.2 ha)
 simp only[Bool.and_eq_true,List.isEmpty_iff] at h1
 exact⟨h1.1.2,h1.2⟩
theorem zuf {s:Ways × List Nat} (hf:zjq s=true):s.1.length≤16∧s.2.length≤16∧(∀ x∈s.2,x<16)∧∀ e∈s.1,e.2.length≤16:=by
 unfold zjq at hf
 simp only[Bool.and_eq_true,decide_eq_true_eq,List.all_eq_true] at hf
 exact⟨hf.1.1.1,hf.1.1.2,hf.1.2,hf.2⟩
theorem lookP {hp:Heap} {id:Nat} {m:Ways} {b:Int} (hh:hp[id]?=some (mobj keyP valP m)):z0L (none,[0]) false (.p (.str [])) (.mp id) (AI b) hp=some (.p (.str ((getM b m).getD []))):=by
 have:=z22 (key:=keyP) (val:=valP) (fun a b=>z5U a b) hh (kk:=(none,[0])) (k:=b) z4g (ok:=false) (z:=.p (.str []))
 rw[cond_false] at this
 refine this.trans ?_
 cases getM b m <;> rfl
theorem lookQ {hp:Heap} {id:Nat} {m:Ways} {b:Int} (hh:hp[id]?=some (mobj keyP valP m)):z0L (none,[0]) true (.p (.str [])) (.mp id) (AI b) hp=some (.tup [.p (.str ((getM b m).getD [])),AB (getM b m).isSome]):=by
 have:=z22 (key:=keyP) (val:=valP) (fun a b=>z5U a b) hh (kk:=(none,[0])) (k:=b) z4g (ok:=true) (z:=.p (.str []))
 rw[cond_true] at this
 refine this.trans ?_
 cases getM b m <;> rfl
theorem updP {hp:Heap} {id:Nat} {m:Ways} {b:Int} {v:List UInt8} (hh:hp[id]?=some (mobj keyP valP m)):z1v (none,[0]) (.mp id) (AI b) (.p (.str v)) hp=some (.und,hp.set id (mobj keyP valP (updM b v m)),[]):=
 z4P (key:=keyP) (val:=valP) (fun a b=>z5U a b) hh (kk:=(none,[0])) (k:=b) z4g (v:=v) rfl
structure Que (R:Heap) (i:Nat) (xs:List Nat) (off:Nat) (q:List Nat):Prop where
 get:R[i]?=some (.row none (xs.map fun n:Nat=>eI n) 0)
 le:off≤xs.length
 eq:xs.drop off=q
theorem nq_one {hp:Heap} {id:Nat} {xs:List Nat} {off:Nat} {n:Int} {k:AV→Heap→Esc→Prop} (hh:hp[id]?=some (.row none (xs.map fun n:Nat=>eI n) 0)) (ho:off≤xs.length) (hm:xs.length≤1000000)
 (k1:k (.own id (xs.length+1) off (xs.length-off+1)) (hp.set id (.row none (xs.map (fun n:Nat=>eI n)++[eI n]) 0)) [])
 (k2:k (.own hp.length (xs.length-off+1) 0 (xs.length-off+1)) (hp++[.row none ((xs.drop off).map (fun n:Nat=>eI n)++[eI n]) 0]) []) :
 nqK (some none) [.own id xs.length off (xs.length-off),.p (.sl none [eI n])] hp k:=by
 have hx:xs.length-off+1≤z1c:=by unfold z1c;omega
 have hr:rds hp (.p (.sl none [eI n]))=some (none,[eI n]):=rfl
 have hw:win (xs.map fun n:Nat=>eI n) off (xs.length-off)=(xs.drop off).map fun n:Nat=>eI n:=by
  unfold win
  rw[← List.map_drop]
  exact List.take_of_length_le (by simp)
 unfold nqK z5l appq
 simp only[hr,if_true,hh,List.length_map,List.length_cons,List.length_nil,Nat.zero_add]
 rw[if_pos ⟨trivial,trivial,by omega,hx,Nat.zero_le _⟩,hw]
 refine⟨by simp,fun y hy=>?_⟩
 simp only[List.mem_cons,List.not_mem_nil,or_false] at hy
 rcases hy with rfl | rfl
 ·exact k1
 ·exact k2
theorem zib {α β:Type} [DecidableEq α] {k:α} {v:β}:∀ {l:List (α × β)} {e:α × β},e∈updM k v l→e∈l∨e=(k,v)
 | [],e,h=>by simp [updM] at h;exact .inr h
 | x::r,e,h=>by
  unfold updM at h
  split at h
  ·rcases List.mem_cons.1 h with h | h
   ·exact .inr h
   ·exact .inl (List.mem_cons_of_mem _ h)
  ·rcases List.mem_cons.1 h with h | h
   ·exact .inl (h ▸ List.mem_cons_self)
   ·rcases zib h with h | h
    ·exact .inl (List.mem_cons_of_mem _ h)
    ·exact .inr h
theorem zhR {α β:Type} [DecidableEq α] {k:α} {v:β}:∀ {l:List (α × β)},getM k l=some v→(k,v)∈l
 | [],h=>by cases h
 | x::r,h=>by
  unfold getM at h
  split at h
  ·rename_i he;cases h;subst he;simp
  ·exact List.mem_cons_of_mem _ (zhR h)
theorem zi9 {n:Nat} {w:Ways} (hw:∀ e∈w,e.2.length≤n) (k:Int):((getM k w).getD []).length≤n:=by
 cases hg:getM k w with
 | none=>simp
 | some v=>exact hw _ (zhR hg)
theorem zsR {n at_ t:Nat} {s:Ways × List Nat} (hw:∀ e∈s.1,e.2.length≤n):∀ e∈(zfs at_ t s).1,e.2.length≤n+1:=by
 unfold zfs
 split
 ·intro e he;have:=hw e he;omega
 ·intro e he
  rcases zib he with h | h
  ·have:=hw e h;omega
  ·subst h
   have:=zi9 hw (at_:Int)
   simp [bit1];omega
theorem zb7 {n at_:Nat} {s:Ways × List Nat} (hw:∀ e∈s.1,e.2.length≤n):∀ (t:Nat),∀ e∈(z6M at_ t s).1,e.2.length≤n+t
 | 0=>hw
 | t+1=>zsR (zb7 hw t)
set_option maxHeartbeats 1000000 in
theorem g_path {Y:Ctx} (hY1:Y.fn z9t=some zgL) (hY2:Y.fn z9s=some zcT) (a b:Nat) (ha:a<16) (hb:b<16):z0c Y z9t [AI a,AI b] h K=K (.p (.str (zzb a b))) h []:=by
 refine rule ?_
 rw[z3U hY1 rfl (show z0t h [AI a,AI b]=some ([AI a,AI b],h) from rfl) rfl]
 simp only[e_q06r]
 show ∃ v h' x,_∧zh0 _ _ _ _ _ _ _ _ (finR [.t 4] false _ _)
 simp only[zh0]
 refine⟨_,_,_,⟨rfl,rfl,rfl⟩,?_⟩
 have em:mobj keyP valP [((a:Int),([]:List UInt8))] = .amap [⟨.int .i64 a,.p (.str []),0⟩] 1:=rfl
 have u0:=fun (hp:Heap) (hh:hp[h.length]?=some (mobj keyP valP []))=>updP (b:=(a:Int)) (v:=[]) hh
 have e0:updM (a:Int) [] ([]:Ways)=[((a:Int),[])]:=rfl
 have em0:mobj keyP valP ([]:Ways) = .amap [] 0:=rfl
 rw[e0] at u0
 simp only[em0] at u0
 simp only[go_sem,u0]
 refine z08 (fun t:Nat × Heap × Nat × List Nat × Nat × Option Nat=>⟨[(1,AI b),(5,.mp h.length),(6,.own (h.length+(t.2.2.1+1)) t.2.2.2.1.length t.2.2.2.2.1 (t.2.2.2.1.length-t.2.2.2.2.1))]++(match t.2.2.2.2.2 with | none=>[] | some q=>[(7,AI q),(25,AI 2),(26,AB false)]),h++mobj keyP valP (bfs a t.1).1::t.2.1,[]⟩)
  (fun t=>t.1≤16∧Que t.2.1 t.2.2.1 t.2.2.2.1 t.2.2.2.2.1 (bfs a t.1).2∧t.2.2.2.1.length≤1+2*t.1) (fun t=>16-t.1) (0,[.row none [eI a] 0],0,[a],0,none) (by simp [bfs]) ⟨by simp,⟨rfl,by simp,rfl⟩,by simp⟩ ?_
 rintro⟨k,R,i,xs,off,oq⟩ ⟨h1,hq,h2⟩
 dsimp only at h1 hq h2 ⊢
 have hqg:=hq.get
 have hle:=hq.le
 have heq:=hq.eq
 have hln:xs.length-off=(bfs a k).2.length:=by rw[← heq];simp
 by_cases hk:k<16
 ·obtain⟨hf,hne⟩:=ztw ha hk
  obtain⟨f1,f2,f3,f4⟩:=zuf hf
  have hpos:0<xs.length-off:=by rw[hln];exact List.length_pos_iff.2 hne
  have hoff:off<xs.length:=by omega
  obtain⟨q0,qr,hqe⟩:∃ q0 qr,(bfs a k).2=q0::qr:=by
   cases hb2:(bfs a k).2 with
   | nil=>exact absurd hb2 hne
   | cons x y=>exact⟨x,y,rfl⟩
  have hx0:xs[off]?=some q0:=by
   have:(xs.drop off)[0]?=some q0:=by rw[heq,hqe];rfl
   rwa [List.getElem?_drop,Nat.add_zero] at this
  have hdr:xs.drop (off+1)=qr:=by
   rw[← List.drop_drop,heq,hqe];rfl
  have hq0:q0<16:=f3 q0 (by rw[hqe];simp)
  have hgq:(xs.map fun n:Nat=>eI n)[off]?=some (eI q0):=by rw[List.getElem?_map,hx0];rfl
  have hpi:(0:Int)<((xs.length-off:Nat):Int):=by omega
  have hl1:1≤xs.length-off:=by omega
  have hbn:bfs a (k+1)=z6M q0 2 ((bfs a k).1,qr):=by show popS _=_;unfold popS;rw[hqe]
  have e3:xs.length-off-1=xs.length-(off+1):=by omega
  have hcond:off+(xs.length-off)≤xs.length:=by omega
  have hNL:∀ (e:List (Nat × AV)),z01 (some [1,5,6,7,25]) e=z01 (some [1,5,6,7,25]) e:=fun _=>rfl
  rcases oq with _ | oq
  all_goals
  simp only[List.append_nil,List.cons_append,List.nil_append,go_sem,List.getElem?_cons_succ,hqg,hpi,hpos,hgq,hl1,hcond]
  all_goals
  clear u0 em em0 e0
  generalize hw0:((bfs a k).1,qr)=s0 at *
  have es1:(bfs a k).1=s0.1:=by rw[← hw0]
  have es2:qr=s0.2:=by rw[← hw0]
  rw[es1,e3]
  refine z08 (fun t:Nat × Heap × Nat × List Nat × Nat=>⟨[(1,AI b),(5,.mp h.length),(6,.own (h.length+(t.2.2.1+1)) t.2.2.2.1.length t.2.2.2.2 (t.2.2.2.1.length-t.2.2.2.2)),(7,AI q0),(25,AI t.1)],h++mobj keyP valP (z6M q0 t.1 s0).1::t.2.1,[]⟩)
   (fun t=>t.1≤2∧Que t.2.1 t.2.2.1 t.2.2.2.1 t.2.2.2.2 (z6M q0 t.1 s0).2∧t.2.2.2.1.length≤1+2*k+t.1) (fun t=>2-t.1) (0,R,i,xs,off+1) rfl ⟨by simp,⟨hqg,hoff,by rw[hdr,es2];rfl⟩,by simp;omega⟩ ?_
  rintro⟨j,R',i',ys,of'⟩ ⟨j1,jq,j2⟩
  dsimp only at j1 jq j2 ⊢
  have jg:=jq.get
  have jle:=jq.le
  have jeq:=jq.eq
  by_cases hj:j<2
  ·have hji:(j:Int)<2:=by omega
   have qn:=fun h K=>zph (h:=h) (K:=K) hY2 q0 j hq0 hj
   have hvis:z6M q0 (j+1) s0=zfs q0 j (z6M q0 j s0):=rfl
   generalize hsj:z6M q0 j s0=s at *
   have lq:=fun (hp:Heap) (hh:hp[h.length]?=some (mobj keyP valP s.1))=>lookQ (b:=(nxt q0 j:Int)) hh
   have lp:=fun (hp:Heap) (hh:hp[h.length]?=some (mobj keyP valP s.1))=>lookP (b:=(q0:Int)) hh
   have up:=fun (hp:Heap) (v:List UInt8) (hh:hp[h.length]?=some (mobj keyP valP s.1))=>updP (b:=(nxt q0 j:Int)) (v:=v) hh
   have w1:IntKind.i64.wrap ((j:Int)+1)=((j+1:Nat):Int):=z0l _ (by omega) (by omega)
   cases hs:(getM (nxt q0 j:Int) s.1).isSome with
   | true=>
    have hv:zfs q0 j s=s:=by unfold zfs;rw[if_pos hs]
    rw[hv] at hvis
    simp only[go_sem,hji,↓qn,qn,lq,hs,w1]
    exact⟨(j+1,R',i',ys,of'),by dsimp only;rw[hvis],⟨by dsimp only;omega,by dsimp only;rw[hvis];exact jq,by dsimp only;omega⟩,by dsimp only;omega⟩
   | false=>
    have hv:zfs q0 j s=(updM (nxt q0 j:Int) ((getM (q0:Int) s.1).getD []++bit1 j) s.1,s.2++[nxt q0 j]):=by unfold zfs;rw[hs];rfl
    rw[hv] at hvis
    have w2:IntKind.i64.wrap (48+(j:Int))=((48+j:Nat):Int):=z0l _ (by omega) (by omega)
    have w3:IntKind.i32.wrap ((48+j:Nat):Int)=((48+j:Nat):Int):=by
     have:j=0∨j=1:=by omega
     rcases this with rfl | rfl <;> rfl
    have w4:(0:Int)≤((48+j:Nat):Int)∧((48+j:Nat):Int)<128:=by omega
    have hln2:=zi9 (zb7 (n:=16) (at_:=q0) (s:=s0) (by rw[← es1];exact f4) j) (q0:Int)
    rw[hsj] at hln2
    have w5:((getM (q0:Int) s.1).getD []).length+(bit1 j).length≤zeH:=by have:(bit1 j).length=1:=rfl;unfold zeH;omega
    have w6:[UInt8.ofNat ((48+j:Nat):Int).toNat]=bit1 j:=rfl
    simp only[go_sem,hji,↓qn,qn,lq,hs,lp,up,w1,w2,w3,w4,w5,w6]
    have hh1:(h++mobj keyP valP (updM (nxt q0 j:Int) ((getM (q0:Int) s.1).getD []++bit1 j) s.1)::R')[h.length+(i'+1)]?=some (.row none (ys.map fun n:Nat=>eI n) 0):=by
     rw[List.getElem?_append_right (by omega)];simpa using jg
    have hi':i'<R'.length:=z0f jg
    refine nq_one hh1 jle (by omega) ?_ ?_
    ·refine⟨(j+1,R'.set i' (.row none (ys.map (fun n:Nat=>eI n)++[eI (nxt q0 j)]) 0),i',ys++[nxt q0 j],of'),?_,⟨by dsimp only;omega,⟨?_,?_,?_⟩,?_⟩,by dsimp only;omega⟩
     ·dsimp only
      rw[hvis,List.set_append_right _ _ (by omega)]
      simp only[List.length_append,List.length_cons,List.length_nil,Nat.add_sub_cancel_left,List.set_cons_succ]
      rw[show ys.length+1-of'=ys.length-of'+1 by omega]
     ·dsimp only
      rw[List.getElem?_set_self hi'];simp
     ·simp;omega
     ·dsimp only
      rw[hvis,List.drop_append_of_le_length jle,jeq]
     ·simp;omega
    ·refine⟨(j+1,R'++[.row none ((ys.drop of').map (fun n:Nat=>eI n)++[eI (nxt q0 j)]) 0],R'.length,ys.drop of'++[nxt q0 j],0),?_,⟨by dsimp only;omega,⟨?_,?_,?_⟩,?_⟩,by dsimp only;omega⟩
     ·dsimp only
      rw[hvis]
      simp
     ·simp
     ·simp
     ·dsimp only
      rw[hvis,jeq,List.drop_zero]
     ·simp;omega
  ·have hj2:j=2:=by omega
   subst hj2
   simp only[go_sem]
   refine⟨(k+1,R',i',ys,of',some q0),?_,⟨by dsimp only;omega,by dsimp only;rw[hbn];exact jq,by dsimp only;omega⟩,by dsimp only;omega⟩
   dsimp only
   rw[hbn]
 ·have hk16:k=16:=by omega
  subst hk16
  obtain⟨_,hne⟩:=zxA ha
  have hz:xs.length-off=0:=by rw[hln,hne];rfl
  have lk:=fun (hp:Heap) (hh:hp[h.length]?=some (mobj keyP valP (bfs a 16).1))=>lookP (b:=(b:Int)) hh
  have hpv:(getM (b:Int) (bfs a 16).1).getD []=zzb a b:=rfl
  rcases oq with _ | oq <;> simp only[List.append_nil,List.cons_append,List.nil_append,go_sem,hz,lk,hpv]
end Go.Am
end
