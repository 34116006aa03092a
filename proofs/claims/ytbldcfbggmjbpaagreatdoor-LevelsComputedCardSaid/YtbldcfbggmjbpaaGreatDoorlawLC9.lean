/- Texts of the proof, laid together: SpGenE2, SpGenE3, SpGenE4, SpGenE5, SpGenE6, SpGenE7, SpGenE8, SpGenE9, SpGenE10, SpGenE11, SpBrd7, SpEsc, SpBrd8, SpBrd9, SpBrd10, SpBrd11, SpBrd12, SpGenB, SpFlt3, SpFlt4, SpFlt5, SpArg, SpFlt6, SpSortO, SpGenF, SpBrd17, SpBrd13, SpDelR, SpDelT. -/
import Derived.Test.YtbldcfbggmjbpaaGreatDoorlawLC8
set_option linter.all false
section
/- What is drawn: the parts of a board. -/
open Go
set_option linter.all false
set_option maxRecDepth 100000
namespace Go.Am
variable {h:bA} {K:nA} {L:List Int}
attribute [-go_sem] ZA kB wB uB
def MB:List (Nat × Prt)→List AV
 | []=>[]
 | e::r=>AS e.2.key :: .own e.1 e.2.cells.length 0 e.2.cells.length::MB r
theorem z2A:∀ (M N:List (Nat × Prt)),MB (M++N)=MB M++MB N
 | [],_=>rfl
 | e::r,N=>by show _::_::MB (r++N)=_;rw[z2A r N];rfl
theorem rJ:∀ M:List (Nat×Prt),(MB M).length=M.length*2
 | []=>rfl
 | e::r=>by show(MB r).length+1+1=_;rw[rJ r,List.length_cons];omega
def BH (B:Nat)(cs:List AV)(g:Nat)(jr pr:Obj)(J P:AV)(R:bA):bA:=
 .arow (some 2) [] :: .row (some 3) [] 0 :: .row (some 2) [] 0 :: .box [.bt 3 3 B 0,.own (B+1) 0 0 0,.own (B+2) 0 0 0] :: .arow (some 2) cs::jr::pr :: .box [.bt 3 3 (B+4) g,J,P]::R
section
variable {B g:Nat} {cs:List AV} {jr pr:Obj} {J P:AV} {R:bA}
theorem lJ {t:bA}:BH B cs g jr pr J P R++t=BH B cs g jr pr J P (R++t):=rfl
theorem kF:(BH B cs g jr pr J P R).length=R.length+8:=rfl
theorem bh_4:(BH B cs g jr pr J P R)[4]?=some (.arow (some 2) cs):=rfl
theorem bh_5:(BH B cs g jr pr J P R)[5]?=some jr:=rfl
theorem bh_6:(BH B cs g jr pr J P R)[6]?=some pr:=rfl
theorem JD:(BH B cs g jr pr J P R)[7]?=some (.box [.bt 3 3 (B+4) g,J,P]):=rfl
theorem bh_R {n:Nat}:(BH B cs g jr pr J P R)[n+8]?=R[n]?:=rfl
theorem z2k {cs2:List AV}:(BH B cs g jr pr J P R).set 4 (.arow (some 2) cs2)=BH B cs2 g jr pr J P R:=rfl
theorem JU {o:Obj}:(BH B cs g jr pr J P R).set 5 o=BH B cs g o pr J P R:=rfl
theorem z2l {o:Obj}:(BH B cs g jr pr J P R).set 6 o=BH B cs g jr o J P R:=rfl
theorem KU {g2:Nat}{J2 P2:AV}:(BH B cs g jr pr J P R).set 7 (.box [.bt 3 3 (B+4) g2,J2,P2])=BH B cs g2 jr pr J2 P2 R:=rfl
theorem kD {n:Nat}:(BH B cs g jr pr J P R).take (n+8)=BH B cs g jr pr J P (R.take n):=rfl
end
structure MI (lo:Nat) (R:bA) (M:List (Nat × Prt)):Prop where
 rw:∀e∈M,∃n,e.1=lo+n∧R[n]?=some (.row (some 4) (e.2.cells.map Cel.pv) 0)
 nd:(M.map fun e=>e.1).Nodup
theorem MI.app {lo:Nat}{R T:bA}{M:List (Nat × Prt)}(C:MI lo R M):MI lo (R++T) M:=by
 refine⟨fun e he=>?_,C.nd⟩
 obtain⟨n,h1,h2⟩:=C.rw e he;exact⟨n,h1,by rw[List.getElem?_append_left (JB h2)];exact h2⟩
theorem MI.new {lo:Nat}{R:bA}{M:List (Nat × Prt)}{o:Obj}{p:Prt}(C:MI lo R M):MI lo (R++[o,.row (some 4) (p.cells.map Cel.pv) 0]) (M++[(lo+(R.length+1),p)]):=by
 refine⟨fun e he=>?_,?_⟩
 ·rcases List.mem_append.1 he with q|q
  ·exact(C.app (T:=_)).rw e q
  ·rw[List.mem_singleton]at q
   subst q;exact⟨R.length+1,rfl,by rw[List.getElem?_append_right (by omega)];simp⟩
 ·rw[List.map_append,List.nodup_append]
  refine⟨C.nd,by simp,fun a ha b hb=>?_⟩
  obtain⟨e,he,rfl⟩:=List.mem_map.1 ha;obtain⟨n,h1,h2⟩:=C.rw e he;have:=JB h2;simp at hb;omega
def fG:List Nm2:=[[117],[118],[119]]
structure PartsD (M:List (Nat × Prt)) (k:Nat):Prop where
 k:(M.map fun e=>e.2.key).Sublist (fG.take k)
 c:∀e∈M,e.2.cells.length≤7∧∀c∈e.2.cells,rC c
theorem PartsD.len {M:List (Nat × Prt)}{k:Nat}(D:PartsD M k):M.length≤k:=by
 have:=D.k.length_le;rw[List.length_map,List.length_take]at this;omega
abbrev tX:AV:=.p (.sl none [.str [117],.str [118],.str [119]])
set_option maxHeartbeats 1000000 in
theorem zn0 {K:Ex→St→Prop}{id:Nat}(hid:id<h.length){a0:Int}(hp:uA 10000 a0){J P:AV}{jr pr:Obj}
 (fin:∀(M:List (Nat×Prt)) (R:bA) (X:Esc) (a:Int) (z:Nat×AV),MI (h.length+8) R M→PartsD M 3→(∀y∈X,y.1=h.length+4)→a0≤a→a≤a0+120→K (.exit 0) ⟨[(0,.ref id 0),(2,.ref (h.length+3) 0),(3,.ref (h.length+7) 0),(16,tX),(17,AI 3),(18,AI 3),z],h.set id (EA L a)++BH h.length (MB M) M.length jr pr J P R,X⟩) :
 GA (kA X) X.gl (.scope TI) K [(0,.ref id 0),(2,.ref (h.length+3) 0),(3,.ref (h.length+7) 0),(16,tX),(17,AI 3),(18,AI 0)] (h.set id (EA L a0)++BH h.length [] 0 jr pr J P []) []:=by
 refine VA (fun t:Nat×List (Nat×Prt)×bA×Esc×Int=>⟨[(0,.ref id 0),(2,.ref (h.length+3) 0),(3,.ref (h.length+7) 0),(16,tX),(17,AI 3),(18,AI t.1)],h.set id (EA L t.2.2.2.2)++BH h.length (MB t.2.1) t.2.1.length jr pr J P t.2.2.1,t.2.2.2.1⟩)
  (fun t=>t.1≤3∧MI (h.length+8) t.2.2.1 t.2.1∧PartsD t.2.1 t.1∧(∀y∈t.2.2.2.1,y.1=h.length+4)∧a0≤t.2.2.2.2∧t.2.2.2.2≤a0+40*t.1) (fun t=>3-t.1) (0,[],[],[],a0) rfl ⟨by omega,⟨fun e he=>(by cases he),List.nodup_nil⟩,⟨List.nil_sublist _,fun e he=>(by cases he)⟩,fun y hy=>(by cases hy),by dsimp only;omega,by dsimp only;omega⟩ ?_
 rintro⟨k,M,R,E,a⟩ ⟨hk,hM,hD,hE,ha1,ha2⟩
 dsimp only at hk hM hD hE ha1 ha2 ⊢;have i1:id≤h.length:=by omega
 have bl:=fun(cs:List AV) (g:Nat)=>kF (B:=h.length) (cs:=cs) (g:=g) (jr:=jr) (pr:=pr) (J:=J) (P:=P) (R:=R)
 rcases Nat.lt_or_ge k 3 with hlt|hge
 ·have w2:IntKind.i64.wrap ((k:Int)+1)=((k+1:Nat):Int):=CA _ (by omega) (by omega)
  have p0:uA 0 a:=by unfold uA at *;omega
  have gk:[PV.str [117],PV.str [118],PV.str [119]][k]?=some (PV.str (fG.getD k [])):=by
   have:k=0∨k=1∨k=2:=by omega
   rcases this with e|e|e <;> subst e <;> rfl
  have tk:fG.take (k+1)=fG.take k++[fG.getD k []]:=by
   have:k=0∨k=1∨k=2:=by omega
   rcases this with e|e|e <;> subst e <;> rfl
  generalize fG.getD k []=ky at gk tk;obtain⟨l,m,a2,m7,l7,mD,g1,g2,GC⟩:=zjO (L:=L) (a:=a+1) (h:=h++BH h.length (MB M) M.length jr pr J P R) (id:=id) (by unfold uA at *;omega) (by simp;omega)
  rw[OS hid,OS hid]at GC;rw[List.length_append,bl]at GC;have k3:((k:Int)<3)=True:=eq_true (by omega)
  have c0:(id+1≤h.length+(R.length+8))=True:=eq_true (by omega)
  have c2:(h.length+3+1≤h.length+(R.length+8))=True:=eq_true (by omega)
  have c3:(h.length+7+1≤h.length+(R.length+8))=True:=eq_true (by omega)
  have tR:R.take R.length=R:=List.take_length
  by_cases f:FA L a 6=0
  ·have f':=eq_true f
   simp only[go_sem,hlt,k3,w2,gk,hid,p0,f',bl,c0,c2,c3,kD,tR];refine⟨(k+1,M,R,E,a+1),rfl,⟨hlt,hM,⟨?_,hD.c⟩,hE,by dsimp only;omega,by dsimp only;omega⟩,by dsimp only;omega⟩
   dsimp only;rw[tk];exact hD.k.trans (List.sublist_append_left ..)
  ·have gA:∀(cs:List AV) (g:Nat) (o1 o2 o3:Obj),(BH h.length cs g jr pr J P (R++[o1,o2,o3]))[R.length+8+2]?=some o3:=fun cs g o1 o2 o3=>by
    rw[show R.length+8+2=(R.length+2)+8 by omega,bh_R,IU];rfl
   have bl2:∀(cs:List AV) (g:Nat) (o1 o2:Obj),(BH h.length cs g jr pr J P (R++[o1,o2])).length=R.length+8+2:=fun cs g o1 o2=>by rw[kF];simp
   have lM:=rJ M
   have gM:M.length+1≤WA:=by have:=hD.len;unfold WA;omega
   simp only[go_sem,hlt,k3,w2,gk,hid,p0,f,↓GC,GC,bl,JD,bh_4,lJ,bl2,gA,z2k,KU,lM,gM];have eS:WB (h.length+7) (AV.bt 3 3 (h.length+4) (M.length+1))=[]:=if_neg (by simp [AV.top])
   have eD:decide (h.length+4<h.length+(R.length+8)+1+1)=true:=decide_eq_true (by omega)
   rw[eS,eD,List.nil_append,cond_true,zpC (by omega),show max (h.length+(R.length+8)) (h.length+(R.length+8)+1+1)=h.length+((R.length+2)+8) by omega,z8A,kD]
   rw[show(R++[Obj.row (some 4) (List.map Cel.pv l) 0,Obj.row (some 4) (List.map Cel.pv m) 0,Obj.arow (some 2) [AV.p (PV.str ky),AV.own (h.length+(R.length+8)+1) m.length 0 m.length]]).take (R.length+2)=R++[Obj.row (some 4) (List.map Cel.pv l) 0,Obj.row (some 4) (List.map Cel.pv m) 0] from by rw[List.take_length_add_append];rfl]
   have cM:MB M++[AV.p (PV.str ky),AV.own (h.length+(R.length+8)+1) m.length 0 m.length]=MB (M++[(h.length+8+(R.length+1),⟨ky,m⟩)]):=by
    rw[z2A,show h.length+8+(R.length+1)=h.length+(R.length+8)+1 by omega];rfl
   rw[cM];have c0':id+1≤h.length+(R.length+2+8):=by omega
   have c2':h.length+3+1≤h.length+(R.length+2+8):=by omega
   have c3':h.length+7+1≤h.length+(R.length+2+8):=by omega
   simp only[z2Q,z2R,z8N,z8M,c0',c2',c3',if_true,Nat.zero_le];refine⟨(k+1,M++[(h.length+8+(R.length+1),⟨ky,m⟩)],R++[Obj.row (some 4) (List.map Cel.pv l) 0,Obj.row (some 4) (List.map Cel.pv m) 0],(h.length+4,h.length+(R.length+8)+1+1)::E,a2),?_,⟨hlt,hM.new (p:=⟨ky,m⟩),⟨?_,fun e he=>?_⟩,fun y hy=>?_,by dsimp only;omega,by dsimp only;omega⟩,by dsimp only;omega⟩
   ·dsimp only
    rw[List.length_append];rfl
   ·dsimp only
    rw[tk,List.map_append];exact hD.k.append (List.Sublist.refl _)
   ·rcases List.mem_append.1 he with q|q
    ·exact hD.c e q
    ·rw[List.mem_singleton]at q;subst q;exact⟨m7,mD⟩
   ·rcases List.mem_cons.1 hy with q|q
    ·subst q;rfl
    ·exact hE y q
 ·have e:k=3:=by omega
  subst e;have c0:(id+1≤h.length+(R.length+8))=True:=eq_true (by omega)
  have c2:(h.length+3+1≤h.length+(R.length+8))=True:=eq_true (by omega)
  have c3:(h.length+7+1≤h.length+(R.length+8))=True:=eq_true (by omega)
  have tR:R.take R.length=R:=List.take_length
  simp only[go_sem,Nat.lt_irrefl,i1,bl,c0,c2,c3,kD,tR];exact fin M R E a _ hM hD hE ha1 (by omega)
end Go.Am
end
section
/- What is drawn: the pins of a board's parts. -/
open Go
set_option linter.all false
set_option maxRecDepth 100000
namespace Go.Am
variable {K:nA} {L:List Int}
attribute [-go_sem] ZA kB wB uB
def oC (key:Nm2)(P:List (Nm2 × Nm2))(c:Cel):List (Nm2×Nm2):=if c.pin=[] then P else if(key,c.pin)∈P then P else P++[(key,c.pin)]
theorem zcs (key:Nm2)(P:List (Nm2 × Nm2))(c:Cel):(oC key P c).length≤P.length+1:=by
 unfold oC;split
 ·omega
 ·split
  ·omega
  ·simp
theorem GU (key:Nm2):∀(l:List Cel) (P:List (Nm2×Nm2)),(l.foldl (oC key) P).length≤P.length+l.length
 | [],P=>by simp
 | c::r,P=>by
  have:=GU key r (oC key P c);have:=zcs key P c;rw[List.foldl_cons,List.length_cons];omega
set_option maxHeartbeats 1000000 in
theorem zn1 {K:Ex→St→Prop}{G:bA}{v0 v2 v3 v36:AV}(t0:v0.top≤G.length)(t2:v2.top≤G.length)(t3:v3.top≤G.length)(t36:v36.top≤G.length){i g rid:Nat}{key:Nm2}{l:List Cel}{P:List (Nm2 × Nm2)}(hl:l.length≤1000)(hP:P.length≤10000)
 (hr:G[rid]?=some (.row (some 4) (l.map Cel.pv) 0))
 (fin:∀z,K (.exit 4) ⟨[(0,v0),(2,v2),(3,v3),(6,.own G.length (l.foldl (oC key) P).length 0 (l.foldl (oC key) P).length),(8,.ref (G.length+1) 0),(36,v36),(37,AI g),(38,AI i),(43,.own rid l.length 0 l.length),(44,AI l.length),(45,AI l.length),z],G++[.row (some 2) ((l.foldl (oC key) P).map prV) 0,.box [AS key,.own rid l.length 0 l.length]],[]⟩) :
 GA (kA X) X.gl (.scope kL) K [(0,v0),(2,v2),(3,v3),(6,.own G.length P.length 0 P.length),(8,.ref (G.length+1) 0),(36,v36),(37,AI g),(38,AI i),(43,.own rid l.length 0 l.length),(44,AI l.length),(45,AI 0)] (G++[.row (some 2) (P.map prV) 0,.box [AS key,.own rid l.length 0 l.length]]) []:=by
 refine VA (fun k:Nat=>⟨[(0,v0),(2,v2),(3,v3),(6,.own G.length ((l.take k).foldl (oC key) P).length 0 ((l.take k).foldl (oC key) P).length),(8,.ref (G.length+1) 0),(36,v36),(37,AI g),(38,AI i),(43,.own rid l.length 0 l.length),(44,AI l.length),(45,AI k)],G++[.row (some 2) (((l.take k).foldl (oC key) P).map prV) 0,.box [AS key,.own rid l.length 0 l.length]],[]⟩) (fun k=>k≤l.length) (fun k=>l.length-k) 0 rfl (by omega) ?_
 intro k hk;have rl:=JB hr
 have hr2:∀t,(G++t)[rid]?=some (.row (some 4) (l.map Cel.pv) 0):=fun t=>by rw[List.getElem?_append_left rl];exact hr
 have el:(l.map Cel.pv).length=l.length:=List.length_map ..
 have e0:(v0.top≤G.length+2)=True:=eq_true (by omega)
 have e2:(v2.top≤G.length+2)=True:=eq_true (by omega)
 have e3:(v3.top≤G.length+2)=True:=eq_true (by omega)
 have e36:(v36.top≤G.length+2)=True:=eq_true (by omega)
 have er:(rid+1≤G.length+2)=True:=eq_true (by omega)
 have er2:(rid≤G.length+1)=True:=eq_true (by omega)
 rcases Nat.lt_or_ge k l.length with hlt|hge
 ·have gg:=XA Cel.pv hlt
  have c1:LA (some 4) 0 l[k].pv=some l[k].pv:=rfl
  have w2:IntKind.i64.wrap ((k:Int)+1)=((k+1:Nat):Int):=CA _ (by omega) (by omega)
  have tk:(l.take (k+1)).foldl (oC key) P=oC key ((l.take k).foldl (oC key) P) l[k]:=by rw[List.take_succ_eq_append_getElem hlt,List.foldl_append];rfl
  have lQ:=GU key (l.take k) P
  rw[List.length_take]at lQ;generalize l[k]=c at *;generalize (l.take k).foldl (oC key) P=Q at *;have eQ:(Q.map prV).length=Q.length:=List.length_map ..
  have km:Q.length+1≤WA:=by unfold WA;omega
  have CP:=fun(bs:bA) K=>znI (h:=G++([.row (some 2) (Q.map prV) 0,.box [AS key,.own rid l.length 0 l.length]]++bs)) (K:=K) (v:=.own G.length Q.length 0 Q.length) Q (key,c.pin) (fun t=>by
   have:=zoI (sh:=some 2) (id:=G.length) (fz:=0) (xs:=Q.map prV) (h:=(G++([.row (some 2) (Q.map prV) 0,.box [AS key,.own rid l.length 0 l.length]]++bs))++t) zmS (by rw[List.append_assoc,List.getElem?_append_right (by omega)];simp)
   rw[eQ]at this;exact this) (by omega)
  simp only[prV,List.cons_append,List.nil_append]at CP;simp only[Cel.pv,eI]at gg c1;by_cases hp:c.pin=[]
  ·have he:decide (c.pin=[])=true:=decide_eq_true hp
   have ea:oC key Q c=Q:=by unfold oC;rw[if_pos hp]
   simp only[go_sem,hlt,gg,c1,w2,el,he,hr2,e0,e2,e3,e36,er,er2];refine⟨k+1,?_,hlt,by omega⟩
   rw[tk,ea]
  ·have he:decide (c.pin=[])=false:=decide_eq_false hp
   by_cases hm:(key,c.pin)∈Q
   ·have hd:decide ((key,c.pin)∈Q)=true:=decide_eq_true hm
    have ea:oC key Q c=Q:=by unfold oC;rw[if_neg hp,if_pos hm]
    simp only[hd]at CP;simp only[go_sem,hlt,gg,c1,w2,el,he,hr2,↓CP,CP,e0,e2,e3,e36,er,er2];refine⟨k+1,?_,hlt,by omega⟩
    rw[tk,ea]
   ·have hd:decide ((key,c.pin)∈Q)=false:=decide_eq_false hm
    have ea:oC key Q c=Q++[(key,c.pin)]:=by unfold oC;rw[if_neg hp,if_neg hm]
    simp only[hd]at CP;simp only[go_sem,hlt,gg,c1,w2,el,he,hr2,↓CP,CP,e0,e2,e3,e36,er,er2,eQ,km];refine⟨k+1,?_,hlt,by omega⟩
    rw[tk,ea,List.length_append,List.map_append];rfl
 ·have e:k=l.length:=by omega
  subst e;rw[List.take_length];simp only[go_sem,Nat.lt_irrefl,e0,e2,e3,e36,er,er2];exact fin _
def oE (M:List (Nat × Prt)):List (Nm2×Nm2):=M.foldl (fun Q e=>e.2.cells.foldl (oC e.2.key) Q) []
theorem z7J {M:List (Nat × Prt)}{i:Nat}(hi:i<M.length):oE (M.take (i+1))=M[i].2.cells.foldl (oC M[i].2.key) (oE (M.take i)):=by
 unfold oE;rw[List.take_succ_eq_append_getElem hi,List.foldl_append];rfl
theorem z7I {M:List (Nat × Prt)}(hc:∀ e∈M,e.2.cells.length≤7):∀i,i≤M.length→(oE (M.take i)).length≤7*i
 | 0,_=>by simp [oE]
 | i+1,hi=>by
  have ih:=z7I hc i (by omega)
  have h1:=hc _ (List.getElem_mem (show i<M.length by omega))
  have h2:=GU M[i].2.key M[i].2.cells (oE (M.take i))
  rw[z7J (by omega)];omega
theorem z2B:∀ (M:List (Nat × Prt))(i:Nat),(MB M).drop (i*2)=MB (M.drop i)
 | M,0=>by simp
 | [],i+1=>by simp [MB]
 | e::r,i+1=>by
  rw[show(i+1)*2=(i*2)+1+1 by omega]
  show List.drop (i*2) (MB r)=_
  rw[z2B r i,List.drop_succ_cons]
theorem zeE {M:List (Nat × Prt)}{i:Nat}(hi:i<M.length):((MB M).drop (i*2)).take 2=[AS M[i].2.key,.own M[i].1 M[i].2.cells.length 0 M[i].2.cells.length]:=by
 rw[z2B,List.drop_eq_getElem_cons hi];rfl
attribute [-go_sem] z5v aQ
set_option maxHeartbeats 1000000 in
theorem zn2 {K:Ex→St→Prop}{G:bA}{v0 v2 v3:AV}(t0:v0.top≤G.length)(t2:v2.top≤G.length)(t3:v3.top≤G.length){E:Esc}{B:Nat}{M:List (Nat × Prt)}(hM:M.length≤3)(hc:∀ e∈M,e.2.cells.length≤7)
 (hb:G[B]?=some (.arow (some 2) (MB M))) (hr:∀e∈M,G[e.1]?=some (.row (some 4) (e.2.cells.map Cel.pv) 0))
 (fin:∀z,K (.exit 2) ⟨[(0,v0),(2,v2),(3,v3),(6,.own G.length (oE M).length 0 (oE M).length),(36,.bt 3 3 B M.length),(37,AI M.length),(38,AI M.length),z],G++[.row (some 2) ((oE M).map prV) 0],E⟩) :
 GA (kA X) X.gl (.scope lL) K [(0,v0),(2,v2),(3,v3),(6,.own G.length 0 0 0),(36,.bt 3 3 B M.length),(37,AI M.length),(38,AI 0)] (G++[.row (some 2) [] 0]) E:=by
 refine VA (fun k:Nat=>⟨[(0,v0),(2,v2),(3,v3),(6,.own G.length (oE (M.take k)).length 0 (oE (M.take k)).length),(36,.bt 3 3 B M.length),(37,AI M.length),(38,AI k)],G++[.row (some 2) ((oE (M.take k)).map prV) 0],E⟩) (fun k=>k≤M.length) (fun k=>M.length-k) 0 rfl (by omega) ?_
 intro k hk;have bl:=JB hb
 have hb2:∀t,(G++t)[B]?=some (.arow (some 2) (MB M)):=fun t=>by rw[List.getElem?_append_left bl];exact hb
 have cl:=rJ M
 have e0:(v0.top≤G.length+1)=True:=eq_true (by omega)
 have e2:(v2.top≤G.length+1)=True:=eq_true (by omega)
 have e3:(v3.top≤G.length+1)=True:=eq_true (by omega)
 have eB:(B≤G.length)=True:=eq_true (by omega)
 have eB2:(B+1≤G.length+1)=True:=eq_true (by omega)
 have tB:AV.top (.bt 3 3 B M.length)=B+1:=rfl
 rcases Nat.lt_or_ge k M.length with hlt|hge
 ·have gg:=zeE hlt
  have g2:(k*2+2≤M.length*2)=True:=eq_true (by omega)
  have w2:IntKind.i64.wrap ((k:Int)+1)=((k+1:Nat):Int):=CA _ (by omega) (by omega)
  have tk:=z7J hlt
  have lQ:=z7I hc k (by omega)
  have l7:=hc _ (List.getElem_mem hlt)
  have re:=hr _ (List.getElem_mem hlt)
  generalize M[k]=e at *;generalize oE (M.take k)=Q at *;obtain⟨rid,key,l⟩:=e;dsimp only at *;have rl:=JB re
  have er:(rid≤G.length)=True:=eq_true (by omega)
  have eE:WB (G.length+1) (AV.agg [AS key,.own rid l.length 0 l.length])=[]:=if_neg (by simp [AV.top,AV.tops];omega)
  simp only[go_sem,hlt,gg,g2,w2,hb2,cl,e0,e2,e3,eB,eB2,tB,er,eE];refine zn1 (K:=wA 4 _) (P:=Q) t0 t2 t3 (by rw[tB];omega) (by omega) (by omega) re fun z=>?_
  simp only[go_sem,w2,e0,e2,e3,eB,eB2,tB,er];refine⟨k+1,?_,hlt,by omega⟩
  rw[tk]
 ·have e:k=M.length:=by omega
  subst e;rw[List.take_length];simp only[go_sem,Nat.lt_irrefl,e0,e2,e3,eB,eB2,tB];exact fin _
end Go.Am
end
section
/- What is drawn: the joins of a board. -/
open Go
set_option linter.all false
set_option maxRecDepth 100000
namespace Go.Am
variable {h:bA} {K:nA} {L:List Int}
attribute [-go_sem] ZA kB wB uB
def LK:List Nm2:=[[110,49],[110,49],[110,50],[110,51]]
def FO (l:List Jon):Prop:=∀j∈l,j.net∈LK
set_option maxHeartbeats 1000000 in
theorem zn3 {K:Ex→St→Prop}{E:Esc}{id:Nat}(hid:id<h.length){a0:Int}(hp:uA 1000 a0){v2 P:AV}{pr:Obj}{cs:List AV}{g n:Nat}{R:bA}{Q:List (Nm2 × Nm2)}(t2:v2.top≤h.length+8)(hQ:Q.length≤100)(hR:R[n]?=some (.row (some 2) (Q.map prV) 0))
 (fin:∀(l:List Jon) (a:Int) (z:Nat×AV),l.length≤Q.length→FO l→a0≤a→a≤a0+2*Q.length→K (.exit 6) ⟨[(0,.ref id 0),(2,v2),(3,.ref (h.length+7) 0),(69,.own (h.length+(n+8)) Q.length 0 Q.length),(70,AI Q.length),(71,AI Q.length),z],h.set id (EA L a)++BH h.length cs g (.row (some 3) (l.map Jon.pv) 0) pr (.own (h.length+5) l.length 0 l.length) P R,E⟩) :
 GA (kA X) X.gl (.scope mL) K [(0,.ref id 0),(2,v2),(3,.ref (h.length+7) 0),(69,.own (h.length+(n+8)) Q.length 0 Q.length),(70,AI Q.length),(71,AI 0)] (h.set id (EA L a0)++BH h.length cs g (.row (some 3) [] 0) pr (.own (h.length+5) 0 0 0) P R) E:=by
 refine VA (fun t:Nat×List Jon×Int=>⟨[(0,.ref id 0),(2,v2),(3,.ref (h.length+7) 0),(69,.own (h.length+(n+8)) Q.length 0 Q.length),(70,AI Q.length),(71,AI t.1)],h.set id (EA L t.2.2)++BH h.length cs g (.row (some 3) (t.2.1.map Jon.pv) 0) pr (.own (h.length+5) t.2.1.length 0 t.2.1.length) P R,E⟩)
  (fun t=>t.1≤Q.length∧t.2.1.length≤t.1∧FO t.2.1∧a0≤t.2.2∧t.2.2≤a0+2*t.1) (fun t=>Q.length-t.1) (0,[],a0) rfl ⟨by omega,Nat.le_refl _,fun e he=>(by cases he),by dsimp only;omega,by dsimp only;omega⟩ ?_
 rintro⟨k,l,a⟩ ⟨hk,hl,hD,ha1,ha2⟩
 dsimp only at hk hl hD ha1 ha2 ⊢;have nl:=JB hR
 have eQ:(Q.map prV).length=Q.length:=List.length_map ..
 have bl:=fun(jr:Obj) (J:AV)=>kF (B:=h.length) (cs:=cs) (g:=g) (jr:=jr) (pr:=pr) (J:=J) (P:=P) (R:=R)
 have c0:(id+1≤h.length+(R.length+8))=True:=eq_true (by omega)
 have c2:(v2.top≤h.length+(R.length+8))=True:=eq_true (by omega)
 have c3:(h.length+7+1≤h.length+(R.length+8))=True:=eq_true (by omega)
 have c4:(h.length+(n+8)+1≤h.length+(R.length+8))=True:=eq_true (by omega)
 have tR:R.take R.length=R:=List.take_length
 rcases Nat.lt_or_ge k Q.length with hlt|hge
 ·have gg:=XA prV hlt
  have c1:LA (some 2) 0 (prV Q[k])=some (prV Q[k]):=rfl
  have w2:IntKind.i64.wrap ((k:Int)+1)=((k+1:Nat):Int):=CA _ (by omega) (by omega)
  have p0:uA 0 a:=by unfold uA at *;omega
  have p1:uA 0 (a+1):=by unfold uA at *;omega
  generalize Q[k]=q at gg c1;obtain⟨q1,q2⟩:=q;simp only[prV]at gg c1;have hR1:∀(jr:Obj) (J:AV),(BH h.length cs g jr pr J P R)[n+8]?=some (.row (some 2) (Q.map prV) 0):=fun jr J=>hR
  have gX:∀(jr:Obj) (J:AV) (o:Obj),(BH h.length cs g jr pr J P (R++[o]))[R.length+8]?=some o:=fun jr J o=>by rw[bh_R,z2b];rfl
  have sX:∀(jr:Obj) (J:AV) (o o2:Obj),(BH h.length cs g jr pr J P (R++[o])).set (R.length+8) o2=BH h.length cs g jr pr J P (R++[o2]):=fun jr J o o2=>by
   show BH h.length cs g jr pr J P ((R++[o]).set R.length o2)=_
   rw[z2d];rfl
  have S:=fun l K=>nG (L:=L) (h:=h) (l:=l) (K:=K) hid p1 (xs:=[.str [110,49],.str [110,49],.str [110,50],.str [110,51]]) rfl (by simp) (by simp)
  simp only[List.map_cons,List.map_nil,unS]at S;have pm:=aM (l:=LK) (L:=L) (a:=a+1) (by simp [LK]) (by simp [LK])
  unfold LK at pm;generalize nC [[110,49],[110,49],[110,50],[110,51]] L (a+1)=nt at *;have ej:(l.map Jon.pv).length=l.length:=List.length_map ..
  have km:l.length+1≤WA:=by unfold WA;omega
  by_cases f:FA L a 5=0
  ·have f':=eq_true f
   simp only[go_sem,hlt,w2,gg,c1,hR1,eQ,hid,p0,f',bl,lJ,gX,sX,c0,c2,c3,c4,kD,tR];exact⟨(k+1,l,a+1),rfl,⟨hlt,by dsimp only;omega,hD,by dsimp only;omega,by dsimp only;omega⟩,by dsimp only;omega⟩
  ·have eE:WB (h.length+7) (AV.own (h.length+5) (l.length+1) 0 (l.length+1))=[]:=if_neg (by simp [AV.top])
   have tR2:∀o,(R++[o]).take R.length=R:=fun o=>List.take_left
   simp only[go_sem,hlt,w2,gg,c1,hR1,eQ,hid,p0,f,bl,lJ,gX,sX,↓S,S,JD,bh_5,JU,KU,ej,km,c0,c2,c3,c4,kD,tR,tR2,eE];refine⟨(k+1,l++[⟨nt,q1,q2⟩],a+1+1),?_,⟨hlt,by dsimp only;rw[List.length_append,List.length_singleton];omega,?_,by dsimp only;omega,by dsimp only;omega⟩,by dsimp only;omega⟩
   ·dsimp only
    rw[List.length_append,List.map_append];rfl
   ·intro j hj
    rcases List.mem_append.1 hj with z|z
    ·exact hD j z
    ·rw[List.mem_singleton]at z;subst z;exact pm
 ·have e:k=Q.length:=by omega
  subst e;simp only[go_sem,Nat.lt_irrefl,bl,c0,c2,c3,c4,kD,tR];exact fin l a _ hl hD ha1 ha2
end Go.Am
end
section
/- What is drawn: the pulls of a board. -/
open Go
set_option linter.all false
set_option maxRecDepth 100000
namespace Go.Am
variable {h:bA} {K:nA} {L:List Int}
attribute [-go_sem] ZA kB wB uB
set_option maxHeartbeats 1000000 in
theorem znv {K:Ex→St→Prop}{E:Esc}{id:Nat}(hid:id<h.length){a0:Int}(hp:uA 1000 a0){v2 J:AV}{jr:Obj}{cs:List AV}{g n:Nat}{R:bA}{xs:List PV}{N:List Nm2}(t2:v2.top≤h.length+8)(hQ:N.length≤100)(hN:N.length≤xs.length)(hw:win xs 0 N.length=N.map PV.str)(hR:R[n]?=some (.row none xs 0))
 (fin:∀(l:List Pul) (a:Int) (z:Nat×AV),l.length≤N.length→a0≤a→a≤a0+2*N.length→K (.exit 8) ⟨[(0,.ref id 0),(2,v2),(3,.ref (h.length+7) 0),(96,.own (h.length+(n+8)) xs.length 0 N.length),(97,AI N.length),(98,AI N.length),z],h.set id (EA L a)++BH h.length cs g jr (.row (some 2) (l.map Pul.pv) 0) J (.own (h.length+6) l.length 0 l.length) R,E⟩) :
 GA (kA X) X.gl (.scope jL) K [(0,.ref id 0),(2,v2),(3,.ref (h.length+7) 0),(96,.own (h.length+(n+8)) xs.length 0 N.length),(97,AI N.length),(98,AI 0)] (h.set id (EA L a0)++BH h.length cs g jr (.row (some 2) [] 0) J (.own (h.length+6) 0 0 0) R) E:=by
 refine VA (fun t:Nat×List Pul×Int=>⟨[(0,.ref id 0),(2,v2),(3,.ref (h.length+7) 0),(96,.own (h.length+(n+8)) xs.length 0 N.length),(97,AI N.length),(98,AI t.1)],h.set id (EA L t.2.2)++BH h.length cs g jr (.row (some 2) (t.2.1.map Pul.pv) 0) J (.own (h.length+6) t.2.1.length 0 t.2.1.length) R,E⟩)
  (fun t=>t.1≤N.length∧t.2.1.length≤t.1∧a0≤t.2.2∧t.2.2≤a0+2*t.1) (fun t=>N.length-t.1) (0,[],a0) rfl ⟨by omega,Nat.le_refl _,by dsimp only;omega,by dsimp only;omega⟩ ?_
 rintro⟨k,l,a⟩ ⟨hk,hl,ha1,ha2⟩
 dsimp only at hk hl ha1 ha2 ⊢;have nl:=JB hR
 have bl:=fun(pr:Obj) (P:AV)=>kF (B:=h.length) (cs:=cs) (g:=g) (jr:=jr) (pr:=pr) (J:=J) (P:=P) (R:=R)
 have c0:(id+1≤h.length+(R.length+8))=True:=eq_true (by omega)
 have c2:(v2.top≤h.length+(R.length+8))=True:=eq_true (by omega)
 have c3:(h.length+7+1≤h.length+(R.length+8))=True:=eq_true (by omega)
 have c4:(h.length+(n+8)+1≤h.length+(R.length+8))=True:=eq_true (by omega)
 have tR:R.take R.length=R:=List.take_length
 have hN':(N.length≤xs.length)=True:=eq_true hN
 rcases Nat.lt_or_ge k N.length with hlt|hge
 ·have gg:xs[k]?=some (.str N[k]):=by
   have h1:(win xs 0 N.length)[k]?=(N.map PV.str)[k]?:=by rw[hw]
   unfold win at h1;rw[List.drop_zero,List.getElem?_take_of_lt hlt,XA PV.str hlt]at h1;exact h1
  have w2:IntKind.i64.wrap ((k:Int)+1)=((k+1:Nat):Int):=CA _ (by omega) (by omega)
  have p0:uA 0 a:=by unfold uA at *;omega
  have p1:uA 0 (a+1):=by unfold uA at *;omega
  generalize N[k]=q at gg;have hR1:∀(pr:Obj) (P:AV),(BH h.length cs g jr pr J P R)[n+8]?=some (.row none xs 0):=fun pr P=>hR
  have ej:(l.map Pul.pv).length=l.length:=List.length_map ..
  have km:l.length+1≤WA:=by unfold WA;omega
  have eE:WB (h.length+7) (AV.own (h.length+6) (l.length+1) 0 (l.length+1))=[]:=if_neg (by simp [AV.top])
  by_cases f:FA L a 4=0
  ·have f':=eq_true f
   simp only[go_sem,hlt,w2,gg,hN',hR1,hid,p0,p1,f',bl,JD,bh_6,z2l,KU,ej,km,c0,c2,c3,c4,kD,tR,eE];refine⟨(k+1,l++[⟨q,FA L (a+1) 2⟩],a+1+1),?_,⟨hlt,by dsimp only;rw[List.length_append,List.length_singleton];omega,by dsimp only;omega,by dsimp only;omega⟩,by dsimp only;omega⟩
   dsimp only;rw[List.length_append,List.map_append];rfl
  ·simp only[go_sem,hlt,w2,gg,hN',hR1,hid,p0,f,bl,c0,c2,c3,c4,kD,tR]
   exact⟨(k+1,l,a+1),rfl,⟨hlt,by dsimp only;omega,by dsimp only;omega,by dsimp only;omega⟩,by dsimp only;omega⟩
 ·have e:k=N.length:=by omega
  subst e;simp only[go_sem,Nat.lt_irrefl,bl,c0,c2,c3,c4,kD,tR];exact fin l a _ hl ha1 ha2
end Go.Am
end
section
/- What is drawn: one thing of a board made odd. -/
open Go
set_option linter.all false
set_option maxRecDepth 100000
namespace Go.Am
variable {h:bA} {K:nA} {L:List Int}
attribute [-go_sem] ZA kB wB uB
abbrev BHJ (B:Nat)(M:List (Nat × Prt))(jl:List Jon)(pl:List Pul)(R:bA):bA:=BH B (MB M) M.length (.row (some 3) (jl.map Jon.pv) 0) (.row (some 2) (pl.map Pul.pv) 0) (.own (B+5) jl.length 0 jl.length) (.own (B+6) pl.length 0 pl.length) R
structure PartsE (M:List (Nat × Prt)):Prop where
 n:M.length≤3
 e:∀e∈M,e.2.key.length≤10∧e.2.cells.length≤7∧∀c∈e.2.cells,c.pin.length≤10
def NE (l:List Jon):Prop:=∀j∈l,j.net.length≤10
def iJ (lo:Nat)(M:List (Nat × Prt))(jl:List Jon)(pl:List Pul)(R:bA)(a:Int)(M':List (Nat × Prt))(jl':List Jon)(pl':List Pul)(R':bA)(a2:Int):Prop:=
 MI lo R' M'∧R'.length=R.length∧PartsE M'∧NE jl'∧jl'.length=jl.length∧pl'.length=pl.length∧M'.length=M.length∧a≤a2∧a2≤a+20
theorem z2E:∀ (M:List (Nat × Prt))(i:Nat)(hi:i<M.length)(s:Nm2),splice (MB M) (i*2) [AS s]=MB (M.set i (M[i].1,⟨s,M[i].2.cells⟩))
 | e::r,0,_,s=>rfl
 | e::r,i+1,hi,s=>by
  have ih:=z2E r i (by simpa using hi) s
  rw[show(i+1)*2=(i*2)+1+1 by omega]
  unfold splice at ih ⊢;show AS e.2.key::AV.own e.1 e.2.cells.length 0 e.2.cells.length::((MB r).take (i*2)++[AS s]++(MB r).drop (i*2+1))=_
  rw[show(MB r).take (i*2)++[AS s]++(MB r).drop (i*2+1)=_ from ih]
  rfl
theorem PY {l:List Nm2}{a:Int}{n:Nat}(h0:0<l.length)(h1:l.length<100)(hl:∀ s∈l,s.length≤n):(nC l L a).length≤n:=hl _ (aM h0 (by omega))
theorem pX {α β:Type}(f:α→β):∀(M:List α) (i:Nat) (hi:i<M.length) (x:α),f x=f M[i]→(M.set i x).map f=M.map f
 | e::r,0,_,x,h=>by show f x::r.map f=_;rw[h];rfl
 | e::r,i+1,hi,x,h=>by
  show f e::(r.set i x).map f=_
  rw[pX f r i (by simpa using hi) x h];rfl
theorem MI.setKey {lo i:Nat}{R:bA}{M:List (Nat × Prt)}{s:Nm2}(C:MI lo R M)(hi:i<M.length):MI lo R (M.set i (M[i].1,⟨s,M[i].2.cells⟩)):=by
 refine⟨fun e he=>?_,?_⟩
 ·rcases List.mem_or_eq_of_mem_set he with q|q
  ·exact C.rw e q
  ·have:=C.rw _ (List.getElem_mem hi)
   subst q;exact this
 ·rw[pX (fun e:Nat×Prt=>e.1) M i hi (M[i].1,⟨s,M[i].2.cells⟩) rfl];exact C.nd
set_option maxHeartbeats 2000000 in
theorem zo5 {id:Nat}(hid:id<h.length){a:Int}(hp:uA 1000 a){M:List (Nat × Prt)}{jl:List Jon}{pl:List Pul}{R:bA}(hM:MI (h.length+8) R M)(hE:PartsE M)(hJ:NE jl)(f:FA L a 6=0) :
 kA X sF [.ref id 0,.ref (h.length+7) 0] (h.set id (EA L a)++BHJ h.length M jl pl R) fun v h1 x1=>∃M' jl' pl' R' a2,iJ (h.length+8) M jl pl R a M' jl' pl' R' a2∧v = .tup []∧h1=h.set id (EA L a2)++BHJ h.length M' jl' pl' R'∧x1=[]:=by
 rw[rP rfl];have bl:=fun(cs:List AV) (g:Nat) (jr pr:Obj) (J P:AV)=>kF (B:=h.length) (cs:=cs) (g:=g) (jr:=jr) (pr:=pr) (J:=J) (P:=P) (R:=R)
 have p0:uA 0 a:=by unfold uA at *;omega
 have p1:uA 0 (a+1):=by unfold uA at *;omega
 have p2:uA 0 (a+1+1):=by unfold uA at *;omega
 have c0:(id+1≤h.length+(R.length+8))=True:=eq_true (by omega)
 have c3:(h.length+7+1≤h.length+(R.length+8))=True:=eq_true (by omega)
 have tR:R.take R.length=R:=List.take_length
 rcases Nat.eq_zero_or_pos M.length with m0|m0
 ·have m0':((0:Int)<M.length)=False:=eq_false (by omega)
  simp only[pF,go_sem,hid,p0,f,m0',bl,JD,c0,c3,kD,tR];refine⟨M,jl,pl,R,a+1,⟨hM,rfl,hE,hJ,rfl,rfl,rfl,by omega,by omega⟩,rfl⟩
 ·have m0':((0:Int)<M.length)=True:=eq_true (by omega)
  obtain⟨n1,n2⟩:=FE L (a+1) M.length (by omega) (by have:=hE.n;omega)
  have e4:=yF (k:=.i64) n1
  have il:(FA L (a+1) M.length).toNat<M.length:=by omega
  have S:=fun l K=>nG (L:=L) (h:=h) (l:=l) (K:=K) hid p2 (xs:=[.str [],.str [65],.str [117],.str [122,122]]) rfl (by simp) (by simp)
  simp only[List.map_cons,List.map_nil,unS]at S;have ks:=z2E M _ il (nC [[],[65],[117],[122,122]] L (a+1+1))
  simp only[splice,List.length_singleton,List.append_assoc,List.singleton_append]at ks;have cl:=rJ M
  have MK:=hM.setKey (s:=nC [[],[65],[117],[122,122]] L (a+1+1)) il
  have pl10:=PY (L:=L) (a:=a+1+1) (l:=[[],[65],[117],[122,122]]) (n:=10) (by simp) (by simp) (by simp)
  generalize nC [[],[65],[117],[122,122]] L (a+1+1)=s at *;have hE':PartsE (M.set (FA L (a+1) M.length).toNat (M[(FA L (a+1) M.length).toNat].1,⟨s,M[(FA L (a+1) M.length).toNat].2.cells⟩)):=by
   refine⟨by rw[List.length_set];exact hE.n,fun e he=>?_⟩
   rcases List.mem_or_eq_of_mem_set he with q|q
   ·exact hE.e e q
   ·subst q
    exact⟨pl10,(hE.e _ (List.getElem_mem il)).2⟩
  simp only[pF,go_sem,hid,p0,p1,f,m0',e4,il,↓S,S,bl,JD,bh_4,z2k,cl,c0,c3,kD,tR];rw[if_pos (by omega),ks]
  refine⟨M.set (FA L (a+1) M.length).toNat (M[(FA L (a+1) M.length).toNat].1,⟨s,M[(FA L (a+1) M.length).toNat].2.cells⟩),jl,pl,R,a+1+1+1,⟨MK,rfl,hE',hJ,rfl,rfl,List.length_set,by omega,by omega⟩,?_⟩
  rw[BHJ,List.length_set]
end Go.Am
end
section
/- What is drawn: a join or a pull made odd. -/
open Go
set_option linter.all false
set_option maxRecDepth 100000
namespace Go.Am
variable {h:bA} {K:nA} {L:List Int}
attribute [-go_sem] ZA kB wB uB
set_option maxHeartbeats 2000000 in
theorem zo6 {id:Nat}(hid:id<h.length){a:Int}(hp:uA 1000 a){M:List (Nat × Prt)}{jl:List Jon}{pl:List Pul}{R:bA}(hM:MI (h.length+8) R M)(hE:PartsE M)(hJ:NE jl)(hjl:jl.length≤100)(f:FA L a 6=1) :
 kA X sF [.ref id 0,.ref (h.length+7) 0] (h.set id (EA L a)++BHJ h.length M jl pl R) fun v h1 x1=>∃M' jl' pl' R' a2,iJ (h.length+8) M jl pl R a M' jl' pl' R' a2∧v = .tup []∧h1=h.set id (EA L a2)++BHJ h.length M' jl' pl' R'∧x1=[]:=by
 rw[rP rfl];have bl:=fun(cs:List AV) (g:Nat) (jr pr:Obj) (J P:AV)=>kF (B:=h.length) (cs:=cs) (g:=g) (jr:=jr) (pr:=pr) (J:=J) (P:=P) (R:=R)
 have p0:uA 0 a:=by unfold uA at *;omega
 have p1:uA 0 (a+1):=by unfold uA at *;omega
 have p2:uA 0 (a+1+1):=by unfold uA at *;omega
 have p3:uA 0 (a+1+1+1):=by unfold uA at *;omega
 have p4:uA 0 (a+1+1+1+1):=by unfold uA at *;omega
 have c0:(id+1≤h.length+(R.length+8))=True:=eq_true (by omega)
 have c3:(h.length+7+1≤h.length+(R.length+8))=True:=eq_true (by omega)
 have tR:R.take R.length=R:=List.take_length
 rcases Nat.eq_zero_or_pos jl.length with m0|m0
 ·have m0':((0:Int)<jl.length)=False:=eq_false (by omega)
  simp only[pF,go_sem,hid,p0,f,m0',bl,JD,c0,c3,kD,tR];exact⟨M,jl,pl,R,a+1,⟨hM,rfl,hE,hJ,rfl,rfl,rfl,by omega,by omega⟩,rfl⟩
 ·have m0':((0:Int)<jl.length)=True:=eq_true (by omega)
  obtain⟨n1,n2⟩:=FE L (a+1) jl.length (by omega) (by omega)
  have e4:=yF (k:=.i64) n1
  have il:(FA L (a+1) jl.length).toNat<jl.length:=by omega
  have g:=XA Jon.pv il
  have jn:=hJ _ (List.getElem_mem il)
  generalize hi:(FA L (a+1) jl.length).toNat=i at *;generalize hj:jl[i]=j at *;have S1:=fun l K=>nG (L:=L) (h:=h) (l:=l) (K:=K) hid p2 (xs:=[.str j.net,.str [],.str [110,49]]) rfl (by simp) (by simp)
  have S2:=fun l K=>nG (L:=L) (h:=h) (l:=l) (K:=K) hid p3 (xs:=[.str j.part,.str [122,122],.str [117]]) rfl (by simp) (by simp)
  have S3:=fun l K=>nG (L:=L) (h:=h) (l:=l) (K:=K) hid p4 (xs:=[.str j.pin,.str [112,122],.str []]) rfl (by simp) (by simp)
  simp only[List.map_cons,List.map_nil,unS]at S1 S2 S3;have l10:=PY (L:=L) (a:=a+1+1) (l:=[j.net,[],[110,49]]) (n:=10) (by simp) (by simp) (by simp;omega)
  generalize nC [j.net,[],[110,49]] L (a+1+1)=s1 at *;generalize nC [j.part,[122,122],[117]] L (a+1+1+1)=s2 at *;generalize nC [j.pin,[112,122],[]] L (a+1+1+1+1)=s3 at *;simp only[Jon.pv]at g;have el:(jl.map Jon.pv).length=jl.length:=List.length_map ..
  have el3:∀x,((jl.map Jon.pv).set i x).length=jl.length:=fun x=>by simp
  have g3:∀x,((jl.map Jon.pv).set i x)[i]?=some x:=fun x=>by rw[List.getElem?_set_self (by omega)]
  have ss:∀x y,((jl.map Jon.pv).set i x).set i y=(jl.map Jon.pv).set i y:=fun x y=>List.set_set ..
  have sp0:∀(a b c x:PV),splice [a,b,c] 0 [x]=[x,b,c]:=fun _ _ _ _=>rfl
  have sp1:∀(a b c x:PV),splice [a,b,c] 1 [x]=[a,x,c]:=fun _ _ _ _=>rfl
  have sp2:∀(a b c x:PV),splice [a,b,c] 2 [x]=[a,b,x]:=fun _ _ _ _=>rfl
  have mp:(jl.map Jon.pv).set i (.agg [.str s1,.str s2,.str s3])=(jl.set i ⟨s1,s2,s3⟩).map Jon.pv:=by rw[List.map_set];rfl
  have hJ':NE (jl.set i ⟨s1,s2,s3⟩):=fun x hx=>by
   rcases List.mem_or_eq_of_mem_set hx with q|q
   ·exact hJ x q
   ·subst q;exact l10
  simp only[pF,go_sem,hid,p0,p1,f,m0',e4,hi,il,g,el,el3,g3,ss,sp0,sp1,sp2,↓S1,S1,↓S2,S2,↓S3,S3,bl,JD,bh_5,JU,c0,c3,kD,tR,mp];exact⟨M,jl.set i ⟨s1,s2,s3⟩,pl,R,a+1+1+1+1+1,⟨hM,rfl,hE,hJ',List.length_set,rfl,rfl,by omega,by omega⟩,by rw[BHJ,List.length_set]⟩
theorem zo7 {id:Nat}(hid:id<h.length){a:Int}(hp:uA 1000 a){M:List (Nat × Prt)}{jl:List Jon}{pl:List Pul}{R:bA}(hM:MI (h.length+8) R M)(hE:PartsE M)(hJ:NE jl)(hpl:pl.length≤100)(f:FA L a 6=2) :
 kA X sF [.ref id 0,.ref (h.length+7) 0] (h.set id (EA L a)++BHJ h.length M jl pl R) fun v h1 x1=>∃M' jl' pl' R' a2,iJ (h.length+8) M jl pl R a M' jl' pl' R' a2∧v = .tup []∧h1=h.set id (EA L a2)++BHJ h.length M' jl' pl' R'∧x1=[]:=by
 rw[rP rfl];have bl:=fun(cs:List AV) (g:Nat) (jr pr:Obj) (J P:AV)=>kF (B:=h.length) (cs:=cs) (g:=g) (jr:=jr) (pr:=pr) (J:=J) (P:=P) (R:=R)
 have p0:uA 0 a:=by unfold uA at *;omega
 have p1:uA 0 (a+1):=by unfold uA at *;omega
 have p2:uA 0 (a+1+1):=by unfold uA at *;omega
 have c0:(id+1≤h.length+(R.length+8))=True:=eq_true (by omega)
 have c3:(h.length+7+1≤h.length+(R.length+8))=True:=eq_true (by omega)
 have tR:R.take R.length=R:=List.take_length
 rcases Nat.eq_zero_or_pos pl.length with m0|m0
 ·have m0':((0:Int)<pl.length)=False:=eq_false (by omega)
  simp only[pF,go_sem,hid,p0,f,m0',bl,JD,c0,c3,kD,tR];exact⟨M,jl,pl,R,a+1,⟨hM,rfl,hE,hJ,rfl,rfl,rfl,by omega,by omega⟩,rfl⟩
 ·have m0':((0:Int)<pl.length)=True:=eq_true (by omega)
  obtain⟨n1,n2⟩:=FE L (a+1) pl.length (by omega) (by omega)
  have e4:=yF (k:=.i64) n1
  have il:(FA L (a+1) pl.length).toNat<pl.length:=by omega
  have g:=XA Pul.pv il
  generalize hi:(FA L (a+1) pl.length).toNat=i at *;generalize hj:pl[i]=j at *;have S1:=fun l K=>nG (L:=L) (h:=h) (l:=l) (K:=K) hid p2 (xs:=[.str j.net,.str [122,122],.str [110,49]]) rfl (by simp) (by simp)
  simp only[List.map_cons,List.map_nil,unS]at S1;generalize nC [j.net,[122,122],[110,49]] L (a+1+1)=s1 at *;obtain⟨w,a2,w1,w2,w3,w4,O⟩:=g_Odd (L:=L) (a:=a+1+1+1) (by unfold uA at *;omega) 0 1 (by omega) (by omega) (by omega)
  have S2:=fun l K=>O.app (h:=h) (id:=id) (l:=l) (K:=K) hid
  simp only[Pul.pv,eI]at g;have el:(pl.map Pul.pv).length=pl.length:=List.length_map ..
  have el3:∀x,((pl.map Pul.pv).set i x).length=pl.length:=fun x=>by simp
  have g3:∀x,((pl.map Pul.pv).set i x)[i]?=some x:=fun x=>by rw[List.getElem?_set_self (by omega)]
  have ss:∀x y,((pl.map Pul.pv).set i x).set i y=(pl.map Pul.pv).set i y:=fun x y=>List.set_set ..
  have sp0:∀(a b x:PV),splice [a,b] 0 [x]=[x,b]:=fun _ _ _=>rfl
  have sp1:∀(a b x:PV),splice [a,b] 1 [x]=[a,x]:=fun _ _ _=>rfl
  have mp:(pl.map Pul.pv).set i (.agg [.str s1,.int .i64 w])=(pl.set i ⟨s1,w⟩).map Pul.pv:=by rw[List.map_set];rfl
  simp only[pF,go_sem,hid,p0,p1,f,m0',e4,hi,il,g,el,el3,g3,ss,sp0,sp1,↓S1,S1,↓S2,S2,bl,JD,bh_6,z2l,c0,c3,kD,tR,mp];exact⟨M,jl,pl.set i ⟨s1,w⟩,R,a2,⟨hM,rfl,hE,hJ,rfl,List.length_set,rfl,by omega,by omega⟩,by rw[BHJ,List.length_set]⟩
end Go.Am
end
section
/- What is drawn: a cell made odd. -/
open Go
set_option linter.all false
set_option maxRecDepth 100000
namespace Go.Am
variable {h:bA} {K:nA} {L:List Int}
attribute [-go_sem] ZA kB wB uB
theorem bh_sR {B g:Nat}{cs:List AV}{jr pr:Obj}{J P:AV}{R:bA}{n:Nat}{o:Obj}:(BH B cs g jr pr J P R).set (n+8) o=BH B cs g jr pr J P (R.set n o):=rfl
theorem z2C:∀ (M:List (Nat × Prt))(i:Nat)(hi:i<M.length),(MB M)[i*2+1]?=some (.own M[i].1 M[i].2.cells.length 0 M[i].2.cells.length)
 | e::r,0,_=>rfl
 | e::r,i+1,hi=>by
  rw[show(i+1)*2+1=(i*2+1)+1+1 by omega]
  exact z2C r i (by simpa using hi)
theorem z2D:∀ (M:List (Nat × Prt))(i:Nat)(hi:i<M.length)(l:List Cel),l.length=M[i].2.cells.length→MB (M.set i (M[i].1,⟨M[i].2.key,l⟩))=MB M
 | e::r,0,_,l,hl=>by
  show AS e.2.key::AV.own e.1 l.length 0 l.length::MB r=_
  rw[show l.length=e.2.cells.length from hl];rfl
 | e::r,i+1,hi,l,hl=>by
  show AS e.2.key::AV.own e.1 e.2.cells.length 0 e.2.cells.length::MB (r.set i _)=_
  rw[show MB (r.set i ((e::r)[i+1].1,⟨(e::r)[i+1].2.key,l⟩))=MB r from z2D r i (by simpa using hi) l hl];rfl
theorem MI.setC {lo i m:Nat}{R:bA}{M:List (Nat × Prt)}{l:List Cel}(C:MI lo R M)(hi:i<M.length)(hm:M[i].1=lo+m)(hR:m<R.length):MI lo (R.set m (.row (some 4) (l.map Cel.pv) 0)) (M.set i (M[i].1,⟨M[i].2.key,l⟩)):=by
 have nd:=C.nd
 refine⟨fun e he=>?_,?_⟩
 ·obtain⟨j,hj,rfl⟩:=List.mem_iff_getElem.1 he
  rw[List.length_set]at hj;rw[List.getElem_set];by_cases hij:i=j
  ·rw[if_pos hij]
   exact⟨m,hm,by rw[List.getElem?_set_self hR]⟩
  ·rw[if_neg hij]
   obtain⟨n,e1,e2⟩:=C.rw _ (List.getElem_mem hj);refine⟨n,e1,?_⟩;have pw:=List.pairwise_iff_getElem.1 nd
   have hne:M[j].1≠M[i].1:=by
    rcases Nat.lt_or_ge i j with q|q
    ·have:=pw i j (by simpa using hi) (by simpa using hj) q
     simpa using Ne.symm this
    ·have:=pw j i (by simpa using hj) (by simpa using hi) (by omega)
     simpa using this
   have:n≠m:=fun e=>hne (by rw[e1,hm,e])
   rw[List.getElem?_set_ne (by omega)];exact e2
 ·rw[pX (fun e:Nat×Prt=>e.1) M i hi (M[i].1,⟨M[i].2.key,l⟩) rfl];exact nd
set_option maxHeartbeats 4000000 in
theorem zo8 {id:Nat}(hid:id<h.length){a:Int}(hp:uA 1000 a){M:List (Nat × Prt)}{jl:List Jon}{pl:List Pul}{R:bA}(hM:MI (h.length+8) R M)(hE:PartsE M)(hJ:NE jl)(f0:¬ FA L a 6=0)(f1:¬ FA L a 6=1)(f2:¬ FA L a 6=2) :
 kA X sF [.ref id 0,.ref (h.length+7) 0] (h.set id (EA L a)++BHJ h.length M jl pl R) fun v h1 x1=>∃M' jl' pl' R' a2,iJ (h.length+8) M jl pl R a M' jl' pl' R' a2∧v = .tup []∧h1=h.set id (EA L a2)++BHJ h.length M' jl' pl' R'∧x1=[]:=by
 rw[rP rfl];have bl:=fun(cs:List AV) (g:Nat) (jr pr:Obj) (J P:AV) (R:bA)=>kF (B:=h.length) (cs:=cs) (g:=g) (jr:=jr) (pr:=pr) (J:=J) (P:=P) (R:=R)
 have p0:uA 0 a:=by unfold uA at *;omega
 have p1:uA 0 (a+1):=by unfold uA at *;omega
 have p2:uA 0 (a+1+1):=by unfold uA at *;omega
 have p3:uA 0 (a+1+1+1):=by unfold uA at *;omega
 have p4:uA 0 (a+1+1+1+1):=by unfold uA at *;omega
 have p5:uA 0 (a+1+1+1+1+1):=by unfold uA at *;omega
 have p6:uA 0 (a+1+1+1+1+1+1):=by unfold uA at *;omega
 have c0:(id+1≤h.length+(R.length+8))=True:=eq_true (by omega)
 have c3:(h.length+7+1≤h.length+(R.length+8))=True:=eq_true (by omega)
 have tR:R.take R.length=R:=List.take_length
 rcases Nat.eq_zero_or_pos M.length with m0|m0
 ·have m0':((M.length:Int)=0)=True:=eq_true (by omega)
  simp (config:={maxSteps:=1000000}) only[pF,go_sem,hid,p0,f0,f1,f2,m0',bl,JD,c0,c3,kD,tR];exact⟨M,jl,pl,R,a+1,⟨hM,rfl,hE,hJ,rfl,rfl,rfl,by omega,by omega⟩,rfl⟩
 ·have m0':((M.length:Int)=0)=False:=eq_false (by omega)
  obtain⟨n1,n2⟩:=FE L (a+1) M.length (by omega) (by have:=hE.n;omega)
  have e4:=yF (k:=.i64) n1
  have il:(FA L (a+1) M.length).toNat<M.length:=by omega
  have cl:=rJ M
  have gr:=z2C M _ il
  obtain⟨m,m1,m2⟩:=hM.rw _ (List.getElem_mem il);have sC:=z2D M _ il
  have MC:=fun l=>hM.setC (l:=l) il m1 (JB m2)
  have eE:=hE.e _ (List.getElem_mem il)
  generalize hi:(FA L (a+1) M.length).toNat=i at *;rw[m1,show h.length+8+m=h.length+(m+8) by omega]at gr
  generalize hl:M[i].2.cells=l at *;have hi2:(i*2+1<M.length*2)=True:=eq_true (by omega)
  rcases Nat.eq_zero_or_pos l.length with q0|q0
  ·have q0':((0:Int)<l.length)=False:=eq_false (by omega)
   simp (config:={maxSteps:=10000000}) only[pF,go_sem,hid,p0,p1,f0,f1,f2,m0',e4,hi,il,gr,cl,q0',bl,JD,bh_4,c0,c3,kD,tR];exact⟨M,jl,pl,R,a+1+1,⟨hM,rfl,hE,hJ,rfl,rfl,rfl,by omega,by omega⟩,rfl⟩
  ·have q0':((0:Int)<l.length)=True:=eq_true (by omega)
   obtain⟨n3,n4⟩:=FE L (a+1+1) l.length (by omega) (by omega)
   have e5:=yF (k:=.i64) n3
   have kl:(FA L (a+1+1) l.length).toNat<l.length:=by omega
   have g:=XA Cel.pv kl
   have pn:=eE.2.2 _ (List.getElem_mem kl)
   generalize hk:(FA L (a+1+1) l.length).toNat=k at *;generalize hc:l[k]=c at *;have S1:=fun t K=>nO (L:=L) (h:=h) (l:=t) (K:=K) hid p3 (xs:=[eI c.kind,eI c.kind,eI 0,eI 5,eI 3]) rfl (by simp) (by simp)
   have S2:=fun t K=>nG (L:=L) (h:=h) (l:=t) (K:=K) hid p4 (xs:=[.str c.pin,.str c.pin,.str [],.str [112,97],.str [65]]) rfl (by simp) (by simp)
   have S3:=fun t K=>nO (L:=L) (h:=h) (l:=t) (K:=K) hid p5 (xs:=[eI c.ctl,eI c.ctl,eI (-1),eI (-2),eI 0,eI 99,eI 1099511627776]) rfl (by simp) (by simp)
   have S4:=fun t K=>nO (L:=L) (h:=h) (l:=t) (K:=K) hid p6 (xs:=[eI c.off,eI c.off,eI 0,eI 1,eI 2,eI (-1)]) rfl (by simp) (by simp)
   simp only[List.map_cons,List.map_nil,unS,unI,eI]at S1 S2 S3 S4;have l10:=PY (L:=L) (a:=a+1+1+1+1) (l:=[c.pin,c.pin,[],[112,97],[65]]) (n:=10) (by simp) (by simp) (by simp;omega)
   generalize BF [c.kind,c.kind,0,5,3] L (a+1+1+1)=s1 at *;generalize nC [c.pin,c.pin,[],[112,97],[65]] L (a+1+1+1+1)=s2 at *;generalize BF [c.ctl,c.ctl,-1,-2,0,99,1099511627776] L (a+1+1+1+1+1)=s3 at *;generalize BF [c.off,c.off,0,1,2,-1] L (a+1+1+1+1+1+1)=s4 at *;simp only[Cel.pv,eI]at g;have el:(l.map Cel.pv).length=l.length:=List.length_map ..
   have el3:∀x,((l.map Cel.pv).set k x).length=l.length:=fun x=>by simp
   have g3:∀x,((l.map Cel.pv).set k x)[k]?=some x:=fun x=>by rw[List.getElem?_set_self (by omega)]
   have ss:∀x y,((l.map Cel.pv).set k x).set k y=(l.map Cel.pv).set k y:=fun x y=>List.set_set ..
   have sp0:∀(a b c d x:PV),splice [a,b,c,d] 0 [x]=[x,b,c,d]:=fun _ _ _ _ _=>rfl
   have sp1:∀(a b c d x:PV),splice [a,b,c,d] 1 [x]=[a,x,c,d]:=fun _ _ _ _ _=>rfl
   have sp2:∀(a b c d x:PV),splice [a,b,c,d] 2 [x]=[a,b,x,d]:=fun _ _ _ _ _=>rfl
   have sp3:∀(a b c d x:PV),splice [a,b,c,d] 3 [x]=[a,b,c,x]:=fun _ _ _ _ _=>rfl
   have mp:(l.map Cel.pv).set k (.agg [.int .i64 s1,.str s2,.int .i64 s3,.int .i64 s4])=(l.set k ⟨s1,s2,s3,s4⟩).map Cel.pv:=by rw[List.map_set];rfl
   have ml:=JB m2
   have r2:∀o:Obj,(R.set m o)[m]?=some o:=fun o=>List.getElem?_set_self ml
   have r3:∀o o':Obj,(R.set m o).set m o'=R.set m o':=fun o o'=>List.set_set ..
   have r4:∀o:Obj,(R.set m o).length=R.length:=fun o=>List.length_set
   have tR2:∀o:Obj,(R.set m o).take R.length=R.set m o:=fun o=>List.take_of_length_le (by simp)
   simp (config:={maxSteps:=10000000}) only[pF,go_sem,hid,p0,p1,p2,f0,f1,f2,m0',e4,hi,il,gr,cl,q0',e5,hk,kl,g,el,el3,g3,ss,sp0,sp1,sp2,sp3,↓S1,S1,↓S2,S2,↓S3,S3,↓S4,S4,bl,JD,bh_4,bh_R,bh_sR,m2,r2,r3,r4,tR2,c0,c3,kD,tR,mp];have lc:(l.set k ⟨s1,s2,s3,s4⟩).length=l.length:=List.length_set
   have hE':PartsE (M.set i (M[i].1,⟨M[i].2.key,l.set k ⟨s1,s2,s3,s4⟩⟩)):=by
    refine⟨by rw[List.length_set];exact hE.n,fun e he=>?_⟩
    rcases List.mem_or_eq_of_mem_set he with q|q
    ·exact hE.e e q
    ·subst q
     refine⟨eE.1,by rw[lc];exact eE.2.1,fun x hx=>?_⟩
     rcases List.mem_or_eq_of_mem_set hx with q|q
     ·exact eE.2.2 x q
     ·subst q;exact l10
   refine⟨M.set i (M[i].1,⟨M[i].2.key,l.set k ⟨s1,s2,s3,s4⟩⟩),jl,pl,R.set m (.row (some 4) ((l.set k ⟨s1,s2,s3,s4⟩).map Cel.pv) 0),a+1+1+1+1+1+1+1,⟨MC _,List.length_set,hE',hJ,rfl,rfl,List.length_set,by omega,by omega⟩,?_⟩
   rw[BHJ,sC _ lc,List.length_set]
theorem zo4 {id:Nat}(hid:id<h.length){a:Int}(hp:uA 1000 a){M:List (Nat × Prt)}{jl:List Jon}{pl:List Pul}{R:bA}(hM:MI (h.length+8) R M)(hE:PartsE M)(hJ:NE jl)(hjl:jl.length≤100)(hpl:pl.length≤100) :
 ∃M' jl' pl' R' a2,iJ (h.length+8) M jl pl R a M' jl' pl' R' a2∧∀K:nA,kA X sF [.ref id 0,.ref (h.length+7) 0] (h.set id (EA L a)++BHJ h.length M jl pl R) K=K (.tup []) (h.set id (EA L a2)++BHJ h.length M' jl' pl' R') []:=by
 have key:kA X sF [.ref id 0,.ref (h.length+7) 0] (h.set id (EA L a)++BHJ h.length M jl pl R) fun v h1 x1=>∃M' jl' pl' R' a2,iJ (h.length+8) M jl pl R a M' jl' pl' R' a2∧v = .tup []∧h1=h.set id (EA L a2)++BHJ h.length M' jl' pl' R'∧x1=[]:=by
  by_cases f0:FA L a 6=0
  ·exact zo5 hid hp hM hE hJ f0
  ·by_cases f1:FA L a 6=1
   ·exact zo6 hid hp hM hE hJ hjl f1
   ·by_cases f2:FA L a 6=2
    ·exact zo7 hid hp hM hE hJ hpl f2
    ·exact zo8 hid hp hM hE hJ f0 f1 f2
 obtain⟨v,h1,x1,⟨M',jl',pl',R',a2,q,e1,e2,e3⟩,r⟩:=kA.one uM key;subst e1 e2 e3;exact⟨M',jl',pl',R',a2,q,r⟩
end Go.Am
end
section
/- What is drawn: how many pins there are,and the board that is handed back. -/
open Go
set_option linter.all false
set_option maxRecDepth 100000
namespace Go.Am
variable {h:bA} {K:nA} {L:List Int}
attribute [-go_sem] ZA kB wB uB
theorem z7w {α:Type}[DecidableEq α]:∀(l s:List α),l.Nodup→(∀x∈l,x∈s)→l.length≤s.length
 | [],s,_,_=>Nat.zero_le _
 | x::r,s,hd,hs=>by
  rw[List.nodup_cons]at hd;have hx:=hs x (by simp)
  have ih:=z7w r (s.erase x) hd.2 fun y hy=>(List.mem_erase_of_ne fun e=>hd.1 (by rw[←e];exact hy)).2 (hs y (by simp [hy]))
  rw[List.length_erase_of_mem hx]at ih;have:0<s.length:=List.length_pos_of_mem hx
  rw[List.length_cons];omega
def QY:List (Nm2 × Nm2):=fG.flatMap fun k=>[(k,WD 0),(k,WD 1),(k,WD 2),(k,WD 3)]
def gJ (P:List (Nm2 × Nm2)):Prop:=P.Nodup∧∀x∈P,x∈QY
theorem zcr {key:Nm2}(hk:key∈fG){P:List (Nm2 × Nm2)}{c:Cel}(hc:rC c)(I:gJ P):gJ (oC key P c):=by
 unfold oC;by_cases h1:c.pin=[]
 ·rw[if_pos h1];exact I
 ·rw[if_neg h1]
  by_cases h2:(key,c.pin)∈P
  ·rw[if_pos h2];exact I
  ·rw[if_neg h2]
   refine⟨?_,fun x hx=>?_⟩
   ·rw[List.nodup_append]
    refine⟨I.1,by simp,fun a ha b hb=>?_⟩
    rw[List.mem_singleton]at hb;subst hb;intro e;subst e;exact h2 ha
   ·rcases List.mem_append.1 hx with q|q
    ·exact I.2 x q
    ·rw[List.mem_singleton]at q
     subst q;rcases hc with z|⟨i,hi,z⟩
     ·exact absurd z h1
     ·unfold QY
      rw[List.mem_flatMap];refine⟨key,hk,?_⟩;rw[z];have:i=0∨i=1∨i=2∨i=3:=by omega
      rcases this with e|e|e|e <;> subst e <;> simp
theorem z1R {key:Nm2}(hk:key∈fG):∀{l:List Cel} {P:List (Nm2×Nm2)},(∀c∈l,rC c)→gJ P→gJ (l.foldl (oC key) P)
 | [],_,_,I=>I
 | c::r,P,hc,I=>z1R hk (l:=r) (fun d hd=>hc d (by simp [hd])) (zcr hk (hc c (by simp)) I)
theorem zmQ {M:List (Nat × Prt)}(D:PartsD M 3):(oE M).length≤12:=by
 have key:∀(N:List (Nat×Prt)) (P:List (Nm2×Nm2)),(∀e∈N,e∈M)→gJ P→gJ (N.foldl (fun Q e=>e.2.cells.foldl (oC e.2.key) Q) P):=by
  intro N;induction N with
  | nil=>intro P _ I;exact I
  | cons e r ih=>
   intro P hN I;have he:=hN e (by simp)
   refine ih _ (fun x hx=>hN x (by simp [hx])) (z1R ?_ (D.c e he).2 I)
   have:=D.k.subset (List.mem_map.2 ⟨e,he,rfl⟩);exact this
 have:=key M [] (fun e he=>he) ⟨List.nodup_nil,fun x hx=>(by cases hx)⟩
 exact z7w _ QY this.1 this.2
def nN:List (Nat × Prt)→List PV
 | []=>[]
 | e::r=>.str e.2.key :: .sl (some 4) (e.2.cells.map Cel.pv)::nN r
theorem z7T {b:Nat}{H:bA}:∀(M:List (Nat×Prt)),(∀e∈M,b≤e.1∧H[e.1]?=some (.row (some 4) (e.2.cells.map Cel.pv) 0))→RH b H (MB M)=some (nN M)
 | [],_=>rfl
 | e::r,hM=>by
  obtain⟨h1,h2⟩:=hM e (by simp)
  have ih:=z7T r fun x hx=>hM x (by simp [hx])
  have w:win (e.2.cells.map Cel.pv) 0 e.2.cells.length=e.2.cells.map Cel.pv:=rD (by simp)
  have k:rd0 b H (.own e.1 e.2.cells.length 0 e.2.cells.length)=some (.sl (some 4) (e.2.cells.map Cel.pv)):=by
   simp only[rd0,h1,if_true,rd,h2];simp [w]
  show(match rd0 b H (AS e.2.key) with|some x=>(RH b H (.own e.1 e.2.cells.length 0 e.2.cells.length::MB r)).map (x :: ·)|none=>none)=_
  show((match rd0 b H (.own e.1 e.2.cells.length 0 e.2.cells.length) with|some x=>(RH b H (MB r)).map (x :: ·)|none=>none)).map (PV.str e.2.key :: ·)=_
  rw[k];dsimp only;rw[ih];rfl
theorem z2N:∀ (M:List (Nat × Prt)),vE 2 M.length (nN M)=M.map fun e=>e.2.pv
 | []=>rfl
 | e::r=>by
  show PV.agg [.str e.2.key,.sl (some 4) (e.2.cells.map Cel.pv)]::vE 2 r.length (nN r)=_
  rw[z2N r];rfl
def dH (M:List (Nat × Prt))(jl:List Jon)(pl:List Pul):Brd:=⟨M.map fun e=>e.2,jl,pl⟩
theorem znn {b:Nat}{P:nA}{H:bA}{E:Esc}{M:List (Nat × Prt)}{jl:List Jon}{pl:List Pul}(hE:∀ y∈E,b≤y.1)(h4:H[b+4]?=some (.arow (some 2) (MB M)))(hr:∀ e∈M,b≤e.1∧H[e.1]?=some (.row (some 4) (e.2.cells.map Cel.pv) 0))(h5:H[b+5]?=some (.row (some 3) (jl.map Jon.pv) 0))(h6:H[b+6]?=some (.row (some 2) (pl.map Pul.pv) 0)) :
 zD false b P (some [.agg [.bt 3 3 (b+4) M.length,.own (b+5) jl.length 0 jl.length,.own (b+6) pl.length 0 pl.length]]) H E=P (.p (dH M jl pl).pv) (H.take b) []:=by
 have w5:win (jl.map Jon.pv) 0 jl.length=jl.map Jon.pv:=rD (by simp)
 have w6:win (pl.map Pul.pv) 0 pl.length=pl.map Pul.pv:=rD (by simp)
 have r5:iB b H (.own (b+5) jl.length 0 jl.length)=some (.p (.sl (some 3) (jl.map Jon.pv))):=by
  simp only[iB,show b≤b+5 by omega,if_true,rd,h5]
  simp [w5]
 have r6:iB b H (.own (b+6) pl.length 0 pl.length)=some (.p (.sl (some 2) (pl.map Pul.pv))):=by
  simp only[iB,show b≤b+6 by omega,if_true,rd,h6]
  simp [w6]
 have r4:iB b H (.bt 3 3 (b+4) M.length)=some (.p (.sl (some 2) (M.map fun e=>e.2.pv))):=by
  have hb:(Nat.beq 3 3&&decide (b≤b+4))=true:=by simp
  simp only[iB,hb,cond_true,rdA,h4];rw[if_pos (by rw[rJ];rfl),z7T M hr]
  show some (AV.p (.sl (some 2) (vE 2 M.length (nN M))))=_
  rw[z2N]
 have e:iB b H (rB [.agg [.bt 3 3 (b+4) M.length,.own (b+5) jl.length 0 jl.length,.own (b+6) pl.length 0 pl.length]])=some (.p (dH M jl pl).pv):=by
  show(IE b H [.bt 3 3 (b+4) M.length,.own (b+5) jl.length 0 jl.length,.own (b+6) pl.length 0 pl.length]).map mkA=_
  simp only[IE,r4,r5,r6,Option.map_some];show some (AV.p (PV.agg [.sl (some 2) (M.map fun e=>e.2.pv),.sl (some 3) (jl.map Jon.pv),.sl (some 2) (pl.map Pul.pv)]))=_
  unfold dH Brd.pv;rw[List.map_map];rfl
 have hc:=zeI hE E.length
 unfold zD;dsimp only;rw[e];dsimp only;rw[show(AV.p (dH M jl pl).pv).top=0 from rfl,Nat.max_eq_left (Nat.zero_le _),hc]
 have hcl:fC E b=true:=by
  unfold fC;rw[List.all_eq_true];intro y hy;simp [hE y hy]
 have hf:E.filter (fun y=>decide (y.1<b))=[]:=by
  rw[List.filter_eq_nil_iff];intro y hy;have:=hE y hy;simp;omega
 rw[if_pos hcl,e,hf];dsimp only;rw[show(AV.p (dH M jl pl).pv).top=0 from rfl]
 simp
end Go.Am
end
section
/- What is drawn: a board. -/
open Go
set_option linter.all false
set_option maxRecDepth 100000
namespace Go.Am
variable {h:bA} {K:nA} {L:List Int}
attribute [-go_sem] ZA kB wB uB
attribute [-go_sem] MQ OM NQ kI OQ DJ PQ EJ QQ FJ
theorem bh_s3 {B g:Nat}{cs:List AV}{jr pr o:Obj}{J P:AV}{R:bA}:(BH B cs g jr pr J P R).set 3 o = .arow (some 2) [] :: .row (some 3) [] 0 :: .row (some 2) [] 0::o :: .arow (some 2) cs::jr::pr :: .box [.bt 3 3 (B+4) g,J,P]::R:=rfl
theorem bh_3 {B g:Nat}{cs:List AV}{jr pr:Obj}{J P:AV}{R:bA}:(BH B cs g jr pr J P R)[3]?=some (.box [.bt 3 3 B 0,.own (B+1) 0 0 0,.own (B+2) 0 0 0]):=rfl
theorem z8n {P:nA}{id:Nat}{a:Int}{M:List (Nat × Prt)}{jl:List Jon}{pl:List Pul}{R:bA}{E:Esc}(hM:MI (h.length+8) R M)(hE:∀ y∈E,y.1=h.length+4)(env:List (Nat × AV))(e2:aA env 2 = .ref (h.length+3) 0)(e3:aA env 3 = .ref (h.length+7) 0)
 (fin:P (.p (dH M jl pl).pv) (h.set id (EA L a)) []) :
 NW (kA X) X.gl IR ⟨env,h.set id (EA L a)++BHJ h.length M jl pl R,E⟩ (yA [.cell 2 (some 3)] false h.length P):=by
 rw[MQ];have eE:WB (h.length+3) (AV.agg [.bt 3 3 (h.length+4) M.length,.own (h.length+5) jl.length 0 jl.length,.own (h.length+6) pl.length 0 pl.length])=[(h.length+3,h.length+7)]:=by
  simp [WB,AV.top,AV.tops]
 simp only[OM,e2,e3,go_sem,JD,bh_3,bh_s3];rw[eE,znn (M:=M) (jl:=jl) (pl:=pl) (fun y hy=>?_) (by rw[oG];rfl) (fun e he=>?_) (by rw[oG];rfl) (by rw[oG];rfl)]
 ·rw[z8B];exact fin
 ·rcases List.mem_cons.1 hy with q|q
  ·subst q;exact Nat.le_add_right ..
  ·have:=hE y q;omega
 ·obtain⟨n,e1,e2⟩:=hM.rw e he
  refine⟨by omega,?_⟩
  rw[e1,show h.length+8+n=h.length+(n+8) by omega,oG]
  exact e2
structure BrdE (b:Brd):Prop where
 p:b.parts.length≤3
 e:∀p∈b.parts,p.key.length≤10∧p.cells.length≤7∧∀c∈p.cells,c.pin.length≤10
 j:b.joins.length≤12
 n:∀j∈b.joins,j.net.length≤10
 l:b.pulls.length≤12
theorem z2s {M:List (Nat × Prt)}{jl:List Jon}{pl:List Pul}(hE:PartsE M)(hJ:NE jl)(h1:jl.length≤12)(h2:pl.length≤12):BrdE (dH M jl pl):=by
 refine⟨by simpa [dH] using hE.n,fun p hp=>?_,h1,hJ,h2⟩
 obtain⟨e,he,rfl⟩:=List.mem_map.1 hp;exact hE.e e he
abbrev EndQ (h:bA)(id:Nat)(L:List Int)(a:Int):nA:=fun v1 h1 x1=>∃a2,(∃b,BrdE b∧v1 = .p b.pv∧a≤a2∧a2≤a+400)∧h1=h.set id (EA L a2)∧x1=[]
theorem znw {id:Nat}(hid:id<h.length){a0 a:Int}(hp:uA 1100 a)(ha:a0≤a)(ha2:a≤a0+300){M:List (Nat × Prt)}{jl:List Jon}{pl:List Pul}{R:bA}{E:Esc}(hM:MI (h.length+8) R M)(hE:∀ y∈E,y.1=h.length+4)(hP:PartsE M)(hJ:NE jl)(h1:jl.length≤12)(h2:pl.length≤12)
 (env:List (Nat×AV)) (e0:aA env 0 = .ref id 0) (e2:aA env 2 = .ref (h.length+3) 0) (e3:aA env 3 = .ref (h.length+7) 0) :
 NW (kA X) X.gl JR ⟨env,h.set id (EA L a)++BHJ h.length M jl pl R,E⟩ (yA [.cell 2 (some 3)] false h.length (EndQ h id L a0)):=by
 rw[NQ];have p0:uA 0 a:=by unfold uA at *;omega
 by_cases f:FA L a 8=0
 ·have f':=eq_true f
  obtain⟨M',jl',pl',R',a2,⟨q1,q2,q3,q4,q5,q6,q7,q8,q9⟩,SP⟩:=zo4 (L:=L) (h:=h) (id:=id) hid (a:=a+1) (by unfold uA at *;omega) hM hP hJ (by omega) (pl:=pl) (by omega)
  simp only[kI,e0,e2,e3,go_sem,hid,p0,f',↓SP,SP];exact z8n q1 hE _ rfl rfl ⟨a2,⟨_,z2s q3 q4 (by omega) (by omega),rfl,by omega,by omega⟩,rfl,rfl⟩
 ·simp only[kI,e0,e2,e3,go_sem,hid,p0,f]
  exact z8n hM hE _ rfl rfl ⟨a+1,⟨_,z2s hP hJ h1 h2,rfl,by omega,by omega⟩,rfl,rfl⟩
theorem znx {id:Nat}(hid:id<h.length){a0 a:Int}(hp:uA 2000 a)(ha:a0≤a)(ha2:a≤a0+200){M:List (Nat × Prt)}{jl:List Jon}{R:bA}{E:Esc}(hM:MI (h.length+8) R M)(hE:∀ y∈E,y.1=h.length+4)(hP:PartsE M)(hJ:NE jl)(h1:jl.length≤12)
 (env:List (Nat×AV)) (e0:aA env 0 = .ref id 0) (e2:aA env 2 = .ref (h.length+3) 0) (e3:aA env 3 = .ref (h.length+7) 0) :
 NW (kA X) X.gl KR ⟨env,h.set id (EA L a)++BHJ h.length M jl [] R,E⟩ (yA [.cell 2 (some 3)] false h.length (EndQ h id L a0)):=by
 rw[OQ];have js:=zkz jl
 have jlen:(XB (ltO GB) jl).length=jl.length:=zkr ..
 have SJ:=fun K=>znQ (K:=K) (h:=h.set id (EA L a)++BHJ h.length M jl [] R) (h.length+5) jl h1 (by rw[oG];rfl)
 rw[tZ,BHJ,JU]at SJ;rw[BHJ];simp only[List.map_nil,List.length_nil]at SJ ⊢;have hJ2:NE (XB (ltO GB) jl):=fun j hj=>hJ j (zks.1 hj)
 generalize XB (ltO GB) jl=js2 at *;generalize jl.length=n at *;subst jlen;obtain⟨xs,x1,x2,x3,x4,NN⟩:=znN (h:=h.set id (EA L a)++BHJ h.length M js2 [] R) js2 (jid:=h.length+5) (pid:=h.length+4) (g:=M.length) (t:=3) (qid:=h.length+6) (m:=0) (by rw[oG];rfl) (by omega) js
 simp only[List.length_append,List.length_set,kF,List.append_assoc,lJ,BHJ,List.map_nil,List.length_nil]at NN;rw[show h.length+(R.length+8)+1=h.length+((R.length+1)+8) by omega]at NN
 simp only[DJ,e0,e2,e3,go_sem,JD,↓SJ,SJ,↓NN,NN];rw[←x1];refine znv (K:=wA 8 _) hid (a0:=a) (by unfold uA at *;omega) (n:=R.length+1) (xs:=xs) (N:=KK js2) (by simp [AV.top]) (by omega) (by omega) x2 (by rw[List.getElem?_append_right (by omega)];simp) fun l a3 z l1 l2 l3=>?_
 simp only[go_sem];rw[x1];refine znw hid (by unfold uA at *;omega) (by omega) (by omega) hM.app hE hP hJ2 (by omega) (by omega) _ rfl rfl rfl
end Go.Am
end
section
/- What is drawn: a board,whole. -/
open Go
set_option linter.all false
set_option maxRecDepth 100000
namespace Go.Am
variable {h:bA} {K:nA} {L:List Int}
attribute [-go_sem] ZA kB wB uB
attribute [-go_sem] MQ OM NQ kI OQ DJ PQ EJ QQ FJ
theorem PartsD.toE {M:List (Nat × Prt)}(D:PartsD M 3):PartsE M:=by
 refine⟨D.len,fun e he=>⟨?_,(D.c e he).1,fun c hc=>?_⟩⟩
 ·have:=D.k.subset (List.mem_map.2 ⟨e,he,rfl⟩)
  simp [fG]at this;rcases this with q|q|q <;> rw[q] <;> simp
 ·rcases(D.c e he).2 c hc with q|⟨i,_,q⟩
  ·rw[q];simp
  ·rw[q];simp [WD]
theorem FO.toE {l:List Jon}(D:FO l):NE l:=fun j hj=>by
 have:=D j hj;simp [LK]at this;rcases this with q|q|q <;> rw[q] <;> simp
theorem zny {id:Nat}(hid:id<h.length){a0 a:Int}(hp:uA 3000 a)(ha:a0≤a)(ha2:a≤a0+120){M:List (Nat × Prt)}{Q:List (Nm2 × Nm2)}{R:bA}{E:Esc}(hM:MI (h.length+8) R M)(hE:∀ y∈E,y.1=h.length+4)(hP:PartsE M)(hQ:Q.length≤12)
 (env:List (Nat×AV)) (e0:aA env 0 = .ref id 0) (e2:aA env 2 = .ref (h.length+3) 0) (e3:aA env 3 = .ref (h.length+7) 0) (e6:aA env 6 = .own (h.length+(R.length+8)) Q.length 0 Q.length) :
 NW (kA X) X.gl LR ⟨env,h.set id (EA L a)++BHJ h.length M [] [] (R++[.row (some 2) (Q.map prV) 0]),E⟩ (yA [.cell 2 (some 3)] false h.length (EndQ h id L a0)):=by
 rw[PQ];simp only[EJ,e0,e2,e3,e6,go_sem];refine zn3 (K:=wA 6 _) hid (a0:=a) (by unfold uA at *;omega) (n:=R.length) (by simp [AV.top]) (by omega) (by simp) fun l a3 z l1 lD l2 l3=>?_
 simp only[go_sem];exact znx hid (by unfold uA at *;omega) (by omega) (by omega) hM.app hE hP lD.toE (by omega) _ rfl rfl rfl
theorem znz {id:Nat}(hid:id<h.length){a0 a:Int}(hp:uA 3000 a)(ha:a0≤a)(ha2:a≤a0+120){M:List (Nat × Prt)}{R:bA}{E:Esc}(hM:MI (h.length+8) R M)(hE:∀ y∈E,y.1=h.length+4)(hD:PartsD M 3)
 (env:List (Nat×AV)) (e0:aA env 0 = .ref id 0) (e2:aA env 2 = .ref (h.length+3) 0) (e3:aA env 3 = .ref (h.length+7) 0) :
 NW (kA X) X.gl SN ⟨env,h.set id (EA L a)++BHJ h.length M [] [] R,E⟩ (yA [.cell 2 (some 3)] false h.length (EndQ h id L a0)):=by
 rw[QQ];have bl:=fun(cs:List AV) (g:Nat) (jr pr:Obj) (J P:AV)=>kF (B:=h.length) (cs:=cs) (g:=g) (jr:=jr) (pr:=pr) (J:=J) (P:=P) (R:=R)
 have gl:(h.set id (EA L a)++BHJ h.length M [] [] R).length=h.length+(R.length+8):=by rw[List.length_append,List.length_set,BHJ,kF]
 have k6:=fun(K:Ex→St→Prop)=>zn2 (K:=K) (E:=E) (G:=h.set id (EA L a)++BHJ h.length M [] [] R) (v0:=.ref id 0) (v2:=.ref (h.length+3) 0) (v3:=.ref (h.length+7) 0) (B:=h.length+4) (M:=M) (by rw[gl];simp [AV.top];omega) (by rw[gl];simp [AV.top];omega) (by rw[gl];simp [AV.top];omega) hD.len (fun e he=>(hD.c e he).1) (by rw[oG];rfl) (fun e he=>by
  obtain⟨n,e1,e2⟩:=hM.rw e he;rw[e1,show h.length+8+n=h.length+(n+8) by omega,oG]
  exact e2)
 rw[gl]at k6;have q12:=zmQ hD
 simp only[FJ,e0,e2,e3,go_sem,bl,lJ,JD];simp only[BHJ,lJ,List.append_assoc,List.map_nil,List.length_nil]at k6;refine k6 (wA 2 _) fun z=>?_
 simp only[go_sem];exact zny hid hp ha ha2 hM hE hD.toE q12 _ rfl rfl rfl rfl
theorem zjL {a:Int}(hp:uA 10000 a):LF YJ [] L a fun v a2=>∃b,BrdE b∧v = .p b.pv∧a≤a2∧a2≤a+400:=by
 refine LF.of fun h id hid=>?_
 rw[zdA rfl];simp only[ZP,go_sem];simp only[show h.length+4+3=h.length+7 by omega,show h.length+4+1=h.length+5 by omega,show h.length+4+2=h.length+6 by omega]
 refine zn0 (K:=wA 0 _) hid (a0:=a) hp (J:=.own (h.length+5) 0 0 0) (P:=.own (h.length+6) 0 0 0) (jr:=.row (some 3) [] 0) (pr:=.row (some 2) [] 0) fun M R X a2 z hM hD hX h1 h2=>?_
 simp only[go_sem];exact znz hid (by unfold uA at *;omega) h1 h2 hM hX hD _ rfl rfl rfl
theorem zcW {b:Brd}(E:BrdE b):BrdOk b:=by
 refine⟨⟨by have:=E.p;omega,fun p hp=>⟨by have:=(E.e p hp).2.1;omega,fun c hc=>by have:=(E.e p hp).2.2 c hc;omega⟩⟩,⟨E.j,fun j hj=>by have:=E.n j hj;omega⟩,by have:=E.l;omega,fun p hp=>by have:=(E.e p hp).1;omega⟩
end Go.Am
end
section
/- The nets of a board's pins: the program's map. -/
open Go
set_option linter.all false
set_option maxRecDepth 100000
namespace Go.Am
variable {h:bA} {K:nA}
attribute [-go_sem] ZA kB
def OC (s:List UInt8):AV:=.p (.str s)
theorem z85 (b:Brd)(hl:b.joins.length≤100000)(ht:twJ [] b.joins=false):kA X CG [.p b.pv] h K=K (.mp (h.length+1)) (h++[qA b,BA spP OC (AC b.joins)]) []:=by
 refine IA ?_;rw[zdw rfl];have ln:(b.joins.map Jon.pv).length=b.joins.length:=List.length_map ..
 simp only[RP,Brd.pv,go_sem,ln];refine VA (fun k:Nat=>⟨[(3,.mp (h.length+1)),(8,.p (.sl (some 3) (b.joins.map Jon.pv))),(9,AI b.joins.length),(10,AI k)],h++[qA b,BA spP OC (AC (b.joins.take k))],[]⟩) (fun k=>k≤b.joins.length) (fun k=>b.joins.length-k) 0 rfl (by omega) ?_
 intro k hk;rcases Nat.lt_or_ge k b.joins.length with hlt|hge
 ·have g:=XA Jon.pv hlt
  have c1:LA (some 3) 0 b.joins[k].pv=some b.joins[k].pv:=rfl
  have w2:IntKind.i64.wrap ((k:Int)+1)=((k+1:Nat):Int):=CA _ (by omega) (by omega)
  have tk:b.joins.take (k+1)=b.joins.take k++[b.joins[k]]:=List.take_succ_eq_append_getElem hlt
  have nw:=z8X b.joins [] ht k hlt
  rw[List.nil_append]at nw;generalize hx:b.joins[k]=x at *;generalize b.joins.take k=S at *;generalize hb:qA b=bo at *;have up:=fun(hp:bA) (e:hp[h.length+1]?=some (BA spP OC (AC S)))=>JK (kk:=(some 2,[2,2])) (k:=(x.part,x.pin)) tN e uN (v:=x.net) rfl
  have u1:=fun t=>up (h++bo::BA spP OC (AC S)::t) (by simp)
  simp only[OC,spP,cond_false,WB,AV.top]at u1;have us:oB (x.part,x.pin) x.net (AC S)=AC (S++[x]):=by
   rw[cJ (zmr nw)];unfold AC;simp
  have nl0:¬h.length+1<0:=by omega
  simp only[nl0,if_false]at u1;rw[us]at u1;simp only[Jon.pv]at g c1;simp only[go_sem,hlt,g,c1,u1,w2];refine⟨k+1,?_,by omega,by omega⟩
  rw[tk]
 ·have e:k=b.joins.length:=by omega
  subst e;rw[List.take_length];simp only[go_sem,Nat.lt_irrefl];exact⟨by omega,List.take_of_length_le (by simp;omega)⟩
end Go.Am
end
section
/- What a scope leaves behind when rows made in it are named by one map. -/
open Go
set_option linter.all false
namespace Go.Am
theorem z2t (mid:Nat):∀(X:Esc) (m:Nat),(∀y∈X,y.1=mid)→mid<m→m≤YC X m∧(∀y∈X,y.2≤YC X m)∧∀B,m≤B→(∀y∈X,y.2≤B)→YC X m≤B
 | [],m,_,_=>⟨Nat.le_refl _,fun _ h=>(by cases h),fun B h _=>h⟩
 | y::r,m,hX,hm=>by
  have e:YC (y::r) m=YC r (max m y.2):=by
   unfold YC;rw[List.foldl_cons,if_pos (by rw[hX y (by simp)];exact hm)]
  obtain⟨h1,h2,h3⟩:=z2t mid r (max m y.2) (fun z hz=>hX z (by simp [hz])) (by omega)
  rw[e];refine⟨by omega,fun z hz=>?_,fun B hB hy=>h3 B (by have:=hy y (by simp);omega) fun z hz=>hy z (by simp [hz])⟩
  rcases List.mem_cons.1 hz with e|hz
  ·rw[e];omega
  ·exact h2 z hz
theorem z2T (mid:Nat):∀(k:Nat) (X:Esc) (m:Nat),(∀y∈X,y.1=mid)→mid<m→m≤VB k X m∧(k≠0→∀y∈X,y.2≤VB k X m)∧∀B,m≤B→(∀y∈X,y.2≤B)→VB k X m≤B
 | 0,X,m,_,_=>⟨Nat.le_refl _,fun h=>absurd rfl h,fun B h _=>h⟩
 | k+1,X,m,hX,hm=>by
  obtain⟨b1,b2,b3⟩:=z2t mid X m hX hm;obtain⟨c1,_,c3⟩:=z2T mid k X (YC X m) hX (by omega)
  show m≤VB k X (YC X m)∧(_→∀y∈X,y.2≤VB k X (YC X m))∧∀B,m≤B→(∀y∈X,y.2≤B)→VB k X (YC X m)≤B
  exact⟨by omega,fun _ y hy=>by have:=b2 y hy;omega,fun B hB hy=>c3 B (b3 B hB hy) hy⟩
theorem z2U {X:Esc}{mid b L:Nat}(hX:∀ y∈X,y.1=mid∧y.2≤L)(hm:mid<b)(hb:b≤L):∃n,VB X.length X b=n∧b≤n∧n≤L∧(∀y∈X,y.2≤n)∧fC X n=true∧X.filter (fun y=>decide (y.1<n))=X:=by
 obtain⟨c1,c2,c3⟩:=z2T mid X.length X b (fun y hy=>(hX y hy).1) hm
 have c3':=c3 L hb fun y hy=>(hX y hy).2
 have c2':∀y∈X,y.2≤VB X.length X b:=by
  cases X with
  | nil=>intro y hy;cases hy
  | cons z r=>exact c2 (by simp)
 refine⟨_,rfl,c1,c3',c2',?_,?_⟩
 ·unfold fC
  rw[List.all_eq_true];intro y hy;have:=c2' y hy;simp [this]
 ·rw[List.filter_eq_self]
  intro y hy;have:=(hX y hy).1;simp only[decide_eq_true_eq];omega
theorem z8U {X x0:Esc}{mid b:Nat}{e:List (Nat × AV)}{H:bA}(hX:∀ y∈X,y.1=mid∧y.2≤H.length)(hm:mid<b)(hb:b≤H.length):∃n,b≤n∧n≤H.length∧(∀y∈X,y.2≤n)∧ZD b x0 ⟨e,H,X⟩=⟨oF n e,H.take n,X++x0⟩:=by
 obtain⟨n,c0,c1,c2,c3,c4,c5⟩:=z2U hX hm hb;refine⟨n,c1,c2,c3,?_⟩;unfold ZD;dsimp only;rw[c0,c4,if_pos rfl,c5]
theorem zno {X:Esc}{mid b:Nat}{P:nA}{H:bA}(hX:∀ y∈X,y.1=mid∧y.2≤H.length)(hb:b≤mid)(hH:mid<H.length):∃n,mid<n∧n≤H.length∧(∀y∈X,y.2≤n)∧zD false b P (some [.mp mid]) H X=P (.mp mid) (H.take n) X:=by
 have ht:(AV.mp mid).top=mid+1:=rfl
 have hmx:max b (mid+1)=mid+1:=by omega
 obtain⟨n,c0,c1,c2,c3,c4,c5⟩:=z2U (b:=mid+1) hX (by omega) (by omega)
 refine⟨n,by omega,c2,c3,?_⟩
 have e:iB b H (rB [.mp mid])=some (.mp mid):=jO
 have e2:iB n H (rB [.mp mid])=some (.mp mid):=jO
 unfold zD;dsimp only;rw[e];dsimp only;rw[ht,hmx,c0,c4,if_pos rfl,e2];dsimp only;rw[c5];have:(mid+1≤n)=True:=eq_true c1
 rw[ht,this,true_and]
end Go.Am
end
section
/- The cells of a kind on each net: the program's map. -/
open Go
set_option linter.all false
set_option maxRecDepth 100000
namespace Go.Am
variable {h:bA} {K:nA}
attribute [-go_sem] ZA kB
def plP (p:Nat × Nat):PV:=.agg [eI p.1,eI p.2]
def pE (v:Nat × List (Nat × Nat)):AV:=.own v.1 v.2.length 0 v.2.length
structure CMI (H:bA) (lo mid:Nat) (M:CM):Prop where
 lo:lo≤mid
 hi:mid<H.length
 mp:H[mid]?=some (BA PV.str pE M)
 rw:∀e∈M,mid<e.2.1∧H[e.2.1]?=some (.row (some 2) (e.2.2.map plP) 0)
 nd:(M.map fun e=>e.2.1).Nodup
 kn:(zB M).Nodup
theorem CMI.take {H:bA}{lo mid n:Nat}{M:CM}(C:CMI H lo mid M)(hm:mid<n)(hr:∀ e∈M,e.2.1<n):CMI (H.take n) lo mid M:=by
 refine⟨C.lo,by rw[List.length_take];have:=C.hi;omega,by rw[List.getElem?_take_of_lt hm];exact C.mp,fun e he=>⟨(C.rw e he).1,by rw[List.getElem?_take_of_lt (hr e he)];exact(C.rw e he).2⟩,C.nd,C.kn⟩
theorem CMI.app {H T:bA}{lo mid:Nat}{M:CM}(C:CMI H lo mid M):CMI (H++T) lo mid M:=by
 refine⟨C.lo,by simp;have:=C.hi;omega,by rw[List.getElem?_append_left C.hi];exact C.mp,fun e he=>⟨(C.rw e he).1,?_⟩,C.nd,C.kn⟩
 have:=JB (C.rw e he).2;rw[List.getElem?_append_left this];exact(C.rw e he).2
theorem HK {n:Nm2}:∀{M:CM} {v:Nat×List (Nat×Nat)},zA n M=some v→(n,v)∈M
 | [],v,h=>by cases h
 | e::r,v,h=>by
  unfold zA at h;by_cases he:n=e.1
  ·rw[if_pos he]at h
   cases h;rw[he];simp
  ·rw[if_neg he]at h
   exact List.mem_cons_of_mem _ (HK h)
theorem GZ {n:Nm2}{v:Nat × List (Nat × Nat)}{M:CM}(h:zA n M=none):oB n v M=M++[(n,v)]:=by
 refine cJ ?_;have:=WS (k:=n) (l:=M);rw[h]at this;simpa using this
theorem z9c {n:Nm2}{rid:Nat}{pl pl':List (Nat × Nat)}:∀{M:CM},zA n M=some (rid,pl)→(oB n (rid,pl') M).map (fun e=>e.2.1)=M.map fun e=>e.2.1
 | [],h=>by cases h
 | x::r,h=>by
  unfold zA at h;unfold oB;by_cases hx:n=x.1
  ·rw[if_pos hx]at h ⊢
   have:x.2=(rid,pl):=Option.some.inj h
   rw[List.map_cons,List.map_cons,this]
  ·rw[if_neg hx]at h ⊢
   rw[List.map_cons,List.map_cons,z9c h]
theorem SS {n:Nm2}{rid:Nat}{pl pl':List (Nat × Nat)}:∀{M:CM},zA n M=some (rid,pl)→(M.map fun e=>e.2.1).Nodup→∀e∈oB n (rid,pl') M,e=(n,(rid,pl'))∨(e∈M∧e.2.1≠rid)
 | [],h,_,e,_=>by cases h
 | x::r,h,nd,e,he=>by
  unfold zA at h;unfold oB at he;rw[List.map_cons,List.nodup_cons]at nd;by_cases hx:n=x.1
  ·rw[if_pos hx]at h he
   have hx2:x.2=(rid,pl):=Option.some.inj h
   rcases List.mem_cons.1 he with q|q
   ·exact .inl q
   ·refine .inr ⟨List.mem_cons_of_mem _ q,fun z=>nd.1 ?_⟩
    rw[hx2];exact List.mem_map.2 ⟨e,q,z⟩
  ·rw[if_neg hx]at h he
   rcases List.mem_cons.1 he with q|q
   ·refine .inr ⟨by rw[q];simp,fun z=>nd.1 ?_⟩
    rw[q]at z;exact List.mem_map.2 ⟨_,HK h,z.symm⟩
   ·rcases SS h nd.2 e q with q|⟨q1,q2⟩
    ·exact .inl q
    ·exact .inr ⟨List.mem_cons_of_mem _ q1,q2⟩
theorem CMI.old {H:bA}{lo mid rid:Nat}{M:CM}{n:Nm2}{pl:List (Nat × Nat)}{p:Nat × Nat}(C:CMI H lo mid M)(hg:zA n M=some (rid,pl)):CMI ((H.set rid (.row (some 2) ((pl++[p]).map plP) 0)).set mid (BA PV.str pE (oB n (rid,pl++[p]) M))) lo mid (oB n (rid,pl++[p]) M):=by
 have hm:=HK hg
 obtain⟨r1,r2⟩:=C.rw _ hm;have rl:=JB r2
 dsimp only at r1 r2 rl;have mh:=C.hi
 refine⟨C.lo,by simpa using C.hi,by rw[List.getElem?_set_self (by simpa using mh)],fun e he=>?_,by rw[z9c hg];exact C.nd,lX _ _ C.kn⟩
 rcases SS hg C.nd e he with q|⟨q1,q2⟩
 ·subst q
  dsimp only;refine⟨r1,?_⟩;rw[List.getElem?_set_ne (by omega),List.getElem?_set_self rl]
 ·obtain⟨e1,e2⟩:=C.rw e q1
  refine⟨e1,?_⟩;rw[List.getElem?_set_ne (by omega),List.getElem?_set_ne (by omega)]
  exact e2
theorem CMI.new {H:bA}{lo mid:Nat}{M:CM}{n:Nm2}{p:Nat × Nat}{o:Obj}(C:CMI H lo mid M)(hg:zA n M=none):CMI ((H++[o,.row (some 2) [plP p] 0]).set mid (BA PV.str pE (oB n (H.length+1,[p]) M))) lo mid (oB n (H.length+1,[p]) M):=by
 have mh:=C.hi
 rw[GZ hg];refine⟨C.lo,by simp;omega,by rw[List.getElem?_set_self (by simp;omega)],fun e he=>?_,?_,by rw[←GZ hg];exact lX _ _ C.kn⟩
 ·rcases List.mem_append.1 he with q|q
  ·obtain⟨e1,e2⟩:=C.rw e q
   have:=JB e2;refine⟨e1,?_⟩;rw[List.getElem?_set_ne (by omega),List.getElem?_append_left this]
   exact e2
  ·rw[List.mem_singleton]at q
   subst q;dsimp only;refine⟨by omega,?_⟩
   rw[List.getElem?_set_ne (by omega),List.getElem?_append_right (by omega)]
   simp
 ·rw[List.map_append,List.nodup_append]
  refine⟨C.nd,by simp,fun a ha b hb=>?_⟩
  obtain⟨e,he,rfl⟩:=List.mem_map.1 ha;have:=JB (C.rw e he).2;simp at hb;omega
attribute [-go_sem] z5u LP
structure CelSt (b:Brd) (kind:Int) (lo nid mid xb:Nat) (p:Prt) (Xo:Esc) (H:bA) (X:Esc) (M:CM) (P:List (Nm2 × (Nat × Nat))):Prop where
 c:CMI H lo mid M
 g:eJ M P
 nt:H[nid]?=some (BA spP OC (AC b.joins))
 nm:nid<mid
 x:H[xb]?=some p.bx
 mx:mid<xb
 es:∀y∈X,y.1=mid∧y.2≤H.length
 cv:∀e∈M,(mid,e.2.1+1)∈Xo∨(mid,e.2.1+1)∈X
theorem bR (P:List (Nm2 × (Nat × Nat)))(n:Nm2):(grp P n).length≤P.length:=by
 unfold grp;rw[List.length_map];exact List.length_filter_le ..
theorem bX (b:Brd)(kind:Int)(i:Nat)(p:Prt)(k:Nat):(inL b kind i p k).length≤p.cells.length:=by
 unfold inL;refine Nat.le_trans (List.length_filterMap_le ..) ?_;simp;omega
theorem z2F {b:Brd}{kind:Int}{lo nid mid xb w:Nat}{p:Prt}{Xo:Esc}{H H':bA}{X:Esc}{M M':CM}{P P':List (Nm2 × (Nat × Nat))}{e:List (Nat × AV)}(C:CelSt b kind lo nid mid xb p Xo H X M P)(C':CMI H' lo mid M')(G:eJ M' P')(hl:H.length≤H'.length)
 (pn:H'[nid]?=H[nid]?) (px:H'[xb]?=H[xb]?) (hw:w≤H'.length) (cv:∀e∈M',(mid,e.2.1+1)∈Xo∨(mid,e.2.1+1)∈[(mid,w)]++X) (rl:∀e∈M',e.2.1<H.length∨e.2.1<w) (hc:∀n,H.length≤n→oF n e=e) :
 ∃n,ZD H.length X ⟨e,H',[(mid,w)]⟩=⟨e,H'.take n,[(mid,w)]++X⟩∧CelSt b kind lo nid mid xb p Xo (H'.take n) ([(mid,w)]++X) M' P'∧H.length≤(H'.take n).length∧∀j,j<lo→(H'.take n)[j]?=H'[j]?:=by
 have m1:mid<H.length:=C.c.hi
 have x1:=JB C.x
 have n1:=JB C.nt
 have lo1:=C.c.lo
 obtain⟨n,t1,t2,t3,t4⟩:=z8U (X:=[(mid,w)]) (x0:=X) (mid:=mid) (b:=H.length) (e:=e) (H:=H') (by
  intro y hy;rw[List.mem_singleton]at hy;subst hy;exact⟨rfl,hw⟩) (by omega) hl
 have wn:w≤n:=t3 (mid,w) (by simp)
 have ln:(H'.take n).length=n:=by rw[List.length_take];omega
 refine⟨n,by rw[t4,hc n t1],⟨C'.take (by omega) fun e he=>by rcases rl e he with q|q <;> omega,G,by rw[List.getElem?_take_of_lt (by omega),pn];exact C.nt,C.nm,by rw[List.getElem?_take_of_lt (by omega),px];exact C.x,C.mx,?_,cv⟩,by omega,fun j hj=>List.getElem?_take_of_lt (by omega)⟩
 intro y hy;rw[List.mem_append,List.mem_singleton]at hy;rw[ln];rcases hy with q|q
 ·subst q;exact⟨rfl,wn⟩
 ·have:=C.es y q;exact⟨this.1,by omega⟩
theorem zoe {K:Ex→St→Prop}(b:Brd)(kind:Int){lo nid mid xb i:Nat}{p:Prt}{Xo:Esc}{H0:bA}{X0:Esc}{M0:CM}{P0:List (Nm2 × (Nat × Nat))}(hp:p.cells.length≤100000)(hi:i≤1000000)(hP:P0.length+p.cells.length≤1000000)
 (C0:CelSt b kind lo nid mid xb p Xo H0 X0 M0 P0)
 (fin:∀H X M z,CelSt b kind lo nid mid xb p Xo H X M (P0++inL b kind i p p.cells.length)→H0.length≤H.length→(∀j,j<lo→H[j]?=H0[j]?)→K (.exit 2) ⟨[(1,AI kind),(5,.mp nid),(6,.mp mid),(7,AI i),(8,.ref xb 0),(17,aC b.parts),(18,AI b.parts.length),(19,AI i),(25,qC p.cells),(26,AI p.cells.length),(27,AI p.cells.length),z],H,X⟩) :
 GA (kA X) X.gl (.scope XK) K [(1,AI kind),(5,.mp nid),(6,.mp mid),(7,AI i),(8,.ref xb 0),(17,aC b.parts),(18,AI b.parts.length),(19,AI i),(25,qC p.cells),(26,AI p.cells.length),(27,AI 0)] H0 X0:=by
 refine VA (fun t:Nat×bA×Esc×CM=>⟨[(1,AI kind),(5,.mp nid),(6,.mp mid),(7,AI i),(8,.ref xb 0),(17,aC b.parts),(18,AI b.parts.length),(19,AI i),(25,qC p.cells),(26,AI p.cells.length),(27,AI t.1)],t.2.1,t.2.2.1⟩)
  (fun t=>t.1≤p.cells.length∧CelSt b kind lo nid mid xb p Xo t.2.1 t.2.2.1 t.2.2.2 (P0++inL b kind i p t.1)∧H0.length≤t.2.1.length∧∀j,j<lo→t.2.1[j]?=H0[j]?) (fun t=>p.cells.length-t.1) (0,H0,X0,M0) rfl ⟨by omega,by simpa [inL] using C0,Nat.le_refl _,fun _ _=>rfl⟩ ?_
 rintro⟨k,H,X,M⟩ ⟨hk,C,hl,hpre⟩
 dsimp only at hk C hl hpre ⊢;have ln:(p.cells.map Cel.pv).length=p.cells.length:=List.length_map ..
 have n1:nid+1≤H.length:=JB C.nt
 have m1:mid+1≤H.length:=C.c.hi
 have x1:xb+1≤H.length:=JB C.x
 have gx:=C.x
 unfold Prt.bx at gx;have xa:∀t,(H++t)[xb]?=some (.box [AS p.key,qC p.cells]):=fun t=>by rw[List.getElem?_append_left (by omega)];exact gx
 rcases Nat.lt_or_ge k p.cells.length with hlt|hge
 ·have g:=XA Cel.pv hlt
  have c1:LA (some 4) 0 p.cells[k].pv=some p.cells[k].pv:=rfl
  have w2:IntKind.i64.wrap ((k:Int)+1)=((k+1:Nat):Int):=CA _ (by omega) (by omega)
  have is:=z6D (b:=b) (kind:=kind) (i:=i) hlt
  generalize hc:p.cells[k]=c at *;simp only[Cel.pv,eI]at g c1;by_cases hkind:c.kind=kind
  ·have hkp:=eq_true hkind
   have ntx:∀T:bA,(H++T)[nid]?=some (BA spP OC (AC b.joins)):=fun T=>by
    rw[List.getElem?_append_left (show nid<H.length by omega)];exact C.nt
   have lkN:=fun(T:bA)=>iG (h:=H++T) (kk:=(some 2,[2,2])) (k:=(p.key,c.pin)) (val:=OC) tN (ntx T) uN (ok:=true) (z:=.p (.str []))
   simp only[ZQ,spP,cond_true]at lkN;have lkC:=fun(T:bA) (n:Nm2)=>iG (h:=H++T) (kk:=(none,[2])) (k:=n) (val:=pE) IG (C.c.app (T:=T)).mp JG (ok:=false) (z:=.sl0 (some 2))
   simp only[cond_false]at lkC;have cO:wG b kind i p.key (c,k)=(yD b p.key c.pin).map fun n=>(n,(i,k)):=by unfold wG;rw[if_pos hkind]
   cases hn:yD b p.key c.pin with
   | none=>
    rw[hn]at cO;unfold yD at hn;rw[hn]at lkN;simp only[go_sem,hlt,g,c1,w2,hkp,xa,lkN,Option.isSome_none,n1,m1,x1];refine⟨(k+1,H,X,M),rfl,⟨hlt,?_,hl,hpre⟩,by dsimp only;omega⟩
    dsimp only;rw[is,cO];simpa using C
   | some n=>
    rw[hn]at cO;unfold yD at hn;rw[hn]at lkN;have is':P0++inL b kind i p (k+1)=(P0++inL b kind i p k)++[(n,(i,k))]:=by rw[is,cO];simp
    cases hgm:zA n M with
    | some v=>
     obtain⟨rid,pl⟩:=v;have lkC':=fun T=>lkC T n
     rw[hgm]at lkC';simp only[Option.map_some,Option.getD_some,pE]at lkC';have rr:=(C.c.rw _ (HK hgm)).2
     have rm:=(C.c.rw _ (HK hgm)).1
     dsimp only at rr rm;have rl:=JB rr
     have rr':∀T:bA,(H++T)[rid]?=some (.row (some 2) (pl.map plP) 0):=fun T=>by
      rw[List.getElem?_append_left (show rid<H.length by omega)];exact rr
     simp only[go_sem,hlt,g,c1,w2,hkp,xa,lkN,lkC',rr',OC,Option.map_some,Option.getD_some,Option.isSome_some,n1,m1,x1];have e1:AV.own rid (pl.length+1) 0 (pl.length+1)=pE (rid,pl++[(i,k)]):=by simp [pE]
     have e2:List.map plP pl++[PV.agg [PV.int IntKind.i64 ↑i,PV.int IntKind.i64 ↑k]]=(pl++[(i,k)]).map plP:=by simp [plP,eI]
     have pb:pl.length+1≤WA:=by
      have gq:=C.g n
      rw[hgm]at gq;have:pl.length≤(P0++inL b kind i p k).length:=by
       by_cases hz:grp (P0++inL b kind i p k) n=[]
       ·rw[if_pos hz]at gq;simp at gq
       ·rw[if_neg hz]at gq
        simp only[Option.map_some,Option.some.injEq]at gq;rw[gq];exact bR _ _
      have:=bX b kind i p k;unfold WA;simp at *;omega
     have gp:grp (P0++inL b kind i p k) n=pl:=by
      have gq:=C.g n
      rw[hgm]at gq;by_cases hz:grp (P0++inL b kind i p k) n=[]
      ·rw[if_pos hz]at gq;simp at gq
      ·rw[if_neg hz]at gq
       simp only[Option.map_some,Option.some.injEq]at gq;exact gq.symm
     rw[if_pos pb,e1,e2];generalize hbx:Obj.box _=bo;have up:=fun(T:bA)=>JK (kk:=(none,[2])) (k:=n) (h:=(H++T).set rid (.row (some 2) ((pl++[(i,k)]).map plP) 0)) (id:=mid) (val:=pE) IG (by rw[List.getElem?_set_ne (show rid≠mid by omega)];exact(C.c.app (T:=T)).mp) JG (v:=(rid,pl++[(i,k)])) rfl
     rw[up];have et:WB mid (pE (rid,pl++[(i,k)]))=[(mid,rid+1)]:=by
      unfold WB;exact if_pos (show mid<rid+1 by omega)
     rw[et];simp only[wK];have CO:=C.c.old (p:=(i,k)) hgm
     have CO':=CMI.old (p:=(i,k)) (C.c.app (T:=[bo])) hgm
     obtain⟨n',q1,q2,q3,q4⟩:=z2F (w:=rid+1) (P':=P0++inL b kind i p (k+1)) (e:=[(1,AI kind),(5,.mp nid),(6,.mp mid),(7,AI i),(8,.ref xb 0),(17,aC b.parts),(18,AI b.parts.length),(19,AI i),(25,qC p.cells),(26,AI p.cells.length),(27,AI ↑(k+1))]) C CO' (by rw[is',←gp];exact z6C C.g n rid (i,k)) (by simp) 
      (by
       have:=C.nm;rw[List.getElem?_set_ne (by omega),List.getElem?_set_ne (by omega),List.getElem?_append_left (by omega)])
      (by
       have:=C.mx;have rx:rid≠xb:=fun e=>by rw[e,gx]at rr;cases rr
       rw[List.getElem?_set_ne (by omega),List.getElem?_set_ne rx,List.getElem?_append_left (by omega)])
      (by simp;omega)
      (fun e he=>by
       rcases SS hgm C.c.nd e he with q|⟨q,_⟩
       ·subst q;exact .inr (by simp)
       ·rcases C.cv e q with z|z
        ·exact .inl z
        ·exact .inr (by simp [z]))
      (fun e he=>by
       rcases SS hgm C.c.nd e he with q|⟨q,_⟩
       ·subst q;exact .inl rl
       ·exact .inl (JB (C.c.rw e q).2))
      (fun m hm=>by
       have a1:nid+1≤m:=by omega
       have a2:mid+1≤m:=by omega
       have a3:xb+1≤m:=by omega
       simp only[go_sem,a1,a2,a3])
     refine⟨(k+1,_,_,_),q1,⟨hlt,q2,by dsimp only;omega,fun j hj=>?_⟩,by dsimp only;omega⟩
     dsimp only;have lo1:=C.c.lo
     rw[q4 j hj,List.getElem?_set_ne (by omega),List.getElem?_set_ne (by omega),List.getElem?_append_left (by omega),hpre j hj]
    | none=>
     have lkC':=fun T=>lkC T n
     rw[hgm]at lkC';simp only[Option.map_none,Option.getD_none]at lkC';simp only[go_sem,hlt,g,c1,w2,hkp,xa,lkN,lkC',OC,Option.map_some,Option.getD_some,Option.isSome_some,n1,m1,x1];have e1:AV.own (List.length H+1) 1 0 1=pE (H.length+1,[(i,k)]):=rfl
     have e2:[PV.agg [PV.int IntKind.i64 ↑i,PV.int IntKind.i64 ↑k]]=[plP (i,k)]:=rfl
     have gp:grp (P0++inL b kind i p k) n=[]:=by
      have gq:=C.g n
      rw[hgm]at gq;by_cases hz:grp (P0++inL b kind i p k) n=[]
      ·exact hz
      ·rw[if_neg hz]at gq;simp at gq
     rw[if_pos (by decide),e1,e2]
     generalize hbx:Obj.box _=bo;have up:=JK (kk:=(none,[2])) (k:=n) (h:=H++[bo,.row (some 2) [plP (i,k)] 0]) (id:=mid) (val:=pE) IG (C.c.app (T:=_)).mp JG (v:=(H.length+1,[(i,k)])) rfl
     rw[up];have et:WB mid (pE (H.length+1,[(i,k)]))=[(mid,H.length+2)]:=by
      unfold WB;exact if_pos (show mid<H.length+2 by omega)
     rw[et];simp only[wK];have CO':=CMI.new (p:=(i,k)) (o:=bo) C.c hgm
     have nu:=GZ (v:=(H.length+1,[(i,k)])) hgm
     have nm':∀e∈oB n (H.length+1,[(i,k)]) M,e=(n,(H.length+1,[(i,k)]))∨e∈M:=fun e he=>by
      rw[nu,List.mem_append,List.mem_singleton]at he;exact he.symm
     obtain⟨n',q1,q2,q3,q4⟩:=z2F (w:=H.length+2) (P':=P0++inL b kind i p (k+1)) (e:=[(1,AI kind),(5,.mp nid),(6,.mp mid),(7,AI i),(8,.ref xb 0),(17,aC b.parts),(18,AI b.parts.length),(19,AI i),(25,qC p.cells),(26,AI p.cells.length),(27,AI ↑(k+1))]) C CO' (by
      rw[is'];have:=z6C C.g n (H.length+1) (i,k);rw[gp]at this;exact this) (by simp)
      (by
       have:=C.nm;rw[List.getElem?_set_ne (by omega),List.getElem?_append_left (by omega)])
      (by
       have:=C.mx;rw[List.getElem?_set_ne (by omega),List.getElem?_append_left (by omega)])
      (by simp)
      (fun e he=>by
       rcases nm' e he with q|q
       ·subst q;exact .inr (by simp)
       ·rcases C.cv e q with z|z
        ·exact .inl z
        ·exact .inr (by simp [z]))
      (fun e he=>by
       rcases nm' e he with q|q
       ·subst q;exact .inr (by simp)
       ·exact .inl (JB (C.c.rw e q).2))
      (fun m hm=>by
       have a1:nid+1≤m:=by omega
       have a2:mid+1≤m:=by omega
       have a3:xb+1≤m:=by omega
       simp only[go_sem,a1,a2,a3])
     refine⟨(k+1,_,_,_),q1,⟨hlt,q2,by dsimp only;omega,fun j hj=>?_⟩,by dsimp only;omega⟩
     dsimp only;have lo1:=C.c.lo
     rw[q4 j hj,List.getElem?_set_ne (by omega),List.getElem?_append_left (by omega),hpre j hj]
  ·have cO:wG b kind i p.key (c,k)=none:=by unfold wG;rw[if_neg hkind]
   simp only[go_sem,hlt,g,c1,w2,hkind,n1,m1,x1];refine⟨(k+1,H,X,M),rfl,⟨hlt,?_,hl,hpre⟩,by dsimp only;omega⟩
   dsimp only;rw[is,cO];simpa using C
 ·have e:k=p.cells.length:=by omega
  subst e;simp only[go_sem,Nat.lt_irrefl,n1,m1,x1];exact fin H X M _ C hl hpre
end Go.Am
end
section
/- The cells of a kind on each net: the program's map,over all parts. -/
open Go
set_option linter.all false
set_option maxRecDepth 100000
namespace Go.Am
variable {h:bA} {K:nA}
structure CelO (b:Brd) (kind:Int) (lo nid mid:Nat) (H:bA) (X:Esc) (M:CM) (P:List (Nm2 × (Nat × Nat))):Prop where
 c:CMI H lo mid M
 g:eJ M P
 nt:H[nid]?=some (BA spP OC (AC b.joins))
 nm:nid<mid
 es:∀y∈X,y.1=mid∧y.2≤H.length
 cv:∀e∈M,(mid,e.2.1+1)∈X
theorem DN (b:Brd)(kind:Int):∀(i:Nat),i≤b.parts.length→(∀p∈b.parts,p.cells.length≤1000)→(EB b kind i).length≤i*1000
 | 0,_,_=>by simp [EB]
 | i+1,h,hc=>by
  have ih:=DN b kind i (by omega) hc
  rw[sR (by omega),List.length_append]
  have:=bX b kind i b.parts[i] b.parts[i].cells.length;have:=hc _ (List.getElem_mem (show i<b.parts.length by omega))
  omega
theorem znZ (b:Brd)(kind:Int)(hp:b.parts.length≤900)(hc:∀ p∈b.parts,p.cells.length≤1000)(hj:b.joins.length≤100000)(ht:twJ [] b.joins=false)
 (hK:∀H X M mid,CMI H h.length mid M→eJ M (EB b kind b.parts.length)→h.length≤mid→(∀j,j<h.length→H[j]?=h[j]?)→(∀y∈X,y.1=mid∧y.2≤H.length)→K (.mp mid) H X) :
 kA X sH [.p b.pv,AI kind] h K:=by
 rw[zdn rfl];have ln:(b.parts.map Prt.pv).length=b.parts.length:=List.length_map ..
 have sn:=fun hh K=>z85 (h:=hh) (K:=K) b hj ht
 simp only[Brd.pv]at sn;simp only[KP,Brd.pv,go_sem,sn,ln];have C0:CelO b kind h.length (h.length+1+1) (h.length+3) (h++[qA b,qA b,BA spP OC (AC b.joins),Obj.amap [] 0]) [] [] []:=by
  refine⟨⟨by omega,by simp,by simp [BA,JC],by simp,by simp,List.nodup_nil⟩,fun n=>by simp [zA,grp],by rw[List.getElem?_append_right (by omega),show h.length+1+1-h.length=2 by omega];rfl,by omega,by simp,by simp⟩
 have pre0:∀j,j<h.length→(h++[qA b,qA b,BA spP OC (AC b.joins),Obj.amap [] 0])[j]?=h[j]?:=fun j hj=>List.getElem?_append_left hj
 have e0:Obj.box [AV.p (PV.sl (some 2) (List.map Prt.pv b.parts)),AV.p (PV.sl (some 3) (List.map Jon.pv b.joins)),AV.p (PV.sl (some 2) (List.map Pul.pv b.pulls))]=qA b:=rfl
 rw[e0];have lm:h.length≤h.length+3:=by omega
 generalize h.length+1+1=nid at *;generalize h.length+3=mid at *;generalize (h++[qA b,qA b,BA spP OC (AC b.joins),Obj.amap [] 0])=H0 at *;refine VA (fun t:Nat×bA×Esc×CM=>⟨[(1,AI kind),(5,.mp nid),(6,.mp mid),(17,aC b.parts),(18,AI b.parts.length),(19,AI t.1)],t.2.1,t.2.2.1⟩)
  (fun t=>t.1≤b.parts.length∧CelO b kind h.length nid mid t.2.1 t.2.2.1 t.2.2.2 (EB b kind t.1)∧∀j,j<h.length→t.2.1[j]?=h[j]?) (fun t=>b.parts.length-t.1) (0,H0,[],[]) rfl ⟨by omega,by simpa [EB] using C0,pre0⟩ ?_
 rintro⟨k,H,X,M⟩ ⟨hk,C,hpre⟩
 dsimp only at hk C hpre ⊢;have n1:nid+1≤H.length:=JB C.nt
 have m1:mid+1≤H.length:=C.c.hi
 rcases Nat.lt_or_ge k b.parts.length with hlt|hge
 ·have g:=XA Prt.pv hlt
  have c1:LA (some 2) 0 b.parts[k].pv=some b.parts[k].pv:=rfl
  have w2:IntKind.i64.wrap ((k:Int)+1)=((k+1:Nat):Int):=CA _ (by omega) (by omega)
  have os:=sR (b:=b) (kind:=kind) hlt
  have pc:=hc _ (List.getElem_mem hlt)
  generalize hp:b.parts[k]=p at *;simp only[Prt.pv]at g c1;have lp:(p.cells.map Cel.pv).length=p.cells.length:=List.length_map ..
  simp only[go_sem,hlt,g,c1,w2,lp];refine zoe (K:=wA 2 _) b kind (lo:=h.length) (nid:=nid) (mid:=mid) (xb:=H.length) (i:=k) (p:=p) (Xo:=X) (X0:=[]) (M0:=M) (P0:=EB b kind k) (by omega) (by omega) ?_ ⟨C.c.app,C.g,by rw[List.getElem?_append_left (by omega)];exact C.nt,C.nm,by rw[List.getElem?_append_right (Nat.le_refl _),Nat.sub_self];rfl,by omega,by simp,fun e he=>.inl (C.cv e he)⟩ ?_
  ·have:=DN b kind k (by omega) hc
   have:k*1000≤900*1000:=Nat.mul_le_mul (by omega) (Nat.le_refl _)
   omega
  intro H' X' M' z D hl hq;simp only[List.length_append,List.length_cons,List.length_nil]at hl;rw[←os]at D;simp only[go_sem,w2];have lo1:=C.c.lo
  obtain⟨n,t1,t2,t3,t4⟩:=z8U (X:=X') (x0:=X) (mid:=mid) (b:=H.length) (e:=[(1,AI kind),(5,.mp nid),(6,.mp mid),(17,aC b.parts),(18,AI b.parts.length),(19,AI ↑(k+1))]) (H:=H') D.es (by omega) (by omega)
  have ln':(H'.take n).length=n:=by rw[List.length_take];omega
  have a1:nid+1≤n:=by omega
  have a2:mid+1≤n:=by omega
  refine⟨(k+1,H'.take n,X'++X,M'),?_,⟨hlt,⟨D.c.take (by omega) ?_,D.g,by rw[List.getElem?_take_of_lt (by omega)];exact D.nt,C.nm,?_,?_⟩,?_⟩,by dsimp only;omega⟩
  ·refine t4.trans ?_
   simp only[go_sem,a1,a2]
  ·intro e he
   rcases D.cv e he with q|q
   ·have:=(C.es _ q).2;dsimp only at this;omega
   ·have:=t3 _ q;dsimp only at this;omega
  ·intro y hy
   rw[ln'];rcases List.mem_append.1 hy with q|q
   ·exact⟨(D.es y q).1,t3 y q⟩
   ·have:=C.es y q;exact⟨this.1,by omega⟩
  ·intro e he
   rcases D.cv e he with q|q
   ·exact List.mem_append_right _ q
   ·exact List.mem_append_left _ q
  ·intro j hj
   dsimp only;rw[List.getElem?_take_of_lt (by omega),hq j hj,List.getElem?_append_left (by omega),hpre j hj]
 ·have e:k=b.parts.length:=by omega
  subst e;simp only[go_sem,Nat.lt_irrefl,n1,m1];obtain⟨n,t1,t2,t3,t4⟩:=zno (X:=X) (mid:=mid) (b:=h.length) (P:=K) (H:=H) C.es lm C.c.hi;rw[t4];have lo1:=C.c.lo
  have ln':(H.take n).length=n:=by rw[List.length_take];omega
  refine hK _ X M mid (C.c.take t1 ?_) C.g lm ?_ ?_
  ·intro e he
   have:=t3 _ (C.cv e he);dsimp only at this;omega
  ·intro j hj
   rw[List.getElem?_take_of_lt (by omega),hpre j hj]
  ·intro y hy
   rw[ln'];exact⟨(C.es y hy).1,t3 y hy⟩
end Go.Am
end
section
/- The levels of nets: the program's map. -/
open Go
set_option linter.all false
set_option maxRecDepth 100000
namespace Go.Am
variable {h:bA} {K:nA}
attribute [-go_sem] ZA kB wB uB
def RA (n:Int):AV:=.p (.int .i64 n)
def H4 (h:bA)(b:Brd)(xs:List PV)(M:List (Nm2 × Int)):bA:=h++[qA b,BA PV.str RA M,qA b,.row none xs 0]
structure BitsOk (b:Brd) (bits:List Nm2):Prop where
 n:bits.length=b.parts.length
 l:∀i (hi:i<b.parts.length),∃s,bits[i]?=some s∧s.length=b.parts[i].cells.length∧∀z∈s,z=48∨z=49
 c:∀p∈b.parts,∀c∈p.cells,c.ctl<p.cells.length
abbrev xB (bits:List Nm2):AV:=.p (.sl none (bits.map PV.str))
attribute [-go_sem] LQ BJ
def XD (n:Nm2)(M:List (Nm2 × Int)):Option Int→List (Nm2×Int)
 | none=>M
 | some v=>oB n v M
theorem NU {z:UInt8}(h:z=48∨z=49):IntKind.u8.wrap ((z.toNat:Int)-48)=bz z:=by rcases h with rfl|rfl <;> rfl
theorem MU (z:UInt8):IntKind.i64.wrap (bz z)=bz z:=by unfold bz;split <;> rfl
theorem z9d {β:Type}(n:Nm2)(v w:β):∀M:List (Nm2×β),oB n w (oB n v M)=oB n w M
 | []=>by simp [oB]
 | e::r=>by
  by_cases h:n=e.1
  ·simp [oB,h]
  ·simp [oB,h,z9d n v w r]
theorem zos {K:Ex→St→Prop}(b:Brd)(bits:List Nm2)(ho:BitsOk b bits){H:bA}{T:Obj}{rid:Nat}{pl:List (Nat × Nat)}{n:Nm2}{M:List (Nm2 × Int)}{X0:Esc}
 (hpl:∀p∈pl,∃(hp:p.1<b.parts.length),p.2<b.parts[p.1].cells.length) (hlen:pl.length≤1000000)
 (hB:H[h.length]?=some (qA b)) (h1:h.length+1<rid) (hR:H[rid]?=some (.row (some 2) (pl.map plP) 0))
 (fin:∀z,K (.exit 6) ⟨[(1,xB bits),(2,.ref h.length 0),(5,.mp (h.length+1)),(10,AS n),(12,AB (FC b bits pl).isSome),(44,.it H.length),(50,.own rid pl.length 0 pl.length),(51,AI pl.length),(52,AI pl.length),z],H.set (h.length+1) (BA PV.str RA (XD n M (FC b bits pl)))++[T],X0⟩) :
 GA (kA X) X.gl (.scope dL) K [(1,xB bits),(2,.ref h.length 0),(5,.mp (h.length+1)),(10,AS n),(12,AB false),(44,.it H.length),(50,.own rid pl.length 0 pl.length),(51,AI pl.length),(52,AI 0)] (H.set (h.length+1) (BA PV.str RA M)++[T]) X0:=by
 refine VA (fun k:Nat=>⟨[(1,xB bits),(2,.ref h.length 0),(5,.mp (h.length+1)),(10,AS n),(12,AB (FC b bits (pl.take k)).isSome),(44,.it H.length),(50,.own rid pl.length 0 pl.length),(51,AI pl.length),(52,AI k)],H.set (h.length+1) (BA PV.str RA (XD n M (FC b bits (pl.take k))))++[T],X0⟩) (fun k=>k≤pl.length) (fun k=>pl.length-k) 0 rfl (by omega) ?_
 intro k hk;have rl:=JB hR
 have ln:(pl.map plP).length=pl.length:=List.length_map ..
 have b1:h.length+1≤H.length+1:=by omega
 have b2:h.length+1+1≤H.length+1:=by omega
 have b3:rid+1≤H.length+1:=by omega
 have lh':∀M:List (Nm2×Int),(H.set (h.length+1) (BA PV.str RA M)).length=H.length:=fun M=>by simp
 rcases Nat.lt_or_ge k pl.length with hlt|hge
 ·have g:=XA plP hlt
  have w2:IntKind.i64.wrap ((k:Int)+1)=((k+1:Nat):Int):=CA _ (by omega) (by omega)
  have tk:pl.take (k+1)=pl.take k++[pl[k]]:=List.take_succ_eq_append_getElem hlt
  obtain⟨pp,pc⟩:=hpl pl[k] (List.getElem_mem hlt);obtain⟨s,hs,hsl,hsz⟩:=ho.l pl[k].1 pp;have hctl:=ho.c b.parts[pl[k].1] (List.getElem_mem pp) b.parts[pl[k].1].cells[pl[k].2] (List.getElem_mem pc)
  have gp:=XA Prt.pv pp
  have gc:=XA Cel.pv pc
  have gs:(bits.map PV.str)[pl[k].1]?=some (.str s):=by rw[List.getElem?_map,hs];rfl
  have pcs:pl[k].2<s.length:=by omega
  have dn:FC b bits (pl.take (k+1))=cN b bits (FC b bits (pl.take k)) pl[k]:=by rw[tk,z5s]
  have cc:(b.parts[pl[k].1]?).bind (fun x=>x.cells[pl[k].2]?)=some b.parts[pl[k].1].cells[pl[k].2]:=by rw[List.getElem?_eq_getElem pp];simp [pc]
  unfold cN at dn;rw[cc,hs]at dn;dsimp only at dn;have hB':∀(M:List (Nm2×Int)) (t:bA),(H.set (h.length+1) (BA PV.str RA M)++t)[h.length]?=some (qA b):=fun M t=>by
   rw[List.getElem?_append_left (by simp;omega),List.getElem?_set_ne (by omega)];exact hB
  have hR':∀(M:List (Nm2×Int)) (t:bA),(H.set (h.length+1) (BA PV.str RA M)++t)[rid]?=some (.row (some 2) (pl.map plP) 0):=fun M t=>by
   rw[List.getElem?_append_left (by simp;omega),List.getElem?_set_ne (by omega)];exact hR
  have hM':∀(M:List (Nm2×Int)) (t:bA),(H.set (h.length+1) (BA PV.str RA M)++t)[h.length+1]?=some (BA PV.str RA M):=fun M t=>by
   rw[List.getElem?_append_left (by simp;omega),List.getElem?_set_self (by omega)]
  have hS':∀(M M':List (Nm2×Int)) (t:bA),(H.set (h.length+1) (BA PV.str RA M)++t).set (h.length+1) (BA PV.str RA M')=H.set (h.length+1) (BA PV.str RA M')++t:=fun M M' t=>by
   rw[List.set_append_left _ _ (by simp;omega),List.set_set]
  have up:=fun(M:List (Nm2×Int)) (v:Int) (t:bA)=>JK (kk:=(none,[2])) (k:=n) (val:=RA) (l:=M) IG (hM' M t) JG (v:=v) rfl
  have lk:=fun(M:List (Nm2×Int)) (t:bA)=>iG (kk:=(none,[2])) (k:=n) (val:=RA) (l:=M) IG (hM' M t) JG (ok:=false) (z:=AI 0)
  simp only[hS',cond_false]at up lk;have lh:∀M:List (Nm2×Int),(H.set (h.length+1) (BA PV.str RA M)).length=H.length:=fun M=>by simp
  generalize hd:FC b bits (pl.take k)=d at *;generalize hq:pl[k]=q at *;obtain⟨qi,qj⟩:=q;dsimp only at pp pc gp gc gs pcs dn hctl hsl;generalize hP:b.parts[qi]=P at *;generalize hcc:P.cells[qj]=c at *;simp only[plP,eI]at g;simp only[Prt.pv]at gp;simp only[Cel.pv,eI]at gc;simp only[qA]at hB';have c1:LA (some 4) 0 (.agg [.int .i64 c.kind,.str c.pin,.int .i64 c.ctl,.int .i64 c.off])=some (.agg [.int .i64 c.kind,.str c.pin,.int .i64 c.ctl,.int .i64 c.off]):=rfl
  have c2:LA (some 2) 0 (.agg [.int .i64 (qi:Int),.int .i64 (qj:Int)])=some (.agg [.int .i64 (qi:Int),.int .i64 (qj:Int)]):=rfl
  have tk':∀(M:List (Nm2×Int)) (t:bA),(H.set (h.length+1) (BA PV.str RA M)++T::t).take (H.length+1)=H.set (h.length+1) (BA PV.str RA M)++[T]:=fun M t=>by
   rw[List.take_append,List.take_of_length_le (by simp)];simp
  have bzs:EC s qj=bz s[qj]:=by unfold EC;rw[List.getD_eq_getElem?_getD,List.getElem?_eq_getElem pcs];rfl
  have hz:=hsz _ (List.getElem_mem pcs)
  have gz:s[qj]?=some s[qj]:=List.getElem?_eq_getElem pcs
  rw[bzs]at dn;generalize hzz:s[qj]=z at *;have z1:=NU hz
  have z2:=MU z
  simp only[RA,WB,AV.top,Nat.not_lt_zero,if_false]at up;have gM:∀v,d=some v→zA n (XD n M d)=some v:=fun v hv=>by rw[hv];unfold XD;rw[FH,if_pos rfl]
  have sD:∀v,oB n v (XD n M d)=XD n M (some v):=fun v=>by
   cases d with
   | none=>rfl
   | some w=>exact z9d n w v M
  have fin1:∀d',FC b bits (pl.take (k+1))=d'→FC b bits (pl.take (k+1))=d':=fun _ x=>x
  by_cases hneg:0≤c.ctl
  ·obtain⟨m,hm⟩:=Int.eq_ofNat_of_zero_le hneg
   have ml:m<s.length:=by rw[hm]at hctl;omega
   have hn:(0≤(m:Int))=True:=eq_true (by omega)
   have bm:EC s c.ctl.toNat=bz s[m]:=by
    rw[hm];unfold EC;rw[List.getD_eq_getElem?_getD,Int.toNat_natCast,List.getElem?_eq_getElem ml];rfl
   have gz':s[m]?=some s[m]:=List.getElem?_eq_getElem ml
   have hz':=hsz _ (List.getElem_mem ml)
   rw[bm]at dn;generalize hzz':s[m]=y at *;have y1:=NU hz'
   have y2:=MU y
   by_cases hoff:bz y=c.off
   ·have hof:=eq_true hoff
    rw[if_pos ⟨hneg,hoff⟩]at dn;generalize hM0:XD n M d=M0 at *;simp only[go_sem,hlt,g,c1,c2,w2,hm,hn,hof,gz',y1,y2,ln,lh,hB',hR',gp,gc,gs,b1,b2,b3,tk'];refine⟨k+1,?_,by omega,by omega⟩
    rw[dn,hM0]
   ·have hof:=eq_false hoff
    rw[if_neg (fun x=>hoff x.2)]at dn
    cases d with
    | none=>
     dsimp only at dn;have sD1:=sD (bz z)
     generalize hM0:XD n M none=M0 at *;simp only[go_sem,hlt,g,c1,c2,w2,hm,hn,hof,gz',y1,y2,ln,lh,hB',hR',gp,gc,gs,gz,z1,z2,b1,b2,b3,up,tk',Option.isSome_none,sD1];refine⟨k+1,?_,by omega,by omega⟩
     rw[dn];rfl
    | some v=>
     dsimp only at dn;have gv:=gM v rfl
     have sD1:=sD (bz z)
     have sD2:=sD 3
     generalize hM0:XD n M (some v)=M0 at *;by_cases hv:v=bz z
     ·rw[if_pos hv]at dn
      have hv':=eq_true hv
      simp only[go_sem,hlt,g,c1,c2,w2,hm,hn,hof,gz',y1,y2,ln,lh,hB',hR',gp,gc,gs,gz,z1,z2,b1,b2,b3,up,tk',Option.isSome_some,lk,gv,RA,Option.map_some,Option.getD_some,hv',sD1];refine⟨k+1,?_,by omega,by omega⟩
      rw[dn,hv];rfl
     ·rw[if_neg hv]at dn
      simp only[go_sem,hlt,g,c1,c2,w2,hm,hn,hof,gz',y1,y2,ln,lh,hB',hR',gp,gc,gs,gz,z1,z2,b1,b2,b3,up,tk',Option.isSome_some,lk,gv,RA,Option.map_some,Option.getD_some,hv,sD2];refine⟨k+1,?_,by omega,by omega⟩
      rw[dn];rfl
  ·have hn:=eq_false hneg
   rw[if_neg (fun x=>hneg x.1)]at dn
   cases d with
   | none=>
    dsimp only at dn;have sD1:=sD (bz z)
    generalize hM0:XD n M none=M0 at *;simp only[go_sem,hlt,g,c1,c2,w2,hn,ln,lh,hB',hR',gp,gc,gs,gz,z1,z2,b1,b2,b3,up,tk',Option.isSome_none,sD1];refine⟨k+1,?_,by omega,by omega⟩
    rw[dn];rfl
   | some v=>
    dsimp only at dn;have gv:=gM v rfl
    have sD1:=sD (bz z)
    have sD2:=sD 3
    generalize hM0:XD n M (some v)=M0 at *;by_cases hv:v=bz z
    ·rw[if_pos hv]at dn
     have hv':=eq_true hv
     simp only[go_sem,hlt,g,c1,c2,w2,hn,ln,lh,hB',hR',gp,gc,gs,gz,z1,z2,b1,b2,b3,up,tk',Option.isSome_some,lk,gv,RA,Option.map_some,Option.getD_some,hv',sD1];refine⟨k+1,?_,by omega,by omega⟩
     rw[dn,hv];rfl
    ·rw[if_neg hv]at dn
     simp only[go_sem,hlt,g,c1,c2,w2,hn,ln,lh,hB',hR',gp,gc,gs,gz,z1,z2,b1,b2,b3,up,tk',Option.isSome_some,lk,gv,RA,Option.map_some,Option.getD_some,hv,sD2];refine⟨k+1,?_,by omega,by omega⟩
     rw[dn];rfl
 ·have e:k=pl.length:=by omega
  subst e;rw[List.take_length];have e1:h.length≤H.length:=by omega
  have e2:h.length+1≤H.length:=by omega
  have e3:rid≤H.length:=by omega
  simp only[go_sem,Nat.lt_irrefl,e1,e2,e3,lh'];exact fin _
end Go.Am
end
section
/- The levels of nets: the program's map,all nets. -/
open Go
set_option linter.all false
set_option maxRecDepth 100000
namespace Go.Am
variable {h:bA} {K:nA}
attribute [-go_sem] ZA kB wB uB LQ BJ
theorem z7s {s:List Nat}{i:Nat}(hd:s.Nodup)(hni:i∉s):(s++[i]).Nodup:=by
 rw[List.nodup_append];exact⟨hd,by simp,fun a ha b hb=>by rw[List.mem_singleton]at hb;subst hb;intro e;subst e;exact hni ha⟩
theorem zoE {s:List Nat}{i n:Nat}(hd:s.Nodup)(hb:∀ j∈s,j<n)(hi:i<n)(hni:i∉s):s.length<n:=by
 have h2:=(z7s hd hni).length_le_of_subset (l₂:=List.range n) (fun x hx=>by
  rw[List.mem_range];rcases List.mem_append.1 hx with h|h
  ·exact hb x h
  ·rw[List.mem_singleton]at h;omega)
 simp at h2;omega
theorem zjP {β:Type}{ks:List (Nm2 × β)}(hd:(zB ks).Nodup):∀{i:Nat} (hi:i<ks.length),zA ks[i].1 ks=some ks[i].2:=by
 induction ks with
 | nil=>intro i hi;simp at hi
 | cons e r ih=>
  intro i hi;rw[KG,List.nodup_cons]at hd;cases i with
  | zero=>simp [zA]
  | succ i=>
   have hi':i<r.length:=by simpa using hi
   have ne:¬r[i].1=e.1:=fun q=>hd.1 (by rw[←q];exact List.mem_map_of_mem (List.getElem_mem hi'))
   rw[List.getElem_cons_succ];unfold zA;rw[if_neg ne];exact ih hd.2 hi'
theorem zfc {b:Brd}{bits:List Nm2}{pl:List (Nat × Nat)}{v:Int}(h:FC b bits pl=some v):pl≠[]:=fun e=>by subst e;cases h
theorem zoH {n:Nm2}{M:List (Nm2 × Int)}{d:Option Int}(h:∀ v,d=some v→n∈zB M):zB (XD n M d)=zB M:=by
 cases d with
 | none=>rfl
 | some v=>unfold XD;rw[wN,if_pos (h v rfl)]
theorem z8G {n m:Nm2}{M:List (Nm2 × Int)}{d:Option Int}:zA m (XD n M d)=if m=n then d.or (zA m M) else zA m M:=by
 cases d with
 | none=>
  show zA m M=_
  by_cases h:m=n
  ·rw[if_pos h];rfl
  ·rw[if_neg h]
 | some v=>
  show zA m (oB n v M)=_
  rw[FH];by_cases h:m=n
  ·rw[if_pos h,if_pos h];rfl
  ·rw[if_neg h,if_neg h]
theorem z2u:∀ (X:Esc)(m:Nat),(∀y∈X,m≤y.1)→YC X m=m
 | [],m,_=>rfl
 | y::r,m,h=>by
  unfold YC;rw[List.foldl_cons,if_neg (by have:=h y (by simp);omega)]
  exact z2u r m fun z hz=>h z (by simp [hz])
theorem z2V:∀ (k:Nat)(X:Esc)(m:Nat),(∀y∈X,m≤y.1)→VB k X m=m
 | 0,X,m,_=>rfl
 | k+1,X,m,h=>by
  show VB k X (YC X m)=m
  rw[z2u X m h];exact z2V k X m h
theorem znp {X:Esc}{id b:Nat}{P:nA}{H:bA}(hX:∀ y∈X,id+1≤y.1)(hb:b≤id)(hH:id<H.length):zD false b P (some [.mp id]) H X=P (.mp id) (H.take (id+1)) []:=by
 have ht:(AV.mp id).top=id+1:=rfl
 have hmx:max b (id+1)=id+1:=by omega
 have e:iB b H (rB [.mp id])=some (.mp id):=jO
 have e2:iB (id+1) H (rB [.mp id])=some (.mp id):=jO
 have c4:fC X (id+1)=true:=by
  unfold fC;rw[List.all_eq_true];intro y hy;have:=hX y hy;simp [this]
 have c5:X.filter (fun y=>decide (y.1<id+1))=[]:=by
  rw[List.filter_eq_nil_iff];intro y hy;have:=hX y hy;simp;omega
 unfold zD;dsimp only;rw[e];dsimp only;rw[ht,hmx,z2V _ _ _ hX,c4,if_pos rfl,e2];dsimp only;rw[c5];have:(id+1≤id+1)=True:=eq_true (Nat.le_refl _)
 rw[ht,this,true_and]
theorem zou (b:Brd)(bits:List Nm2)(ho:BitsOk b bits)(hp:b.parts.length≤900)(hc:∀ p∈b.parts,p.cells.length≤1000)(hj:b.joins.length≤100000)(hu:b.pulls.length≤100000)(ht:twJ [] b.joins=false) :
 kA X SE [.p b.pv,xB bits] h K=K (.mp (h.length+1)) (h++[qA b,BA PV.str RA (lB b bits)]) []:=by
 refine IA ?_;rw[zdu rfl];obtain⟨xs,x1,x2,x3,x4,sn⟩:=MS (h:=h++[qA b,BA PV.str RA []]) b hj;have lb:(bits.map PV.str).length=bits.length:=List.length_map ..
 simp only[Brd.pv]at sn;simp only[PP,Brd.pv,go_sem,sn,lb];refine⟨_,_,_,⟨rfl,rfl,rfl⟩,?_⟩;have hb0:Obj.box [AV.p (PV.sl (some 2) (List.map Prt.pv b.parts)),AV.p (PV.sl (some 3) (List.map Jon.pv b.joins)),AV.p (PV.sl (some 2) (List.map Pul.pv b.pulls))]=qA b:=rfl
 have hm0:Obj.amap [] 0=BA PV.str RA []:=rfl
 rw[hb0,hm0,sn];simp only[go_sem];have nn:(sA b).length≤100000:=by omega
 have xg:∀k (hk:k<(sA b).length),xs[k]?=some (.str (sA b)[k]):=fun k hk=>by
  have:=congrArg (fun l=>l[k]?) x2
  simp only[win,List.drop_zero,List.getElem?_take,hk,if_true,List.getElem?_map,List.getElem?_eq_getElem hk,Option.map_some]at this;exact this
 have up:=fun(M:List (Nm2×Int)) (n:Nm2) (v:Int) (t:bA)=>JK (kk:=(none,[2])) (h:=h++qA b::BA PV.str RA M::t) (k:=n) (val:=RA) (id:=h.length+1) (l:=M) IG (by simp) JG (v:=v) rfl
 simp only[RA,WB,AV.top,Nat.not_lt_zero,if_false]at up;refine VA (fun k:Nat=>⟨[(1,xB bits),(2,.ref h.length 0),(5,.mp (h.length+1)),(20,.own (h.length+3) b.joins.length 0 (sA b).length),(21,AI (sA b).length),(22,AI k)],H4 h b xs (WE ((sA b).take k)),[]⟩) (fun k=>k≤(sA b).length) (fun k=>(sA b).length-k) 0 rfl (by omega) ?_
 intro k hk;rcases Nat.lt_or_ge k (sA b).length with hlt|hge
 ·have g:=xg k hlt
  have w2:IntKind.i64.wrap ((k:Int)+1)=((k+1:Nat):Int):=CA _ (by omega) (by omega)
  have tk:(sA b).take (k+1)=(sA b).take k++[(sA b)[k]]:=List.take_succ_eq_append_getElem hlt
  have kj:k<b.joins.length:=by omega
  generalize (sA b)[k]=n at *;generalize hM:WE ((sA b).take k)=M at *;have us:oB n 2 M=WE ((sA b).take (k+1)):=by rw[tk,zlR,hM]
  generalize hb:qA b=bo at *;simp only[H4,hb,go_sem,hlt,g,x1,x3,kj,up,w2];refine⟨k+1,?_,by omega,by omega⟩
  rw[us]
 ·have e:k=(sA b).length:=by omega
  subst e;rw[List.take_length];simp only[H4,go_sem,Nat.lt_irrefl,qA];have ln:(b.pulls.map Pul.pv).length=b.pulls.length:=List.length_map ..
  refine VA (fun k:Nat=>⟨[(1,xB bits),(2,.ref h.length 0),(5,.mp (h.length+1)),(30,.p (.sl (some 2) (b.pulls.map Pul.pv))),(31,AI b.pulls.length),(32,AI k)],H4 h b xs (nE (WE (sA b)) (b.pulls.take k)),[]⟩) (fun k=>k≤b.pulls.length) (fun k=>b.pulls.length-k) 0 (by unfold H4 nE;rfl) (by omega) ?_
  intro k hk;rcases Nat.lt_or_ge k b.pulls.length with hlt|hge
  ·have g:=XA Pul.pv hlt
   have c1:LA (some 2) 0 b.pulls[k].pv=some b.pulls[k].pv:=rfl
   have w2:IntKind.i64.wrap ((k:Int)+1)=((k+1:Nat):Int):=CA _ (by omega) (by omega)
   have tk:b.pulls.take (k+1)=b.pulls.take k++[b.pulls[k]]:=List.take_succ_eq_append_getElem hlt
   generalize b.pulls[k]=p at *;generalize hM:nE (WE (sA b)) (b.pulls.take k)=M at *;have us:oB p.net p.level M=nE (WE (sA b)) (b.pulls.take (k+1)):=by rw[tk,zlS,hM]
   generalize hb:qA b=bo at *;simp only[Pul.pv]at g c1;simp only[H4,hb,go_sem,hlt,g,c1,up,w2,ln];refine⟨k+1,?_,by omega,by omega⟩
   rw[us]
  ·have e:k=b.pulls.length:=by omega
   subst e;rw[List.take_length];simp only[go_sem,Nat.lt_irrefl,H4,qA];show kA X sH [.p b.pv,AI 2] (H4 h b xs (EE b)) _
   refine znZ b 2 hp hc hj ht ?_;intro H X C mid hC hG hmid hpre hX;have l4:(H4 h b xs (EE b)).length=h.length+4:=by unfold H4;simp
   rw[l4]at hmid;rw[zmn hC.mp];have mh:=hC.hi
   have hB:H[h.length]?=some (qA b):=by rw[hpre _ (by rw[l4];omega)];unfold H4;simp
   have hM:H[h.length+1]?=some (BA PV.str RA (EE b)):=by rw[hpre _ (by rw[l4];omega)];unfold H4;simp
   have hS0:H.set (h.length+1) (BA PV.str RA (EE b))=H:=by
    refine List.ext_getElem? fun j=>?_
    by_cases hj:h.length+1=j
    ·subst hj;rw[List.getElem?_set_self (by omega),hM]
    ·rw[List.getElem?_set_ne hj]
   simp only[wK];have hP:∀n,(∃i,∃hi:i<C.length,C[i].1=n)∨grp (EB b 2 b.parts.length) n=[]:=fun n=>by
    have:=hG n;by_cases hg:grp (EB b 2 b.parts.length) n=[]
    ·exact .inr hg
    ·rw[if_neg hg]at this
     obtain⟨v,hv,_⟩:=Option.map_eq_some_iff.1 this;obtain⟨i,hi,e⟩:=List.mem_iff_getElem.1 (HK hv);exact .inl ⟨i,hi,by rw[e]⟩
   refine VA (fun t:List Nat×List (Nm2×Int)×List (Nat×AV)=>⟨t.2.2,H.set (h.length+1) (BA PV.str RA t.2.1)++[.iter (some mid) C.length t.1 C.length],[]++X⟩)
    (fun t=>(aA t.2.2 1=xB bits∧aA t.2.2 2 = .ref h.length 0∧aA t.2.2 5 = .mp (h.length+1)∧aA t.2.2 44 = .it H.length)∧t.1.Nodup∧(∀i∈t.1,i<C.length)∧zB t.2.1=zB (EE b)∧(∀n,(∃i∈t.1,(C[i]?).map Prod.fst=some n)→zA n t.2.1=(FC b bits (grp (EB b 2 b.parts.length) n)).or (zA n (EE b)))∧∀n,¬(∃i∈t.1,(C[i]?).map Prod.fst=some n)→zA n t.2.1=zA n (EE b)) (fun t=>C.length-t.1.length) ([],EE b,[(1,xB bits),(2,.ref h.length 0),(5,.mp (h.length+1)),(44,.it H.length)]) (by rw[hS0]) ⟨⟨rfl,rfl,rfl,rfl⟩,List.nodup_nil,by simp,rfl,by simp,by simp⟩ ?_
   rintro⟨seen,M,env⟩ ⟨⟨v1,v2,v5,v44⟩,i1,i2,i3,i4,i5⟩
   dsimp only at v1 v2 v5 v44 i1 i2 i3 i4 i5 ⊢;have lh:(H.set (h.length+1) (BA PV.str RA M)).length=H.length:=by simp
   have gj:∀s,(H.set (h.length+1) (BA PV.str RA M)++[.iter (some mid) C.length s C.length])[H.length]?=some (.iter (some mid) C.length s C.length):=fun s=>by
    rw[List.getElem?_append_right (by omega),lh,Nat.sub_self];rfl
   have gm:∀s,(H.set (h.length+1) (BA PV.str RA M)++[.iter (some mid) C.length s C.length])[mid]?=some (BA PV.str pE C):=fun s=>by
    rw[List.getElem?_append_left (by omega),List.getElem?_set_ne (by omega)];exact hC.mp
   simp only[go_sem];rw[LQ];simp only[BJ,v1,v2,v5,v44,go_sem];have hset:∀(x o:Obj),(H.set (h.length+1) (BA PV.str RA M)++[x]).set H.length o=H.set (h.length+1) (BA PV.str RA M)++[o]:=fun x o=>by
    rw[List.set_append_right _ _ (by omega),lh,Nat.sub_self];rfl
   have htk:∀(M:List (Nm2×Int)) (x:Obj),(H.set (h.length+1) (BA PV.str RA M)++[x]).take (H.length+1)=H.set (h.length+1) (BA PV.str RA M)++[x]:=fun M x=>List.take_of_length_le (by simp)
   have a1:h.length+1≤H.length+1:=by omega
   have a2:h.length+1+1≤H.length+1:=by omega
   have a3:h.length≤H.length:=by omega
   have a4:h.length+1≤H.length:=by omega
   have lha:∀(x:Obj),(H.set (h.length+1) (BA PV.str RA M)++[x]).length=H.length+1:=fun x=>by simp
   refine zm4 (gj seen) (gm seen) (fun hend=>?_) (fun i hi hs=>?_)
   ·simp only[go_sem,hset,htk,lha,a1,a2,a3,a4]
    rw[znp (fun y hy=>by rw[(hX y hy).1];omega) (by omega) (by simp;omega)]
    refine⟨rfl,?_,rfl⟩;have hMM:M=lB b bits:=by
     refine z7i ?_ ?_ ?_
     ·rw[i3];unfold lB;rw[zk4 (fun n v=>(FC b bits (grp (EB b 2 b.parts.length) n)).getD v)]
     ·rw[i3];exact zlU b
     ·intro n hn
      unfold lB;rw[YW (fun n v=>(FC b bits (grp (EB b 2 b.parts.length) n)).getD v)]
      rw[i3]at hn;have hs:=z65.2 hn
      obtain⟨v,hv⟩:=Option.isSome_iff_exists.1 hs;rw[hv];by_cases hx:∃i∈seen,(C[i]?).map Prod.fst=some n
      ·rw[i4 n hx,hv]
       cases FC b bits (grp (EB b 2 b.parts.length) n) <;> rfl
      ·rw[i5 n hx,hv]
       rcases hP n with⟨i,hi,e⟩|e
       ·exact absurd ⟨i,hend i hi,by rw[List.getElem?_eq_getElem hi];simp [e]⟩ hx
       ·rw[e];rfl
    rw[←hMM];refine List.ext_getElem? fun j=>?_
    rw[List.getElem?_take];by_cases hj:j<h.length+1+1
    ·rw[if_pos hj,List.getElem?_append_left (by simp;omega)]
     rcases Nat.lt_trichotomy j h.length with q|q|q
     ·rw[List.getElem?_set_ne (by omega),hpre j (by rw[l4];omega)]
      unfold H4;rw[List.getElem?_append_left q,List.getElem?_append_left q]
     ·subst q
      rw[List.getElem?_set_ne (by omega),hB];simp;rfl
     ·have:j=h.length+1:=by omega
      subst this;rw[List.getElem?_set_self (by omega)];simp
    ·rw[if_neg hj,List.getElem?_eq_none (by simp;omega)]
   ·have hl:seen.length<C.length:=zoE i1 i2 hi hs
    have hr:=hC.rw C[i] (List.getElem_mem hi)
    simp only[hset];rw[show uB (AV.it H.length) (H.set (h.length+1) (BA PV.str RA M)++[.iter (some mid) C.length (seen++[i]) C.length])=_ from zmg (gj (seen++[i])) (gm (seen++[i])) hi]
    have hgr:=hG C[i].1
    generalize hCi:C[i]=e at *;obtain⟨n,rid,pl⟩:=e;dsimp only at hr hgr ⊢;have hpl:grp (EB b 2 b.parts.length) n=pl:=by
     have hgm:zA n C=some (rid,pl):=by
      have:=zjP hC.kn hi;rw[hCi]at this;exact this
     rw[hgm]at hgr;by_cases hz:grp (EB b 2 b.parts.length) n=[]
     ·rw[if_pos hz]at hgr;simp at hgr
     ·rw[if_neg hz]at hgr
      simp only[Option.map_some,Option.some.injEq]at hgr;exact hgr.symm
    simp only[go_sem,pE];have hmem:∀p∈pl,(n,p)∈EB b 2 b.parts.length:=fun p hp=>by rw[←hpl]at hp;exact ZW hp
    have hgl:pl.length≤1000000:=by
     have h1:=bR (EB b 2 b.parts.length) n
     have h2:=DN b 2 b.parts.length (Nat.le_refl _) hc
     rw[hpl]at h1;omega
    have hkn:∀j (hj:j<C.length),C[j].1=n→j=i:=fun j hj e=>by
     have hn:=hC.kn
     have e1:(zB C)[j]'(by simpa [zB] using hj)=(zB C)[i]'(by simpa [zB] using hi):=by
      simp only[zB,List.getElem_map,hCi,e]
     exact(List.getElem_inj hn).1 e1
    refine zos (K:=wA 6 _) b bits ho (T:=.iter (some mid) C.length (seen++[i]) C.length) (n:=n) (M:=M) (X0:=[]) (fun p hp=>?_) hgl hB (by omega) hr.2 ?_
    ·obtain⟨q1,q2,_⟩:=EN (Nat.le_refl _) (hmem p hp)
     exact⟨q1,q2⟩
    intro z;have htk2:∀(M:List (Nm2×Int)) (x:Obj),((H.set (h.length+1) (BA PV.str RA M)++[x]).take (H.length+1))=H.set (h.length+1) (BA PV.str RA M)++[x]:=htk
    have lhb:∀(M:List (Nm2×Int)) (x:Obj),(H.set (h.length+1) (BA PV.str RA M)++[x]).length=H.length+1:=fun M x=>by simp
    have lhc:∀(M:List (Nm2×Int)),(H.set (h.length+1) (BA PV.str RA M)).length=H.length:=fun M=>by simp
    simp only[go_sem,htk2,lhb,lhc,a1,a2,a3,a4];have hkb:∀v,FC b bits pl=some v→n∈zB M:=fun v hv=>by
     rw[i3];obtain⟨p,hp⟩:=List.exists_mem_of_ne_nil _ (zfc hv);obtain⟨_,_,_,q⟩:=EN (Nat.le_refl _) (hmem p hp);refine zlT ?_;unfold sA;exact z3c (fun x y h=>by simpa [eqN] using h) q
    refine⟨(seen++[i],XD n M (FC b bits pl),_),rfl,⟨⟨rfl,rfl,rfl,rfl⟩,z7s i1 hs,?_,?_,?_,?_⟩,by simp;omega⟩
    ·intro j hj
     rcases List.mem_append.1 hj with q|q
     ·exact i2 j q
     ·rw[List.mem_singleton]at q;omega
    ·dsimp only
     rw[zoH hkb,i3]
    ·rintro m ⟨j,hj,e⟩
     dsimp only;rw[z8G];by_cases hm:m=n
     ·subst hm
      rw[if_pos rfl,hpl];congr 1
      refine i5 m ?_;rintro⟨j',hj',e'⟩
      have jl:=i2 j' hj'
      rw[List.getElem?_eq_getElem jl]at e';have:=hkn j' jl (by simpa using e')
      subst this;exact hs hj'
     ·rw[if_neg hm]
      rcases List.mem_append.1 hj with q|q
      ·exact i4 m ⟨j,q,e⟩
      ·rw[List.mem_singleton]at q
       subst q;rw[List.getElem?_eq_getElem hi,hCi]at e;exact absurd (by simpa using e.symm) hm
    ·intro m hx
     dsimp only at hx ⊢;rw[z8G];have hm:¬m=n:=fun q=>hx ⟨i,by simp,by rw[List.getElem?_eq_getElem hi,hCi,q];rfl⟩
     rw[if_neg hm];exact i5 m fun⟨j,hj,e⟩=>hx ⟨j,by simp [hj],e⟩
end Go.Am
end
section
/- Bits of a board: the program's check. -/
open Go
set_option linter.all false
set_option maxRecDepth 100000
namespace Go.Am
variable {h:bA} {K:nA}
attribute [-go_sem] ZA kB wB uB
theorem xM {b:Brd}{bits:List Nm2}(h:kC b bits=0):BitsOk b bits:=by
 obtain⟨h1,h2,h3⟩:=gE h;refine⟨h2,fun i hi=>?_,(eH h1).t⟩
 have hi':i<bits.length:=by omega
 have ok:okB bits[i] b.parts[i]=true:=by
  cases hc:okB bits[i] b.parts[i]with
  | true=>rfl
  | false=>have:=HU hi' hi hc;rw[h3]at this;cases this
 unfold okB at ok;simp only[Bool.and_eq_true,decide_eq_true_eq]at ok;exact⟨bits[i],List.getElem?_eq_getElem hi',ok.1,zcS ok.2⟩
structure BitsL (bits:List Nm2):Prop where
 n:bits.length≤100000
 l:∀s∈bits,s.length≤1000000
theorem GS (b:Brd)(bits:List Nm2)(ho:BrdOk b)(hb:BitsL bits):kA X xE [.p b.pv,xB bits] h K=K (AI (kC b bits)) h []:=by
 refine IA ?_;rw[zdf rfl];have ln:(b.parts.map Prt.pv).length=b.parts.length:=List.length_map ..
 have lb:(bits.map PV.str).length=bits.length:=List.length_map ..
 have ck:=fun hh K=>z8q (h:=hh) (K:=K) b ho
 simp only[Brd.pv]at ck;unfold kC;have hn:=hb.n
 by_cases h1:PC b=0
 ·rw[if_neg (by simp [h1])]
  by_cases h2:bits.length=b.parts.length
  ·rw[if_neg (by simp [h2])]
   have h2':((bits.length:Int)=b.parts.length)=True:=eq_true (by omega)
   simp only[yJ,Brd.pv,go_sem,ck,h1,ln,lb,h2'];refine VA (fun k:Nat=>⟨[(2,.ref h.length 0),(19,xB bits),(20,AI bits.length),(21,AI k)],h++[qA b],[]⟩) (fun k=>k≤bits.length∧∀j (j1:j<bits.length) (j2:j<b.parts.length),j<k→okB bits[j] b.parts[j]=true) (fun k=>bits.length-k) 0 rfl ⟨by omega,fun j _ _ hj=>absurd hj (by omega)⟩ ?_
   rintro k ⟨hk,hpre⟩
   rcases Nat.lt_or_ge k bits.length with hlt|hge
   ·have hlt2:k<b.parts.length:=by omega
    have g1:=XA PV.str hlt
    have g2:=XA Prt.pv hlt2
    have hs:bits[k].length≤1000000:=hb.l _ (List.getElem_mem hlt)
    have w2:IntKind.i64.wrap ((k:Int)+1)=((k+1:Nat):Int):=CA _ (by omega) (by omega)
    have ihk:=hpre
    have okd:okB bits[k] b.parts[k]=(decide (bits[k].length=b.parts[k].cells.length)&&KD bits[k]):=rfl
    have bad:=fun h=>HU (b:=b) (bits:=bits) hlt hlt2 h
    have nxt:okB bits[k] b.parts[k]=true→∀j (j1:j<bits.length) (j2:j<b.parts.length),j<k+1→okB bits[j] b.parts[j]=true:=fun h j j1 j2 hj=>by
     by_cases e:j=k
     ·subst e;exact h
     ·exact hpre j j1 j2 (by omega)
    generalize okB bits[k] b.parts[k]=ok at *;generalize bits[k]=s at *;generalize b.parts[k]=p at *;have lc:(p.cells.map Cel.pv).length=p.cells.length:=List.length_map ..
    have sB:=fun hh K=>znB (h:=hh) (K:=K) s hs
    simp only[Prt.pv]at g2;by_cases hle:s.length=p.cells.length
    ·have e1:((s.length:Int)=p.cells.length)=True:=eq_true (by omega)
     rw[decide_eq_true hle,Bool.true_and]at okd;cases hB:KD s with
     | true=>
      simp only[qA,go_sem,hlt,hlt2,g1,g2,w2,ln,lb,lc,e1,sB,hB];exact⟨k+1,rfl,⟨hlt,nxt (by rw[okd,hB])⟩,by omega⟩
     | false=>
      rw[bad (by rw[okd,hB])]
      simp only[qA,go_sem,hlt,hlt2,g1,g2,w2,ln,lb,lc,e1,sB,hB]
    ·have e1:((s.length:Int)=p.cells.length)=False:=eq_false (by omega)
     rw[decide_eq_false hle,Bool.false_and]at okd;rw[bad okd];simp only[qA,go_sem,hlt,hlt2,g1,g2,w2,ln,lb,lc,e1]
   ·have e:k=bits.length:=by omega
    subst e;rw[z1V fun j j1 j2=>hpre j j1 j2 j1]
    simp only[go_sem,Nat.lt_irrefl]
  ·rw[if_pos h2]
   have h2':((bits.length:Int)=b.parts.length)=False:=eq_false (by omega)
   simp only[yJ,Brd.pv,go_sem,ck,h1,ln,lb,h2']
 ·rw[if_pos h1]
  simp only[yJ,Brd.pv,go_sem,ck,h1,ln,lb]
end Go.Am
end
section
/- What is drawn: bits for a board. -/
open Go
set_option linter.all false
set_option maxRecDepth 100000
namespace Go.Am
variable {h:bA} {K:nA} {L:List Int}
attribute [-go_sem] ZA kB wB uB
def aF (L:List Int)(a:Int):Nat→Nm2
 | 0=>[]
 | n+1=>aF L a n++nC [[48],[49]] L (a+n)
theorem aZ (L:List Int)(a:Int):∀n,(aF L a n).length≤n
 | 0=>by simp [aF]
 | n+1=>by
  have ih:=aZ L a n
  have h1:(nC [[48],[49]] L (a+n)).length≤1:=by
   have:=aM (l:=[[48],[49]]) (L:=L) (a:=a+n) (by simp) (by simp)
   simp at this;rcases this with e|e <;> rw[e] <;> simp
  rw[aF,List.length_append];omega
def fD (b:Brd)(a:Int)(k:Nat):Int:=a+(((b.parts.take k).map fun p=>p.cells.length).sum:Nat)
def LD (b:Brd)(L:List Int)(a:Int):Nat→List Nm2
 | 0=>[]
 | k+1=>LD b L a k++[aF L (fD b a k) (((b.parts[k]?).map fun p=>p.cells.length).getD 0)]
theorem qP (b:Brd)(L:List Int)(a:Int):∀k,(LD b L a k).length=k
 | 0=>rfl
 | k+1=>by rw[LD,List.length_append,qP b L a k];rfl
theorem z7L {b:Brd}{a:Int}{k:Nat}(hk:k<b.parts.length):fD b a (k+1)=fD b a k+b.parts[k].cells.length:=by
 unfold fD;rw[List.take_succ_eq_append_getElem hk,List.map_append,List.sum_append];simp;omega
theorem SY {b:Brd}{a:Int}(hc:∀ p∈b.parts,p.cells.length≤200):∀k,k≤b.parts.length→a≤fD b a k∧fD b a k≤a+k*200
 | 0,_=>by simp [fD]
 | k+1,hk=>by
  have ih:=SY (a:=a) hc k (by omega)
  have:=hc _ (List.getElem_mem (show k<b.parts.length by omega))
  rw[z7L (by omega)]
  omega
theorem LU {b:Brd}{L:List Int}{a:Int}(hc:∀ p∈b.parts,p.cells.length≤200):∀k,k≤b.parts.length→∀s∈LD b L a k,s.length≤200
 | 0,_,s,hs=>by cases hs
 | k+1,hk,s,hs=>by
  rw[LD,List.mem_append,List.mem_singleton]at hs;rcases hs with hs|hs
  ·exact LU hc k (by omega) s hs
  ·have kl:k<b.parts.length:=by omega
   have:=hc _ (List.getElem_mem kl);have rl:=aZ L (fD b a k) b.parts[k].cells.length
   rw[List.getElem?_eq_getElem kl]at hs;rw[hs];simp only[Option.map_some,Option.getD_some];omega
theorem zn5 {K:Ex→St→Prop}{id:Nat}(hid:id<h.length){a:Int}{n m:Nat}{bo:Obj}{rows:List PV}{x:Obj}{v10 v11 v12:AV}(e10:v10.top≤h.length)(hn:n≤200)(hp:uA 1000 a)
 (fin:∀z,K (.exit 2) ⟨[(0,.ref id 0),(5,.own (h.length+1) m 0 m),(8,AS (aF L a n)),(10,v10),(11,v11),(12,v12),(18,AI n),(19,AI n),z],h.set id (EA L (a+n))++[bo,.row none rows 0,x],[]⟩) :
 GA (kA X) X.gl nL K [(0,.ref id 0),(5,.own (h.length+1) m 0 m),(8,AS []),(10,v10),(11,v11),(12,v12),(18,AI n),(19,AI 0)] (h.set id (EA L a)++[bo,.row none rows 0,x]) []:=by
 refine VA (fun k:Nat=>⟨[(0,.ref id 0),(5,.own (h.length+1) m 0 m),(8,AS (aF L a k)),(10,v10),(11,v11),(12,v12),(18,AI n),(19,AI k)],h.set id (EA L (a+k))++[bo,.row none rows 0,x],[]⟩) (fun k=>k≤n) (fun k=>n-k) 0 (by simp [aF]) (by omega) ?_
 intro k hk;rcases Nat.lt_or_ge k n with hlt|hge
 ·have w2:IntKind.i64.wrap ((k:Int)+1)=((k+1:Nat):Int):=CA _ (by omega) (by omega)
  have pk:uA 0 (a+k):=by unfold uA at *;omega
  have S:=fun l K=>nG (L:=L) (h:=h) (l:=l) (K:=K) hid pk (xs:=[.str [48],.str [49]]) rfl (by simp) (by simp)
  have rl:=aZ L a k
  have p1:(nC [[48],[49]] L (a+k)).length≤1:=by
   have:=aM (l:=[[48],[49]]) (L:=L) (a:=a+k) (by simp) (by simp)
   simp at this;rcases this with e|e <;> rw[e] <;> simp
  have e1:aF L a (k+1)=aF L a k++nC [[48],[49]] L (a+k):=rfl
  have e2:a+((k+1:Nat):Int)=a+k+1:=by omega
  have ms:(aF L a k).length+(nC [[48],[49]] L (a+k)).length≤PI:=by unfold PI;omega
  simp only[List.map_cons,List.map_nil,unS]at S;simp only[go_sem,hlt,w2,↓S,S,ms];refine⟨k+1,?_,by omega,by omega⟩
  rw[e1,e2]
 ·have e:k=n:=by omega
  subst e;simp only[go_sem,Nat.lt_irrefl];exact fin _
def uG (b:Brd)(L:List Int)(a:Int):List Nm2×Int:=
 let r:=LD b L a b.parts.length
 let e:=fD b a b.parts.length
 if FA L e 15=0 then
  if 0<b.parts.length then
   if FA L (e+1) 2=0 then(r.set (FA L (e+1+1) b.parts.length).toNat (r.getD (FA L (e+1+1) b.parts.length).toNat []++nC [[48],[120]] L (e+1+1+1)),e+1+1+1+1)
   else(r++[[]],e+1+1)
  else(r++[[]],e+1)
 else(r,e+1)
attribute [-go_sem] DW kH
theorem zjM (b:Brd){a:Int}(hp:b.parts.length≤40)(hc:∀ p∈b.parts,p.cells.length≤200)(hpos:uA 100000 a):Gen ZJ [.p b.pv] L a (uG b L a).2 (xB (uG b L a).1):=by
 refine Gen.of fun h id hid=>?_
 rw[zdC rfl];have ln:(b.parts.map Prt.pv).length=b.parts.length:=List.length_map ..
 simp only[bQ,Brd.pv,go_sem,ln];have i1:id≤h.length+1:=by omega
 refine VA (fun k:Nat=>⟨[(0,.ref id 0),(5,.own (h.length+1) k 0 k),(10,aC b.parts),(11,AI b.parts.length),(12,AI k)],h.set id (EA L (fD b a k))++[qA b,.row none ((LD b L a k).map PV.str) 0],[]⟩) (fun k=>k≤b.parts.length) (fun k=>b.parts.length-k) 0 (by simp [fD,LD];rfl) (by omega) ?_
 intro k hk;have pl:=SY (a:=a) hc k hk
 rcases Nat.lt_or_ge k b.parts.length with hlt|hge
 ·have g:=XA Prt.pv hlt
  have c1:LA (some 2) 0 b.parts[k].pv=some b.parts[k].pv:=rfl
  have w2:IntKind.i64.wrap ((k:Int)+1)=((k+1:Nat):Int):=CA _ (by omega) (by omega)
  have c200:=hc _ (List.getElem_mem hlt)
  have bs:LD b L a (k+1)=LD b L a k++[aF L (fD b a k) b.parts[k].cells.length]:=by
   show LD b L a k++_=_
   rw[List.getElem?_eq_getElem hlt];rfl
  have ps:=z7L (a:=a) hlt
  generalize b.parts[k]=p at *;have lc:(p.cells.map Cel.pv).length=p.cells.length:=List.length_map ..
  simp only[Prt.pv]at g c1;have tl:((LD b L a k).map PV.str).length=k:=by simp [qP]
  generalize hrows:(LD b L a k).map PV.str=rows at *;have km:k+1≤WA:=by unfold WA;omega
  have pp:uA 1000 (fD b a k):=by unfold uA at *;omega
  simp only[qA,go_sem,hlt,g,c1,w2,lc];refine zn5 (K:=wA 2 _) hid (by simp [AV.top]) c200 pp fun z=>?_
  simp only[go_sem,w2,tl,km,i1];refine⟨k+1,?_,by omega,by omega⟩
  rw[ps,bs,List.map_append,hrows];rfl
 ·have e:k=b.parts.length:=by omega
  subst e;simp only[go_sem,Nat.lt_irrefl,i1];rw[DW];have bl:=qP b L a b.parts.length
  unfold uG;dsimp only;have hR200:=LU (L:=L) (a:=a) hc b.parts.length (Nat.le_refl _)
  generalize hR:LD b L a b.parts.length=R at *;have lR:(R.map PV.str).length=b.parts.length:=by simp [bl]
  have q0:uA 0 (fD b a b.parts.length):=by unfold uA at *;omega
  have q1:uA 0 (fD b a b.parts.length+1):=by unfold uA at *;omega
  have q2:uA 0 (fD b a b.parts.length+1+1):=by unfold uA at *;omega
  have q3:uA 0 (fD b a b.parts.length+1+1+1):=by unfold uA at *;omega
  generalize fD b a b.parts.length=e at *;have wf:win (R.map PV.str) 0 b.parts.length=R.map PV.str:=rD lR
  by_cases f1:FA L e 15=0
  ·have f1':=eq_true f1
   rw[if_pos f1];by_cases f2:0<b.parts.length
   ·have f2':((0:Int)<b.parts.length)=True:=eq_true (by omega)
    rw[if_pos f2];by_cases f3:FA L (e+1) 2=0
    ·have f3':=eq_true f3
     rw[if_pos f3];obtain⟨n1,n2⟩:=FE L (e+1+1) b.parts.length (by omega) (by omega)
     have e4:=yF (k:=.i64) n1
     have jl:(FA L (e+1+1) b.parts.length).toNat<R.length:=by omega
     have gj:=XA PV.str jl
     have gd:R.getD (FA L (e+1+1) b.parts.length).toNat []=R[(FA L (e+1+1) b.parts.length).toNat]:=by
      rw[List.getD_eq_getElem?_getD,List.getElem?_eq_getElem jl];rfl
     have rj:=hR200 _ (List.getElem_mem jl)
     have p1:(nC [[48],[120]] L (e+1+1+1)).length≤1:=by
      have:=aM (l:=[[48],[120]]) (L:=L) (a:=e+1+1+1) (by simp) (by simp)
      simp at this;rcases this with e|e <;> rw[e] <;> simp
     rw[gd];have jn:(FA L (e+1+1) b.parts.length).toNat<b.parts.length:=by omega
     have ms:(R[(FA L (e+1+1) b.parts.length).toNat]).length+(nC [[48],[120]] L (e+1+1+1)).length≤PI:=by unfold PI;omega
     have sm:(R.map PV.str).set (FA L (e+1+1) b.parts.length).toNat (.str (R[(FA L (e+1+1) b.parts.length).toNat]++nC [[48],[120]] L (e+1+1+1)))=(R.set (FA L (e+1+1) b.parts.length).toNat (R[(FA L (e+1+1) b.parts.length).toNat]++nC [[48],[120]] L (e+1+1+1))).map PV.str:=by rw[List.map_set]
     generalize R[(FA L (e+1+1) b.parts.length).toNat]=rj0 at *;generalize (FA L (e+1+1) b.parts.length).toNat=j at *;simp only[kH,go_sem,hid,q0,q1,q2,q3,f1',f2',f3',e4,gj,lR,jn,ms];rw[sm,rD (by simp [bl])]
    ·rw[if_neg f3]
     have km:b.parts.length+1≤WA:=by unfold WA;omega
     simp only[kH,go_sem,hid,q0,q1,q2,q3,f1',f2',f3,km,lR];rw[rD (by simp [lR]),xB,List.map_append];rfl
   ·rw[if_neg f2]
    have f2':((0:Int)<b.parts.length)=False:=eq_false (by omega)
    have km:b.parts.length+1≤WA:=by unfold WA;omega
    simp only[kH,go_sem,hid,q0,q1,q2,q3,f1',f2',km,lR];rw[rD (by simp [lR]),xB,List.map_append];rfl
  ·rw[if_neg f1]
   simp only[kH,go_sem,hid,q0,q1,q2,q3,f1,lR,wf]
theorem zcT {b:Brd}{a:Int}(hp:b.parts.length≤40)(hc:∀ p∈b.parts,p.cells.length≤200):BitsL (uG b L a).1∧a≤(uG b L a).2∧(uG b L a).2≤a+8010:=by
 have hl:=qP b L a b.parts.length
 have hm:=LU (L:=L) (a:=a) hc b.parts.length (Nat.le_refl _)
 have pl:=SY (a:=a) hc b.parts.length (Nat.le_refl _)
 unfold uG;dsimp only;generalize LD b L a b.parts.length=R at *;generalize fD b a b.parts.length=e at *;split
 ·split
  ·split
   ·refine⟨⟨by simp;omega,fun s hs=>?_⟩,by dsimp only;omega,by dsimp only;omega⟩
    rcases List.mem_or_eq_of_mem_set hs with q|q
    ·have:=hm s q;omega
    ·rw[q,List.length_append]
     have p1:(nC [[48],[120]] L (e+1+1+1)).length≤1:=by
      have:=aM (l:=[[48],[120]]) (L:=L) (a:=e+1+1+1) (by simp) (by simp)
      simp at this;rcases this with e|e <;> rw[e] <;> simp
     have:(R.getD (FA L (e+1+1) b.parts.length).toNat []).length≤200:=by
      rw[List.getD_eq_getElem?_getD];cases hg:R[(FA L (e+1+1) b.parts.length).toNat]? with
      | none=>simp
      | some v=>exact hm v (List.mem_of_getElem? hg)
     omega
   ·refine⟨⟨by simp;omega,fun s hs=>?_⟩,by dsimp only;omega,by dsimp only;omega⟩
    rcases List.mem_append.1 hs with q|q
    ·have:=hm s q;omega
    ·rw[List.mem_singleton]at q;rw[q];simp
  ·refine⟨⟨by simp;omega,fun s hs=>?_⟩,by dsimp only;omega,by dsimp only;omega⟩
   rcases List.mem_append.1 hs with q|q
   ·have:=hm s q;omega
   ·rw[List.mem_singleton]at q;rw[q];simp
 ·exact⟨⟨by dsimp only;omega,fun s hs=>by have:=hm s hs;omega⟩,by dsimp only;omega,by dsimp only;omega⟩
end Go.Am
end
section
/- Lists of faults: what is wrong with them,both ways. -/
open Go
set_option linter.all false
namespace Go.Am
variable {h:bA} {K:nA}
end Go.Am
end
section
/- Rows of a test asv numbers. -/
open Go
set_option linter.all false
namespace Go.Am
variable {h:bA} {K:nA}
end Go.Am
end
section
/- Faults on rows: what the program makes of them. -/
open Go
set_option linter.all false
namespace Go.Am
variable {h:bA} {K:nA}
end Go.Am
end
section
/- Rows that are handed tov a function: it sees their values. -/
open Go
namespace Go.Am
end Go.Am
end
section
/- Responses,asv the program computes them. -/
open Go
set_option linter.all false
namespace Go.Am
variable {h:bA} {K:nA}
end Go.Am
end
section
/- Sorting the middle of a row: printed by program. -/
open Go
set_option linter.unusedSimpArgs false
namespace Go.Am
attribute [-go_sem] PV.cells splice
variable {h:bA} {K:nA}
end Go.Am
end
section
/- What is drawn: orders,tests. -/
open Go
set_option linter.all false
namespace Go.Am
variable {L:List Int} {a:Int} {h l:bA} {id:Nat} {K:nA}
def GenK (f:Nat)(args:List AV)(L:List Int)(a:Int)(sh:Sh)(Q:List PV→Int→Prop):Prop:=∀(h:bA) (id:Nat),h[id]?=some (EA L a)→∃xs a2,Q xs a2∧∀K:nA,kA X f (.ref id 0::args) h K=K (.own h.length xs.length 0 xs.length) (h.set id (EA L a2)++[.row sh xs 0]) []
theorem GenK.of {f:Nat}{args:List AV}{L:List Int}{a:Int}{sh:Sh}{Q:List PV→Int→Prop}(H:∀ (h:bA) (id:Nat),id<h.length→kA X f (.ref id 0::args) (h.set id (EA L a)) fun v1 h1 x1=>∃ xs a2,Q xs a2∧v1 = .own h.length xs.length 0 xs.length∧h1=h.set id (EA L a2)++[.row sh xs 0]∧x1=[]):GenK f args L a sh Q:=by
 intro h id hh;have hid:=JB hh
 have k:=H h id hid
 rw[WG hh]at k;obtain⟨v,h',x,⟨xs,a2,q,e0,e1,e2⟩,r⟩:=kA.one uM k;subst e0;subst e1;subst e2
 exact⟨xs,a2,q,r⟩
theorem z82 (s:List UInt8)(c:Int)(h0:0≤c)(hc:s.length*c.toNat≤1000000)(h1:c≤1000000):kA X EH [AS s,AI c] h K=K (AS (TH s c.toNat)) h []:=by
 refine oX (X:=X) (by kernel_rfl) ?_
 rw[z1N];show KH GRL PRL EH [AS s,AI c] h=some (AS (TH s c.toNat),h,[])
 exact z7b (vs:=[.str s,.int .i64 c]) (by kernel_rfl) (s:=dM) (by kernel_rfl) rfl (by simp only[dM];rw[if_pos ⟨h0,hc,h1⟩])
end Go.Am
end
section
/- Quiet bits of a part: the program. -/
open Go
set_option linter.all false
set_option maxRecDepth 100000
namespace Go.Am
variable {h:bA} {K:nA}
attribute [-go_sem] ZA kB wB uB OK NK
def PK (c:Cel):Option (Int×Int):=if c.kind=2∧0≤c.ctl then some (c.ctl,c.off) else none
def yB (l:List Cel)(q:Int × Int):Nat:=(l.filter fun c=>decide (PK c=some q)).length
def aB (p:Prt):Nm2:=(List.range p.cells.length).map fun(k:Nat)=>if yB p.cells ((k:Int),1)>yB p.cells ((k:Int),0) then 49 else 48
theorem cV (l:List Cel)(c:Cel)(q:Int × Int):yB (l++[c]) q=yB l q+if PK c=some q then 1 else 0:=by
 unfold yB;rw[List.filter_append,List.length_append];by_cases h:PK c=some q <;> simp [h]
def spI (s:Int × Int):PV:=.agg [.int .i64 s.1,.int .i64 s.2]
theorem jX:YH spI:=fun a b=>by
 obtain⟨a1,a2⟩:=a;obtain⟨b1,b2⟩:=b;have e:decide ((a1,a2)=(b1,b2))=(decide (a1=b1)&&(decide (a2=b2)&&true)):=by rw[Bool.eq_iff_iff];simp
 rw[e];rfl
theorem kX {s:Int × Int}:UC (some 2,[0,0]) (.p (spI s))=some (spI s):=by simp [spI,UC,PV.key,PV.shp,PV.sc,PV.cells,PV.kind]
theorem zjQ {α β:Type}[DecidableEq α](k k':α)(v:β)(l:List (α × β)):zA k' (RE k v l)=if k'=k then some ((zA k l).getD v) else zA k' l:=by
 unfold RE;have hs:=WS (k:=k) (l:=l)
 cases hw:SB k l with
 | none=>
  rw[hw]at hs;have hn:zA k l=none:=by simpa using hs.symm
  rw[←cJ hw,hn];simp only[Option.isSome_none,Bool.false_eq_true,if_false];rw[FH];rfl
 | some i=>
  rw[hw]at hs;obtain⟨w,hw2⟩:=Option.isSome_iff_exists.1 hs.symm;simp only[Option.isSome_some,if_true];by_cases e:k'=k
  ·subst e;rw[if_pos rfl,hw2];rfl
  ·rw[if_neg e]
theorem repQ (c:UInt8):∀n,TH [c] n=List.replicate n c
 | 0=>rfl
 | n+1=>by rw[TH,repQ c n];rfl
def zC (A B:Nm2)(k:Nat):List PV:=bB (A.take k++B.drop k)
theorem z7o {A B:Nm2}{k:Nat}(ha:k<A.length)(hb:k<B.length):(zC A B k).set k (.int .u8 (A[k]).toNat)=zC A B (k+1):=by
 have e1:A.take (k+1)=A.take k++[A[k]]:=List.take_succ_eq_append_getElem ha
 have e2:B.drop k=B[k]::B.drop (k+1):=List.drop_eq_getElem_cons hb
 unfold zC bB;rw[e1,e2,List.map_append,List.map_append,List.map_append,List.set_append_right _ _ (by simp;omega)]
 have:k-(List.map (fun z:UInt8=>PV.int .u8 z.toNat) (A.take k)).length=0:=by simp;omega
 rw[this];simp only[List.map_cons,List.set_cons_zero,List.append_assoc,List.cons_append,List.nil_append,List.map_nil]
theorem z7n {A B:Nm2}{k:Nat}(ha:k<A.length)(hb:k<B.length)(h:A[k]=B[k]):zC A B k=zC A B (k+1):=by
 have e1:A.take (k+1)=A.take k++[A[k]]:=List.take_succ_eq_append_getElem ha
 have e2:B.drop k=B[k]::B.drop (k+1):=List.drop_eq_getElem_cons hb
 unfold zC;rw[e1,e2,h,List.append_assoc];rfl
theorem z7m {A B:Nm2}{k:Nat}(ha:k≤A.length)(hb:k<B.length):(zC A B k)[k]?=some (.int .u8 (B[k]).toNat):=by
 have e2:B.drop k=B[k]::B.drop (k+1):=List.drop_eq_getElem_cons hb
 unfold zC bB;rw[e2,List.map_append,List.getElem?_append_right (by simp;omega)]
 have:k-(List.map (fun z:UInt8=>PV.int .u8 z.toNat) (A.take k)).length=0:=by simp;omega
 rw[this];rfl
theorem zo1 (p:Prt)(hl:p.cells.length≤1000):kA X UJ [.p p.pv] h K=K (.p (.sl none (bB (aB p)))) h []:=by
 refine IA ?_;rw[zdz rfl];have ln:(p.cells.map Cel.pv).length=p.cells.length:=List.length_map ..
 have rp:=fun hh K=>z82 (h:=hh) (K:=K) [48] p.cells.length (by omega) (by simp;omega) (by omega)
 have l48:(List.replicate p.cells.length (48:UInt8)).length=p.cells.length:=List.length_replicate
 have lm:p.cells.length≤WA:=by unfold WA;omega
 simp only[repQ,Int.toNat_natCast]at rp;simp only[VP,Prt.pv,go_sem,ln,rp,l48,lm];refine VA (fun t:Nat×List ((Int×Int)×Int)=>⟨[(1,.ref h.length 0),(3,.own (h.length+1) p.cells.length 0 p.cells.length),(4,.mp (h.length+2)),(15,qC p.cells),(16,AI p.cells.length),(17,AI t.1)],h++[p.bx,.row none (bB (List.replicate p.cells.length 48)) 0,BA spI RA t.2],[]⟩)
  (fun t=>t.1≤p.cells.length∧∀q,(zA q t.2).getD 0=yB (p.cells.take t.1) q) (fun t=>p.cells.length-t.1) (0,[]) rfl ⟨by omega,fun q=>rfl⟩ ?_
 rintro⟨k,M⟩ ⟨hk,hM⟩
 dsimp only at hk hM ⊢;rcases Nat.lt_or_ge k p.cells.length with hlt|hge
 ·have g:=XA Cel.pv hlt
  have c1:LA (some 4) 0 p.cells[k].pv=some p.cells[k].pv:=rfl
  have w2:IntKind.i64.wrap ((k:Int)+1)=((k+1:Nat):Int):=CA _ (by omega) (by omega)
  have tk:p.cells.take (k+1)=p.cells.take k++[p.cells[k]]:=List.take_succ_eq_append_getElem hlt
  have nx:=fun q=>cV (p.cells.take k) p.cells[k] q
  rw[←tk]at nx;generalize hcc:p.cells[k]=c at *;simp only[Cel.pv,eI]at g c1;unfold PK at nx;by_cases hkind:c.kind=2
  ·have hkp:=eq_true hkind
   by_cases hctl:0≤c.ctl
   ·have hc':=eq_true hctl
    have lk:=fun(bo ro:Obj) (M:List ((Int×Int)×Int)) (t:bA)=>iG (kk:=(some 2,[0,0])) (h:=h++bo::ro::BA spI RA M::t) (id:=h.length+2) (k:=(c.ctl,c.off)) (val:=RA) (l:=M) jX (by simp) kX (ok:=false) (z:=AI 0)
    have me:=fun(bo ro:Obj) (M:List ((Int×Int)×Int)) (t:bA)=>zme (kk:=(some 2,[0,0])) (h:=h++bo::ro::BA spI RA M::t) (id:=h.length+2) (k:=(c.ctl,c.off)) (val:=RA) (l:=M) jX (by simp) kX (v0:=0)
    have es:=fun(bo ro:Obj) (v:Int) (t:bA)=>zjt (h:=h++bo::ro::BA spI RA (RE (c.ctl,c.off) 0 M)::t) (id:=h.length+2) (k:=(c.ctl,c.off)) (key:=spI) (val:=RA) (l:=M) (v0:=0) (by simp) (v:=v) rfl
    have gv:∀M:List ((Int×Int)×Int),((zA (c.ctl,c.off) M).map RA).getD (AI 0)=AI ((zA (c.ctl,c.off) M).getD 0):=fun M=>by cases zA (c.ctl,c.off) M <;> rfl
    have ge:(zA (c.ctl,c.off) (RE (c.ctl,c.off) 0 M)).getD 0=(zA (c.ctl,c.off) M).getD 0:=by rw[zjQ,if_pos rfl];rfl
    have hMc:=hM (c.ctl,c.off)
    have gb:(yB (p.cells.take k) (c.ctl,c.off))≤k:=by
     unfold yB;refine Nat.le_trans (List.length_filter_le _ _) ?_;simp;omega
    have wv:IntKind.i64.wrap (((zA (c.ctl,c.off) M).getD 0)+1)=((zA (c.ctl,c.off) M).getD 0)+1:=by rw[hMc];exact CA _ (by omega) (by omega)
    simp only[gv,ge,cond_false,spI,RA,WB,AV.top,Nat.not_lt_zero,if_false]at lk me es;have lk2:=fun bo ro t=>lk bo ro (RE (c.ctl,c.off) 0 M) t
    simp only[ge]at lk2;simp only[go_sem,Prt.bx,hlt,g,c1,w2,ln,hkp,hc',lk,lk2,me,es,wv];refine⟨by rw[ge],(k+1,oB (c.ctl,c.off) ((zA (c.ctl,c.off) M).getD 0+1) M),rfl,⟨hlt,fun q=>?_⟩,by dsimp only;omega⟩
    dsimp only;have nq:=nx q
    rw[if_pos (show c.kind=2∧0≤c.ctl from⟨hkind,hctl⟩)]at nq
    rw[FH,nq];by_cases hq:q=(c.ctl,c.off)
    ·rw[if_pos hq,if_pos (by rw[hq]),hq]
     show(zA (c.ctl,c.off) M).getD 0+1=_
     rw[hMc];rfl
    ·rw[if_neg hq,if_neg (fun x=>hq (Option.some.inj x).symm)]
     exact hM q
   ·have hc':=eq_false hctl
    simp only[go_sem,Prt.bx,hlt,g,c1,w2,ln,hkp,hc'];refine⟨(k+1,M),rfl,⟨hlt,fun q=>?_⟩,by dsimp only;omega⟩
    have nq:=nx q
    rw[if_neg (show ¬(c.kind=2∧0≤c.ctl) from fun x=>hctl x.2),if_neg (by simp)]at nq
    dsimp only;rw[nq];exact hM q
  ·simp only[go_sem,Prt.bx,hlt,g,c1,w2,ln,hkind]
   refine⟨(k+1,M),rfl,⟨hlt,fun q=>?_⟩,by dsimp only;omega⟩
   have nq:=nx q
   rw[if_neg (show ¬(c.kind=2∧0≤c.ctl) from fun x=>hkind x.1),if_neg (by simp)]at nq
   dsimp only;rw[nq];exact hM q
 ·have e:k=p.cells.length:=by omega
  subst e;rw[List.take_length]at hM;simp only[go_sem,Nat.lt_irrefl,Prt.bx,ln];have lq:(aB p).length=p.cells.length:=by simp [aB]
  have lk:=fun(bo ro:Obj) (q:Int×Int) (t:bA)=>iG (kk:=(some 2,[0,0])) (h:=h++bo::ro::BA spI RA M::t) (id:=h.length+2) (k:=q) (val:=RA) (l:=M) jX (by simp) kX (ok:=false) (z:=AI 0)
  have gv:∀q:Int×Int,((zA q M).map RA).getD (AI 0)=AI (yB p.cells q):=fun q=>by
   rw[←hM q];cases zA q M <;> rfl
  have lk1:=fun(bo ro:Obj) (a b:Int) (t:bA)=>lk bo ro (a,b) t
  simp only[gv,cond_false,spI]at lk1;refine VA (fun k:Nat=>⟨[(3,.own (h.length+1) p.cells.length 0 p.cells.length),(4,.mp (h.length+2)),(42,AI p.cells.length),(43,AI k)],h++[p.bx,.row none (zC (aB p) (List.replicate p.cells.length 48) k) 0,BA spI RA M],[]⟩) (fun k=>k≤p.cells.length) (fun k=>p.cells.length-k) 0 (by unfold zC;rfl) (by omega) ?_
  intro k hk;rcases Nat.lt_or_ge k p.cells.length with hlt|hge
  ·have w2:IntKind.i64.wrap ((k:Int)+1)=((k+1:Nat):Int):=CA _ (by omega) (by omega)
   have kq:k<(aB p).length:=by omega
   have kr:k<(List.replicate p.cells.length (48:UInt8)).length:=by simp;omega
   have m1:=z7o kq kr
   have m2:=z7n kq kr
   have m3:=z7m (A:=aB p) (by omega) kr
   have ml:(zC (aB p) (List.replicate p.cells.length 48) k).length=p.cells.length:=by simp [zC,bB];omega
   have q0:(aB p)[k]=if yB p.cells ((k:Int),1)>yB p.cells ((k:Int),0) then 49 else 48:=by simp [aB]
   have r0:(List.replicate p.cells.length (48:UInt8))[k]=48:=List.getElem_replicate ..
   rw[q0]at m1 m2;rw[r0]at m2 m3;generalize hm1:zC (aB p) (List.replicate p.cells.length 48) (k+1)=R1 at *;generalize zC (aB p) (List.replicate p.cells.length 48) k=R at *;by_cases hcmp:yB p.cells ((k:Int),1)>yB p.cells ((k:Int),0)
   ·rw[if_pos hcmp]at m1
    have m1':R.set k (.int .u8 49)=R1:=m1
    have hg:((yB p.cells ((k:Int),0):Int)<yB p.cells ((k:Int),1))=True:=eq_true (by omega)
    simp only[go_sem,hlt,w2,lk1,hg,m3,ml,m1',Prt.bx];exact⟨k+1,by rw[hm1],by omega,by omega⟩
   ·rw[if_neg hcmp]at m2
    have m2':=m2 rfl
    have hg:((yB p.cells ((k:Int),0):Int)<yB p.cells ((k:Int),1))=False:=eq_false (by omega)
    simp only[go_sem,hlt,w2,lk1,hg,Prt.bx];exact⟨k+1,by rw[hm1,m2'],by omega,by omega⟩
  ·have e:k=p.cells.length:=by omega
   subst e;have me:zC (aB p) (List.replicate p.cells.length 48) p.cells.length=bB (aB p):=by
    unfold zC;rw[List.take_of_length_le (by omega),List.drop_eq_nil_of_le (by simp),List.append_nil]
   rw[me];have lbq:(bB (aB p)).length=p.cells.length:=by simp [bB,lq]
   have wq:win (bB (aB p)) 0 p.cells.length=bB (aB p):=rD lbq
   simp only[go_sem,Nat.lt_irrefl,lbq,wq]
def xS (b:Brd):List Nm2×Int:=if PC b≠0 then([],PC b) else(b.parts.map aB,0)
theorem toB3:∀ s:List UInt8,pG (bB s)=some s
 | []=>rfl
 | c::r=>by
  have ih:=toB3 r
  unfold bB at ih ⊢;rw[List.map_cons];unfold pG;rw[ih];have:((c.toNat:Int))<256:=by have:=c.toNat_lt;omega
  rw[if_pos ⟨by omega,this⟩]
  simp
theorem znP (b:Brd)(ho:BrdOk b):kA X TJ [.p b.pv] h K=K (.tup [.p (.sl none ((xS b).1.map PV.str)),AI (xS b).2]) h []:=by
 refine IA ?_;rw[zdk rfl];have ck:=fun hh K=>z8q (h:=hh) (K:=K) b ho
 simp only[Brd.pv]at ck;unfold xS;have ln:(b.parts.map Prt.pv).length=b.parts.length:=List.length_map ..
 by_cases h1:PC b=0
 ·rw[if_neg (by simp [h1])]
  have R:=eH h1
  have hp40:=R.p
  simp only[IM,Brd.pv,go_sem,ck,h1,ln];refine VA (fun k:Nat=>⟨[(5,.own (h.length+1) k 0 k),(14,aC b.parts),(15,AI b.parts.length),(16,AI k)],h++[qA b,.row none (((b.parts.map aB).take k).map PV.str) 0],[]⟩) (fun k=>k≤b.parts.length) (fun k=>b.parts.length-k) 0 rfl (by omega) ?_
  intro k hk;rcases Nat.lt_or_ge k b.parts.length with hlt|hge
  ·have g:=XA Prt.pv hlt
   have w2:IntKind.i64.wrap ((k:Int)+1)=((k+1:Nat):Int):=CA _ (by omega) (by omega)
   have c1:LA (some 2) 0 b.parts[k].pv=some b.parts[k].pv:=rfl
   have tk:(b.parts.map aB).take (k+1)=(b.parts.map aB).take k++[aB b.parts[k]]:=by
    rw[List.take_succ_eq_append_getElem (by simpa using hlt)];simp
   have c200:=R.c _ (List.getElem_mem hlt)
   have tl:(((b.parts.map aB).take k).map PV.str).length=k:=by simp;omega
   have sq:=fun hh K=>zo1 (h:=hh) (K:=K) b.parts[k] (by omega)
   have tb:=toB3 (aB b.parts[k])
   generalize aB b.parts[k]=q at *;generalize b.parts[k]=p at *;simp only[Prt.pv]at g c1 sq;generalize hrows:((b.parts.map aB).take k).map PV.str=rows at *;have km:k+1≤WA:=by unfold WA;omega
   simp only[go_sem,qA,hlt,g,c1,w2,sq,tb,tl,km];refine⟨k+1,?_,by omega,by omega⟩
   rw[tk,List.map_append,hrows];rfl
  ·have e:k=b.parts.length:=by omega
   subst e;rw[List.take_of_length_le (by simp)]
   have lq:((b.parts.map aB).map PV.str).length=b.parts.length:=by simp
   have wf:win ((b.parts.map aB).map PV.str) 0 b.parts.length=(b.parts.map aB).map PV.str:=rD lq
   generalize (b.parts.map aB).map PV.str=rows at *;simp only[go_sem,Nat.lt_irrefl,lq,wf]
 ·rw[if_pos h1]
  simp only[IM,Brd.pv,go_sem,ck,h1]
end Go.Am
end
section
/- Levels: the program. -/
open Go
set_option linter.all false
set_option maxRecDepth 100000
namespace Go.Am
variable {h:bA} {K:nA}
attribute [-go_sem] ZA kB wB uB
theorem oZ {b:Brd}{bits:List Nm2}(ho:BrdOk b)(hf:kC b bits=0) :
 kA X SE [.p b.pv,xB bits] h K=K (.mp (h.length+1)) (h++[qA b,BA PV.str RA (lB b bits)]) []:=by
 have R:=eH (gE hf).1
 exact zou b bits (xM hf) (by have:=R.p;omega) (fun p hp=>by have:=R.c p hp;omega) (by have:=R.j;omega) (by have:=ho.p;omega) R.w
def xD (b:Brd)(bits:List Nm2):List Int:=(sA b).map fun n=>(zA n (lB b bits)).getD 0
def iR (b:Brd)(bits:List Nm2):List Int×Int:=if kC b bits≠0 then([],kC b bits) else(xD b bits,0)
theorem znL (b:Brd)(bits:List Nm2)(ho:BrdOk b)(hb:BitsL bits):kA X rH [.p b.pv,xB bits] h K=K (.tup [.p (.sl none ((iR b bits).1.map eI)),AI (iR b bits).2]) h []:=by
 refine IA ?_;rw[zdj rfl];have ck:=fun hh K=>GS (h:=hh) (K:=K) b bits ho hb
 simp only[Brd.pv]at ck;unfold iR;by_cases h1:kC b bits=0
 ·rw[if_neg (by simp [h1])]
  have lv:=fun hh K=>oZ (h:=hh) (K:=K) ho h1
  simp only[Brd.pv]at lv;simp only[HM,Brd.pv,go_sem,ck,h1,lv];have R:=eH (gE h1).1
  have hj:=R.j
  obtain⟨xs,x1,x2,x3,x4,sn⟩:=MS (h:=h++[qA b,qA b,BA PV.str RA (lB b bits),Obj.row none [] 0]) b (by omega)
  simp only[Brd.pv]at sn;have hb0:Obj.box [AV.p (PV.sl (some 2) (List.map Prt.pv b.parts)),AV.p (PV.sl (some 3) (List.map Jon.pv b.joins)),AV.p (PV.sl (some 2) (List.map Pul.pv b.pulls))]=qA b:=rfl
  rw[hb0,sn];simp only[go_sem];have xg:∀k (hk:k<(sA b).length),xs[k]?=some (.str (sA b)[k]):=fun k hk=>by
   have:=congrArg (fun l=>l[k]?) x2
   simp only[win,List.drop_zero,List.getElem?_take,hk,if_true,List.getElem?_map,List.getElem?_eq_getElem hk,Option.map_some]at this;exact this
  have lk:=fun(n:Nm2) (t:bA)=>iG (kk:=(none,[2])) (h:=h++qA b::qA b::BA PV.str RA (lB b bits)::t) (id:=h.length+2) (k:=n) (val:=RA) (l:=lB b bits) IG (by simp) JG (ok:=false) (z:=AI 0)
  simp only[cond_false]at lk;refine VA (fun k:Nat=>⟨[(7,.mp (h.length+2)),(8,.own (h.length+3) k 0 k),(21,.own (h.length+5) b.joins.length 0 (sA b).length),(22,AI (sA b).length),(23,AI k)],h++[qA b,qA b,BA PV.str RA (lB b bits),Obj.row none (((xD b bits).take k).map eI) 0,qA b,.row none xs 0],[]⟩) (fun k=>k≤(sA b).length) (fun k=>(sA b).length-k) 0 rfl (by omega) ?_
  intro k hk;have ll:(xD b bits).length=(sA b).length:=List.length_map ..
  rcases Nat.lt_or_ge k (sA b).length with hlt|hge
  ·have g:=xg k hlt
   have w2:IntKind.i64.wrap ((k:Int)+1)=((k+1:Nat):Int):=CA _ (by omega) (by omega)
   have kj:k<b.joins.length:=by omega
   have tk:(xD b bits).take (k+1)=(xD b bits).take k++[(zA (sA b)[k] (lB b bits)).getD 0]:=by
    rw[List.take_succ_eq_append_getElem (by omega)];simp [xD]
   have tl:(((xD b bits).take k).map eI).length=k:=by simp;omega
   have gv:((zA (sA b)[k] (lB b bits)).map RA).getD (AI 0)=AI ((zA (sA b)[k] (lB b bits)).getD 0):=by
    cases zA (sA b)[k] (lB b bits) <;> rfl
   have lkn:=lk (sA b)[k]
   rw[gv]at lkn;generalize (zA (sA b)[k] (lB b bits)).getD 0=v at *;generalize (sA b)[k]=n at *;generalize hrow:((xD b bits).take k).map eI=row at *;generalize BA PV.str RA (lB b bits)=mo at *;generalize hbb:qA b=bo at *;have km:k+1≤WA:=by unfold WA;omega
   simp only[go_sem,hlt,g,x1,x3,kj,lkn,w2,tl,km];refine⟨k+1,?_,by omega,by omega⟩
   rw[tk,List.map_append,hrow];rfl
  ·have e:k=(sA b).length:=by omega
   subst e;rw[List.take_of_length_le (by omega)]
   have wf:win ((xD b bits).map eI) 0 (sA b).length=(xD b bits).map eI:=rD (by simp [ll])
   simp only[go_sem,Nat.lt_irrefl,ll,wf]
 ·rw[if_pos h1]
  simp only[HM,Brd.pv,go_sem,ck,h1]
end Go.Am
end
section
/- Finding and deleting records,strings: printed by program. -/
open Go
set_option linter.unusedSimpArgs false
namespace Go.Am
attribute [-go_sem] PV.cells splice
variable {h:bA} {K:nA}
theorem zbl {v:AV}{g:Nat}{caps:List AV}{p:PV→Bool}{xs:List PV}(hv:Shows none v xs h)(hp:fE g caps p xs h)(hl:xs.length≤1000000000) :
 kA X vK [v,.fn g caps] h K=K (AI (WC p xs)) h []:=by
 refine IA ?_;rw[zew];have vl:=hv.len
 simp only[CQ,go_sem,vl];refine VA (fun k:Nat=>⟨[(0,v),(1,.fn g caps),(7,AI xs.length),(8,AI k)],h,[]⟩) (fun k=>k≤xs.length∧∀x∈xs.take k,p x=false) (fun k=>xs.length-k) 0 rfl (by simp) ?_
 rintro k ⟨hk,hn⟩
 rcases Nat.lt_or_ge k xs.length with hlt|hge
 ·obtain⟨a,ha,hb⟩:=hv.get k hlt
  have w2:IntKind.i64.wrap ((k:Int)+1)=((k+1:Nat):Int):=CA _ (by omega) (by omega)
  have ht:=hp _ (List.getElem_mem hlt)
  cases hpk:p xs[k]with
  | true=>
   have hf:xs.findIdx p=k:=by
    rw[List.findIdx_eq hlt];refine⟨hpk,fun j hj=>?_⟩
    have:=hn xs[j] (by rw[List.mem_take_iff_getElem];exact⟨j,by omega,rfl⟩)
    simpa using this
   simp only[go_sem,hlt,ha,hb,ht,hpk,w2];simp only[WC,hf,hlt,if_true]
  | false=>
   simp only[go_sem,hlt,ha,hb,ht,hpk,w2];refine⟨k+1,rfl,⟨by omega,fun x hx=>?_⟩,by omega⟩
   rw[List.take_succ_eq_append_getElem hlt,List.mem_append,List.mem_singleton]at hx;rcases hx with hx|hx
   ·exact hn x hx
   ·rw[hx];exact hpk
 ·have e1:k=xs.length:=by omega
  subst e1;simp only[go_sem,Nat.lt_irrefl];rw[List.take_length]at hn;have:¬xs.findIdx p<xs.length:=by
   rw[Nat.not_lt,Nat.le_iff_lt_or_eq];right
   exact(List.findIdx_eq_length.2 (fun x hx=>by simp [hn x hx])).symm
  simp [WC,this]
attribute [-go_sem] AV.cells cut
attribute [go_sem] AV.cells cut
end Go.Am
end
section
/- Deleting strings at the front of a row: printed by program. -/
open Go
set_option linter.unusedSimpArgs false
namespace Go.Am
attribute [-go_sem] PV.cells splice
variable {h:bA} {K:nA}
theorem XZ (id n:Nat)(l tl:List PV)(hn:n=l.length+tl.length)(hs:ZB none l)(hst0:ZB none tl)(hl:l.length≤100000)(hh:h[id]?=some (.row none (l++tl) 0)){g:Nat}{caps:List AV}{p:PV→Bool}(hp:lT g caps p l id h) :
 kA X DH [.own id n 0 l.length,.fn g caps] h K=K (.own id n 0 (l.filter fun x=>!p x).length) (h.set id (.row none ((l.filter fun x=>!p x)++(List.replicate (l.length-(l.filter fun x=>!p x).length) (PV.str [])++tl)) 0)) []:=by
 refine IA ?_;rw[zeq];have hid:=JB hh
 have hst:∀o,(h.set id o)[id]?=some o:=fun o=>VG hid
 have hwin:win (l++tl) 0 l.length=l:=by simp [win]
 have hi:=fun K=>zbl (h:=h) (K:=K) (v:=.own id n 0 l.length) (xs:=l) (by
  have:=qO (sh:=none) (id:=id) (off:=0) (len:=l.length) (fz:=0) (xs:=l++tl) (zoJ hs hst0) hh (by simp)
  rw[hwin,List.length_append,←hn]at this;exact this) (fun x hx K=>by have:=hp (.row none (l++tl) 0) x hx K;rwa [WG hh]at this) (by omega)
 have hln:l.length≤n:=by omega
 simp only[xQ,go_sem,hi];by_cases hf:l.findIdx p<l.length
 ·have e1:WC p l=(l.findIdx p:Int):=by simp [WC,hf]
  have e2:¬((l.findIdx p:Int) = -1):=by omega
  have w0:IntKind.i64.wrap ((l.findIdx p:Int)+1)=((l.findIdx p+1:Nat):Int):=CA _ (by omega) (by omega)
  simp only[go_sem,e1,e2,w0];have hF0:((l.take (l.findIdx p+1)).filter fun x=>!p x)=l.take (l.findIdx p):=by
   rw[List.take_succ_eq_append_getElem hf,List.filter_append];have q1:(l.take (l.findIdx p)).filter (fun x=>!p x)=l.take (l.findIdx p):=by
    rw[List.filter_eq_self];intro x hx;obtain⟨j,hj,rfl⟩:=List.mem_take_iff_getElem.1 hx;have:=List.not_of_lt_findIdx (show j<l.findIdx p by omega)
    simpa using this
   rw[q1];have:p l[l.findIdx p]=true:=List.findIdx_getElem (w:=hf)
   simp [this]
  refine VA (fun t:List PV×Nat×Nat=>⟨[(0,.own id n 0 l.length),(1,.fn g caps),(5,AI t.2.1),(6,AI t.2.2)],h.set id (.row none (t.1++tl) 0),[]⟩)
   (fun t=>t.1.length=l.length∧ZB none t.1∧t.2.1<t.2.2∧t.2.2≤l.length∧t.1.take t.2.1=((l.take t.2.2).filter fun x=>!p x)∧t.1.drop t.2.2=l.drop t.2.2) (fun t=>l.length-t.2.2)
   (l,l.findIdx p,l.findIdx p+1) (by rw[WG hh]) ⟨rfl,hs,by simp,hf,by rw[hF0],rfl⟩ ?_
  rintro⟨row,i,j⟩ ⟨r1,r2,r3,r4,r5,r6⟩
  dsimp only at r1 r2 r3 r4 r5 r6;have w1:IntKind.i64.wrap ((j:Int)+1)=((j+1:Nat):Int):=CA _ (by omega) (by omega)
  have w2:IntKind.i64.wrap ((i:Int)+1)=((i+1:Nat):Int):=CA _ (by omega) (by omega)
  rcases Nat.lt_or_ge j l.length with hlt|hge
  ·have g1:row[j]?=some l[j]:=by
    have:=congrArg (·[0]?) r6
    simp only[List.getElem?_drop,Nat.add_zero]at this;rw[this,List.getElem?_eq_getElem hlt]
   have hsj:=XG hs hlt
   have cx:=HF hsj
   have hil:i<l.length:=by omega
   have g2:row[i]?=some row[i]:=List.getElem?_eq_getElem (by omega)
   have g1t:(row++tl)[j]?=some l[j]:=by rw[List.getElem?_append_left (by omega)];exact g1
   have g2t:(row++tl)[i]?=some row[i]:=by rw[List.getElem?_append_left (by omega)];exact g2
   have hrl:(row++tl).length=n:=by rw[List.length_append,r1];omega
   have hset:(row++tl).set i l[j]=row.set i l[j]++tl:=List.set_append_left _ _ (by omega)
   generalize hRT:row++tl=rt at *;have hsi:=XG r2 (show i<row.length by omega)
   have t1:=fun xs h1=>mM hsj hsi id i 0 xs h1
   have lx:=kM hsj
   have sx:=jM hsj
   simp only[lA]at lx;have hpj:=fun o K=>hp o _ (List.getElem_mem hlt) K
   cases hpx:p l[j]with
   | true=>
    simp only[go_sem,hst,hrl,hln,hlt,g1t,cx,hpj,hpx,w1];refine⟨(row,i,j+1),by rw[hRT],⟨r1,r2,by dsimp only;omega,by dsimp only;omega,?_,?_⟩,by dsimp only;omega⟩
    ·rw[List.take_succ_eq_append_getElem hlt,List.filter_append]
     simp [hpx,r5]
    ·rw[←List.drop_drop,r6,List.drop_drop]
   | false=>
    simp only[go_sem,hst,hrl,hln,hlt,hil,g1t,g2t,cx,hpj,hpx,w1,w2,lx,sx,t1,hset];refine⟨(row.set i l[j],i+1,j+1),rfl,⟨by simpa using r1,fun x hx=>?_,by dsimp only;omega,by dsimp only;omega,?_,?_⟩,by dsimp only;omega⟩
    ·rcases List.mem_or_eq_of_mem_set hx with hx|rfl
     ·exact r2 x hx
     ·exact hsj
    ·dsimp only
     rw[List.take_succ_eq_append_getElem hlt,List.filter_append,←r5,List.take_succ_eq_append_getElem (by simp;omega)]
     simp [hpx,List.take_set_of_le]
    ·dsimp only
     rw[List.drop_set_of_lt (by omega),←List.drop_drop,r6,List.drop_drop]
  ·have ej:j=l.length:=by omega
   subst ej;rw[List.take_length]at r5;have hm:(l.filter fun x=>!p x).length=i:=by rw[←r5];simp;omega
   have hil:i≤l.length:=by omega
   have e3:l.length-i+i=l.length:=by omega
   have sp:splice (row++tl) i (List.replicate (l.length-i) (PV.str []))=(l.filter fun x=>!p x)++(List.replicate (l.length-i) (PV.str [])++tl):=by
    unfold splice;rw[List.take_append_of_le_length (by omega),r5,List.length_replicate,List.drop_append,List.drop_of_length_le (by omega),List.nil_append,List.append_assoc]
    rw[show i+(l.length-i)-row.length=0 by omega,List.drop_zero]
   have rl:((l.filter fun x=>!p x)++(List.replicate (l.length-i) (PV.str [])++tl)).length=n:=by simp only[List.length_append,hm,List.length_replicate];omega
   have rl2:(row++tl).length=n:=by rw[List.length_append,r1];omega
   rw[hm];generalize (l.filter fun x=>!p x)++(List.replicate (l.length-i) (PV.str [])++tl)=row' at *
   generalize row++tl=rt at *;have hb:¬h.length≤id:=by omega
   have hb2:max h.length (id+1)=h.length:=by omega
   have hb3:id+1≤h.length:=hid
   simp only[go_sem,Nat.lt_irrefl,hst,rl2,rl,hil,hln,sp,show i+(l.length-i)=l.length by omega,hb,hb2,hb3]
 ·have e1:WC p l = -1:=by simp [WC,hf]
  have hF:(l.filter fun x=>!p x)=l:=by
   rw[List.filter_eq_self];intro x hx;cases hpx:p x with
   | false=>rfl
   | true=>exact absurd (List.findIdx_lt_length_of_exists ⟨x,hx,hpx⟩) hf
  have hb:¬h.length≤id:=by omega
  have hb2:max h.length (id+1)=h.length:=by omega
  have hb3:id+1≤h.length:=hid
  simp only[go_sem,e1,hF,Nat.sub_self,List.replicate_zero,List.append_nil,hb,hb2,hb3];rw[WG hh]
end Go.Am
end
