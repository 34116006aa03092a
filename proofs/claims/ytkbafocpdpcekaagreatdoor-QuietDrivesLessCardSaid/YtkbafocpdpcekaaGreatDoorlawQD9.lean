/- Texts of the proof, laid together: SpBrd17, SpPath, SpReady, PPrtG, PQui, SpLawQD, Bridge, AmL2. -/
import Derived.KernelRfl
import Derived.ProofKit
import Derived.Shelf.Strconv.Itoa3
import Derived.Lib.LaidTab
import Derived.Test.YtkbafocpdpcekaaGreatDoorlawQD8
set_option linter.all false
section
/- Quiet bits of a part: the program. -/
open Go
set_option linter.all false
set_option maxRecDepth 100000
namespace Go.Am
variable {h:aA} {K:mA}
attribute [-go_sem] kB BB YB XB fJ eJ
def IF (c:Cel):Option (Int×Int):=if c.kind=2∧0≤c.ctl then some (c.ctl,c.off) else none
def YA (l:List Cel)(q:Int × Int):Nat:=(l.filter fun c=>decide (IF c=some q)).length
def aB (p:Prt):Nm2:=(List.range p.cells.length).map fun(k:Nat)=>if YA p.cells ((k:Int),1)>YA p.cells ((k:Int),0) then 49 else 48
theorem gY (l:List Cel)(c:Cel)(q:Int × Int):YA (l++[c]) q=YA l q+if IF c=some q then 1 else 0:=by
 unfold YA;rw[List.filter_append,List.length_append];by_cases h:IF c=some q <;> simp [h]
def spI (s:Int × Int):PV:=.agg [.int .i64 s.1,.int .i64 s.2]
theorem SS:JG spI:=fun a b=>by
 obtain⟨a1,a2⟩:=a;obtain⟨b1,b2⟩:=b;have e:decide ((a1,a2)=(b1,b2))=(decide (a1=b1)&&(decide (a2=b2)&&true)):=by rw[Bool.eq_iff_iff];simp
 rw[e];rfl
theorem US {s:Int × Int}:oC (some 2,[0,0]) (.p (spI s))=some (spI s):=by simp [spI,oC,PV.key,PV.shp,PV.sc,PV.cells,PV.kind]
theorem zfk {α β:Type}[DecidableEq α](k k':α)(v:β)(l:List (α × β)):QA k' (cE k v l)=if k'=k then some ((QA k l).getD v) else QA k' l:=by
 unfold cE;have hs:=z4t (k:=k) (l:=l)
 cases hw:yB k l with
 | none=>
  rw[hw]at hs;have hn:QA k l=none:=by simpa using hs.symm
  rw[←TL hw,hn];simp only[Option.isSome_none,Bool.false_eq_true,if_false];rw[KS];rfl
 | some i=>
  rw[hw]at hs;obtain⟨w,hw2⟩:=Option.isSome_iff_exists.1 hs.symm;simp only[Option.isSome_some,if_true];by_cases e:k'=k
  ·subst e;rw[if_pos rfl,hw2];rfl
  ·rw[if_neg e]
theorem repQ (c:UInt8):∀n,BG [c] n=List.replicate n c
 | 0=>rfl
 | n+1=>by rw[BG,repQ c n];rfl
def WC (A B:Nm2)(k:Nat):List PV:=lB (A.take k++B.drop k)
theorem zgY {A B:Nm2}{k:Nat}(ha:k<A.length)(hb:k<B.length):(WC A B k).set k (.int .u8 (A[k]).toNat)=WC A B (k+1):=by
 have e1:A.take (k+1)=A.take k++[A[k]]:=List.take_succ_eq_append_getElem ha
 have e2:B.drop k=B[k]::B.drop (k+1):=List.drop_eq_getElem_cons hb
 unfold WC lB;rw[e1,e2,List.map_append,List.map_append,List.map_append,List.set_append_right _ _ (by simp;omega)]
 have:k-(List.map (fun z:UInt8=>PV.int .u8 z.toNat) (A.take k)).length=0:=by simp;omega
 rw[this];simp only[List.map_cons,List.set_cons_zero,List.append_assoc,List.cons_append,List.nil_append,List.map_nil]
theorem zgX {A B:Nm2}{k:Nat}(ha:k<A.length)(hb:k<B.length)(h:A[k]=B[k]):WC A B k=WC A B (k+1):=by
 have e1:A.take (k+1)=A.take k++[A[k]]:=List.take_succ_eq_append_getElem ha
 have e2:B.drop k=B[k]::B.drop (k+1):=List.drop_eq_getElem_cons hb
 unfold WC;rw[e1,e2,h,List.append_assoc];rfl
theorem zgW {A B:Nm2}{k:Nat}(ha:k≤A.length)(hb:k<B.length):(WC A B k)[k]?=some (.int .u8 (B[k]).toNat):=by
 have e2:B.drop k=B[k]::B.drop (k+1):=List.drop_eq_getElem_cons hb
 unfold WC lB;rw[e2,List.map_append,List.getElem?_append_right (by simp;omega)]
 have:k-(List.map (fun z:UInt8=>PV.int .u8 z.toNat) (A.take k)).length=0:=by simp;omega
 rw[this];rfl
theorem zkB (p:Prt)(hl:p.cells.length≤1000):kA X wI [.p p.pv] h K=K (.p (.sl none (lB (aB p)))) h []:=by
 refine JA ?_;rw[zav rfl];have ln:(p.cells.map Cel.pv).length=p.cells.length:=List.length_map ..
 have rp:=fun hh K=>zkk (h:=hh) (K:=K) [48] p.cells.length (by omega) (by simp;omega) (by omega)
 have l48:(List.replicate p.cells.length (48:UInt8)).length=p.cells.length:=List.length_replicate
 have lm:p.cells.length≤XA:=by unfold XA;omega
 simp only[repQ,Int.toNat_natCast]at rp;simp only[WM,Prt.pv,go_sem,ln,rp,l48,lm];refine UA (fun t:Nat×List ((Int×Int)×Int)=>⟨[(1,.ref h.length 0),(3,.own (h.length+1) p.cells.length 0 p.cells.length),(4,.mp (h.length+2)),(15,FC p.cells),(16,AI p.cells.length),(17,AI t.1)],h++[p.bx,.row none (lB (List.replicate p.cells.length 48)) 0,oB spI TD t.2],[]⟩)
  (fun t=>t.1≤p.cells.length∧∀q,(QA q t.2).getD 0=YA (p.cells.take t.1) q) (fun t=>p.cells.length-t.1) (0,[]) rfl ⟨by omega,fun q=>rfl⟩ ?_
 rintro⟨k,M⟩ ⟨hk,hM⟩
 dsimp only at hk hM ⊢;rcases Nat.lt_or_ge k p.cells.length with hlt|hge
 ·have g:=dB Cel.pv hlt
  have c1:IA (some 4) 0 p.cells[k].pv=some p.cells[k].pv:=rfl
  have w2:IntKind.i64.wrap ((k:Int)+1)=((k+1:Nat):Int):=FA _ (by omega) (by omega)
  have tk:p.cells.take (k+1)=p.cells.take k++[p.cells[k]]:=List.take_succ_eq_append_getElem hlt
  have nx:=fun q=>gY (p.cells.take k) p.cells[k] q
  rw[←tk]at nx;generalize hcc:p.cells[k]=c at *;simp only[Cel.pv,eI]at g c1;unfold IF at nx;by_cases hkind:c.kind=2
  ·have hkp:=eq_true hkind
   by_cases hctl:0≤c.ctl
   ·have hc':=eq_true hctl
    have lk:=fun(bo ro:Obj) (M:List ((Int×Int)×Int)) (t:aA)=>VK (kk:=(some 2,[0,0])) (h:=h++bo::ro::oB spI TD M::t) (id:=h.length+2) (k:=(c.ctl,c.off)) (val:=TD) (l:=M) SS (by simp) US (ok:=false) (z:=AI 0)
    have me:=fun(bo ro:Obj) (M:List ((Int×Int)×Int)) (t:aA)=>zgT (kk:=(some 2,[0,0])) (h:=h++bo::ro::oB spI TD M::t) (id:=h.length+2) (k:=(c.ctl,c.off)) (val:=TD) (l:=M) SS (by simp) US (v0:=0)
    have es:=fun(bo ro:Obj) (v:Int) (t:aA)=>zeD (h:=h++bo::ro::oB spI TD (cE (c.ctl,c.off) 0 M)::t) (id:=h.length+2) (k:=(c.ctl,c.off)) (key:=spI) (val:=TD) (l:=M) (v0:=0) (by simp) (v:=v) rfl
    have gv:∀M:List ((Int×Int)×Int),((QA (c.ctl,c.off) M).map TD).getD (AI 0)=AI ((QA (c.ctl,c.off) M).getD 0):=fun M=>by cases QA (c.ctl,c.off) M <;> rfl
    have ge:(QA (c.ctl,c.off) (cE (c.ctl,c.off) 0 M)).getD 0=(QA (c.ctl,c.off) M).getD 0:=by rw[zfk,if_pos rfl];rfl
    have hMc:=hM (c.ctl,c.off)
    have gb:(YA (p.cells.take k) (c.ctl,c.off))≤k:=by
     unfold YA;refine Nat.le_trans (List.length_filter_le _ _) ?_;simp;omega
    have wv:IntKind.i64.wrap (((QA (c.ctl,c.off) M).getD 0)+1)=((QA (c.ctl,c.off) M).getD 0)+1:=by rw[hMc];exact FA _ (by omega) (by omega)
    simp only[gv,ge,cond_false,spI,TD,RB,AV.top,Nat.not_lt_zero,if_false]at lk me es;have lk2:=fun bo ro t=>lk bo ro (cE (c.ctl,c.off) 0 M) t
    simp only[ge]at lk2;simp only[go_sem,Prt.bx,hlt,g,c1,w2,ln,hkp,hc',lk,lk2,me,es,wv];refine⟨by rw[ge],(k+1,qC (c.ctl,c.off) ((QA (c.ctl,c.off) M).getD 0+1) M),rfl,⟨hlt,fun q=>?_⟩,by dsimp only;omega⟩
    dsimp only;have nq:=nx q
    rw[if_pos (show c.kind=2∧0≤c.ctl from⟨hkind,hctl⟩)]at nq
    rw[KS,nq];by_cases hq:q=(c.ctl,c.off)
    ·rw[if_pos hq,if_pos (by rw[hq]),hq]
     show(QA (c.ctl,c.off) M).getD 0+1=_
     rw[hMc];rfl
    ·rw[if_neg hq,if_neg (fun x=>hq (Option.some.inj x).symm)]
     exact hM q
   ·have hc':=eq_false hctl
    simp only[go_sem,Prt.bx,hlt,g,c1,w2,ln,hkp,hc'];refine⟨(k+1,M),rfl,⟨hlt,fun q=>?_⟩,by dsimp only;omega⟩
    have nq:=nx q
    rw[if_neg (show ¬(c.kind=2∧0≤c.ctl) from fun x=>hctl x.2),if_neg (by simp)]at nq
    dsimp only;rw[nq];exact hM q
  ·simp only[go_sem,Prt.bx,hlt,g,c1,w2,ln,hkind]
   refine⟨(k+1,M),rfl,⟨hlt,fun q=>?_⟩,by dsimp only;omega⟩
   have nq:=nx q
   rw[if_neg (show ¬(c.kind=2∧0≤c.ctl) from fun x=>hkind x.1),if_neg (by simp)]at nq
   dsimp only;rw[nq];exact hM q
 ·have e:k=p.cells.length:=by omega
  subst e;rw[List.take_length]at hM;simp only[go_sem,Nat.lt_irrefl,Prt.bx,ln];have lq:(aB p).length=p.cells.length:=by simp [aB]
  have lk:=fun(bo ro:Obj) (q:Int×Int) (t:aA)=>VK (kk:=(some 2,[0,0])) (h:=h++bo::ro::oB spI TD M::t) (id:=h.length+2) (k:=q) (val:=TD) (l:=M) SS (by simp) US (ok:=false) (z:=AI 0)
  have gv:∀q:Int×Int,((QA q M).map TD).getD (AI 0)=AI (YA p.cells q):=fun q=>by
   rw[←hM q];cases QA q M <;> rfl
  have lk1:=fun(bo ro:Obj) (a b:Int) (t:aA)=>lk bo ro (a,b) t
  simp only[gv,cond_false,spI]at lk1;refine UA (fun k:Nat=>⟨[(3,.own (h.length+1) p.cells.length 0 p.cells.length),(4,.mp (h.length+2)),(42,AI p.cells.length),(43,AI k)],h++[p.bx,.row none (WC (aB p) (List.replicate p.cells.length 48) k) 0,oB spI TD M],[]⟩) (fun k=>k≤p.cells.length) (fun k=>p.cells.length-k) 0 (by unfold WC;rfl) (by omega) ?_
  intro k hk;rcases Nat.lt_or_ge k p.cells.length with hlt|hge
  ·have w2:IntKind.i64.wrap ((k:Int)+1)=((k+1:Nat):Int):=FA _ (by omega) (by omega)
   have kq:k<(aB p).length:=by omega
   have kr:k<(List.replicate p.cells.length (48:UInt8)).length:=by simp;omega
   have m1:=zgY kq kr
   have m2:=zgX kq kr
   have m3:=zgW (A:=aB p) (by omega) kr
   have ml:(WC (aB p) (List.replicate p.cells.length 48) k).length=p.cells.length:=by simp [WC,lB];omega
   have q0:(aB p)[k]=if YA p.cells ((k:Int),1)>YA p.cells ((k:Int),0) then 49 else 48:=by simp [aB]
   have r0:(List.replicate p.cells.length (48:UInt8))[k]=48:=List.getElem_replicate ..
   rw[q0]at m1 m2;rw[r0]at m2 m3;generalize hm1:WC (aB p) (List.replicate p.cells.length 48) (k+1)=R1 at *;generalize WC (aB p) (List.replicate p.cells.length 48) k=R at *;by_cases hcmp:YA p.cells ((k:Int),1)>YA p.cells ((k:Int),0)
   ·rw[if_pos hcmp]at m1
    have m1':R.set k (.int .u8 49)=R1:=m1
    have hg:((YA p.cells ((k:Int),0):Int)<YA p.cells ((k:Int),1))=True:=eq_true (by omega)
    simp only[go_sem,hlt,w2,lk1,hg,m3,ml,m1',Prt.bx];exact⟨k+1,by rw[hm1],by omega,by omega⟩
   ·rw[if_neg hcmp]at m2
    have m2':=m2 rfl
    have hg:((YA p.cells ((k:Int),0):Int)<YA p.cells ((k:Int),1))=False:=eq_false (by omega)
    simp only[go_sem,hlt,w2,lk1,hg,Prt.bx];exact⟨k+1,by rw[hm1,m2'],by omega,by omega⟩
  ·have e:k=p.cells.length:=by omega
   subst e;have me:WC (aB p) (List.replicate p.cells.length 48) p.cells.length=lB (aB p):=by
    unfold WC;rw[List.take_of_length_le (by omega),List.drop_eq_nil_of_le (by simp),List.append_nil]
   rw[me];have lbq:(lB (aB p)).length=p.cells.length:=by simp [lB,lq]
   have wq:win (lB (aB p)) 0 p.cells.length=lB (aB p):=UL lbq
   simp only[go_sem,Nat.lt_irrefl,lbq,wq]
def aP (b:Brd):List Nm2×Int:=if wD b≠0 then([],wD b) else(b.parts.map aB,0)
theorem toB3:∀ s:List UInt8,DG (lB s)=some s
 | []=>rfl
 | c::r=>by
  have ih:=toB3 r
  unfold lB at ih ⊢;rw[List.map_cons];unfold DG;rw[ih];have:((c.toNat:Int))<256:=by have:=c.toNat_lt;omega
  rw[if_pos ⟨by omega,this⟩]
  simp
theorem zkj (b:Brd)(ho:BrdOk b):kA X vI [.p b.pv] h K=K (.tup [.p (.sl none ((aP b).1.map PV.str)),AI (aP b).2]) h []:=by
 refine JA ?_;rw[zaj rfl];have ck:=fun hh K=>zka (h:=hh) (K:=K) b ho
 simp only[Brd.pv]at ck;unfold aP;have ln:(b.parts.map Prt.pv).length=b.parts.length:=List.length_map ..
 by_cases h1:wD b=0
 ·rw[if_neg (by simp [h1])]
  have R:=zab h1
  have hp40:=R.p
  simp only[oK,Brd.pv,go_sem,ck,h1,ln];refine UA (fun k:Nat=>⟨[(5,.own (h.length+1) k 0 k),(14,SC b.parts),(15,AI b.parts.length),(16,AI k)],h++[EA b,.row none (((b.parts.map aB).take k).map PV.str) 0],[]⟩) (fun k=>k≤b.parts.length) (fun k=>b.parts.length-k) 0 rfl (by omega) ?_
  intro k hk;rcases Nat.lt_or_ge k b.parts.length with hlt|hge
  ·have g:=dB Prt.pv hlt
   have w2:IntKind.i64.wrap ((k:Int)+1)=((k+1:Nat):Int):=FA _ (by omega) (by omega)
   have c1:IA (some 2) 0 b.parts[k].pv=some b.parts[k].pv:=rfl
   have tk:(b.parts.map aB).take (k+1)=(b.parts.map aB).take k++[aB b.parts[k]]:=by
    rw[List.take_succ_eq_append_getElem (by simpa using hlt)];simp
   have c200:=R.c _ (List.getElem_mem hlt)
   have tl:(((b.parts.map aB).take k).map PV.str).length=k:=by simp;omega
   have sq:=fun hh K=>zkB (h:=hh) (K:=K) b.parts[k] (by omega)
   have tb:=toB3 (aB b.parts[k])
   generalize aB b.parts[k]=q at *;generalize b.parts[k]=p at *;simp only[Prt.pv]at g c1 sq;generalize hrows:((b.parts.map aB).take k).map PV.str=rows at *;have km:k+1≤XA:=by unfold XA;omega
   simp only[go_sem,EA,hlt,g,c1,w2,sq,tb,tl,km];refine⟨k+1,?_,by omega,by omega⟩
   rw[tk,List.map_append,hrows];rfl
  ·have e:k=b.parts.length:=by omega
   subst e;rw[List.take_of_length_le (by simp)]
   have lq:((b.parts.map aB).map PV.str).length=b.parts.length:=by simp
   have wf:win ((b.parts.map aB).map PV.str) 0 b.parts.length=(b.parts.map aB).map PV.str:=UL lq
   generalize (b.parts.map aB).map PV.str=rows at *;simp only[go_sem,Nat.lt_irrefl,lq,wf]
 ·rw[if_pos h1]
  simp only[oK,Brd.pv,go_sem,ck,h1]
end Go.Am
end
section
/- The shortest way between two states of a test access port: a search over a queue. -/
open Go
set_option linter.all false
namespace Go.Am
variable {h:aA} {K:mA}
attribute [-go_sem] kB BB XB YB
def nxtT:List (List Nat):=[[1,0],[1,2],[3,9],[4,5],[4,5],[6,8],[6,7],[4,8],[1,2],[10,0],[11,12],[11,12],[13,15],[13,14],[11,15],[1,2]]
def nxt (s t:Nat):Nat:=(nxtT.getD s []).getD t 0
theorem zht {s t:Nat}(hs:s<16)(ht:t<2):([AI 1,AI 0,AI 1,AI 2,AI 3,AI 9,AI 4,AI 5,AI 4,AI 5,AI 6,AI 8,AI 6,AI 7,AI 4,AI 8,AI 1,AI 2,AI 10,AI 0,AI 11,AI 12,AI 11,AI 12,AI 13,AI 15,AI 13,AI 14,AI 11,AI 15,AI 1,AI 2]:List AV)[s*2+t*1]?=some (AI (nxt s t)):=by
 have hs':s=0∨s=1∨s=2∨s=3∨s=4∨s=5∨s=6∨s=7∨s=8∨s=9∨s=10∨s=11∨s=12∨s=13∨s=14∨s=15:=by omega
 have ht':t=0∨t=1:=by omega
 rcases hs' with rfl|rfl|rfl|rfl|rfl|rfl|rfl|rfl|rfl|rfl|rfl|rfl|rfl|rfl|rfl|rfl <;> rcases ht' with rfl|rfl <;> rfl
theorem zfj {Y:Ctx}(hY:Y.fn pH=some dK)(s t:Nat)(hs:s<16)(ht:t<2):kA Y pH [AI s,AI t] h K=K (AI (nxt s t)) h []:=by
 refine JA ?_;rw[PA hY rfl (show zA h [AI s,AI t]=some ([AI s,AI t],h) from rfl) rfl,zez]
 show XR _ _ _ _ _ _ (wA [.t 4] false _ _)
 have g:=zht hs ht
 simp only[XR,go_sem,hs,ht,g]
abbrev KC:=List (Int × List UInt8)
def QC (n:Int):PV:=.int .i64 n
def RC (s:List UInt8):AV:=.p (.str s)
def MG (t:Nat):List UInt8:=[UInt8.ofNat (48+t)]
def FG (at_ t:Nat)(s:KC × List Nat):KC×List Nat:=
 if(QA (nxt at_ t:Int) s.1).isSome then s else(qC (nxt at_ t:Int) ((QA (at_:Int) s.1).getD []++MG t) s.1,s.2++[nxt at_ t])
def RF (at_:Nat):Nat→KC×List Nat→KC×List Nat
 | 0,s=>s
 | t+1,s=>FG at_ t (RF at_ t s)
def popS (s:KC × List Nat):KC×List Nat:=match s.2 with
 | []=>s
 | a::r=>RF a 2 (s.1,r)
def bfs (a:Nat):Nat→KC×List Nat
 | 0=>([((a:Int),[])],[a])
 | k+1=>popS (bfs a k)
def cU (a b:Nat):List UInt8:=(QA (b:Int) (bfs a 16).1).getD []
def UI (s:KC × List Nat):Bool:=decide (s.1.length≤16)&&decide (s.2.length≤16)&&s.2.all (fun x=>decide (x<16))&&s.1.all (fun e=>decide (e.2.length≤16))
theorem oX:(List.range 16).all (fun a=>(List.range 16).all (fun k=>UI (bfs a k) && !(bfs a k).2.isEmpty)&&UI (bfs a 16)&&(bfs a 16).2.isEmpty)=true:=by kernel_rfl
theorem z9I {a k:Nat}(ha:a<16)(hk:k<16):UI (bfs a k)=true∧(bfs a k).2≠[]:=by
 have h1:=List.all_eq_true.1 oX a (List.mem_range.2 ha)
 simp only[Bool.and_eq_true]at h1;have h2:=List.all_eq_true.1 h1.1.1 k (List.mem_range.2 hk)
 simp only[Bool.and_eq_true,Bool.not_eq_true',List.isEmpty_eq_false_iff]at h2;exact h2
theorem z9H {a:Nat}(ha:a<16):UI (bfs a 16)=true∧(bfs a 16).2=[]:=by
 have h1:=List.all_eq_true.1 oX a (List.mem_range.2 ha)
 simp only[Bool.and_eq_true,List.isEmpty_iff]at h1;exact⟨h1.1.2,h1.2⟩
theorem zeU {s:KC × List Nat}(hf:UI s=true):s.1.length≤16∧s.2.length≤16∧(∀x∈s.2,x<16)∧∀e∈s.1,e.2.length≤16:=by
 unfold UI at hf;simp only[Bool.and_eq_true,decide_eq_true_eq,List.all_eq_true]at hf;exact⟨hf.1.1.1,hf.1.1.2,hf.1.2,hf.2⟩
theorem z2y {hp:aA}{id:Nat}{m:KC}{b:Int}(hh:hp[id]?=some (oB QC RC m)):kB (none,[0]) false (.p (.str [])) (.mp id) (AI b) hp=some (.p (.str ((QA b m).getD []))):=by
 have:=VK (key:=QC) (val:=RC) (fun a b=>RS a b) hh (kk:=(none,[0])) (k:=b) TS (ok:=false) (z:=.p (.str []))
 rw[cond_false]at this;refine this.trans ?_;cases QA b m <;> rfl
theorem lookQ {hp:aA}{id:Nat}{m:KC}{b:Int}(hh:hp[id]?=some (oB QC RC m)):kB (none,[0]) true (.p (.str [])) (.mp id) (AI b) hp=some (.tup [.p (.str ((QA b m).getD [])),AB (QA b m).isSome]):=by
 have:=VK (key:=QC) (val:=RC) (fun a b=>RS a b) hh (kk:=(none,[0])) (k:=b) TS (ok:=true) (z:=.p (.str []))
 rw[cond_true]at this;refine this.trans ?_;cases QA b m <;> rfl
theorem updP {hp:aA}{id:Nat}{m:KC}{b:Int}{v:List UInt8}(hh:hp[id]?=some (oB QC RC m)):BB (none,[0]) (.mp id) (AI b) (.p (.str v)) hp=some (.und,hp.set id (oB QC RC (qC b v m)),[]):=
 z29 (key:=QC) (val:=RC) (fun a b=>RS a b) hh (kk:=(none,[0])) (k:=b) TS (v:=v) rfl
structure Que (R:aA) (i:Nat) (xs:List Nat) (off:Nat) (q:List Nat):Prop where
 get:R[i]?=some (.row none (xs.map fun n:Nat=>eI n) 0)
 le:off≤xs.length
 eq:xs.drop off=q
theorem zhs {hp:aA}{id:Nat}{xs:List Nat}{off:Nat}{n:Int}{k:AV→aA→Esc→Prop}(hh:hp[id]?=some (.row none (xs.map fun n:Nat=>eI n) 0))(ho:off≤xs.length)(hm:xs.length≤1000000)
 (k1:k (.own id (xs.length+1) off (xs.length-off+1)) (hp.set id (.row none (xs.map (fun n:Nat=>eI n)++[eI n]) 0)) [])
 (k2:k (.own hp.length (xs.length-off+1) 0 (xs.length-off+1)) (hp++[.row none ((xs.drop off).map (fun n:Nat=>eI n)++[eI n]) 0]) []) :
 nqK (some none) [.own id xs.length off (xs.length-off),.p (.sl none [eI n])] hp k:=by
 have hx:xs.length-off+1≤XA:=by unfold XA;omega
 have hr:rds hp (.p (.sl none [eI n]))=some (none,[eI n]):=rfl
 have hw:win (xs.map fun n:Nat=>eI n) off (xs.length-off)=(xs.drop off).map fun n:Nat=>eI n:=by
  unfold win;rw[←List.map_drop];exact List.take_of_length_le (by simp)
 unfold nqK TG appq;simp only[hr,if_true,hh,List.length_map,List.length_cons,List.length_nil,Nat.zero_add];rw[if_pos ⟨trivial,trivial,by omega,hx,Nat.zero_le _⟩,hw]
 refine⟨by simp,fun y hy=>?_⟩
 simp only[List.mem_cons,List.not_mem_nil,or_false]at hy;rcases hy with rfl|rfl
 ·exact k1
 ·exact k2
theorem z25 {α β:Type}[DecidableEq α]{k:α}{v:β}:∀{l:List (α×β)} {e:α×β},e∈qC k v l→e∈l∨e=(k,v)
 | [],e,h=>by simp [qC]at h;exact .inr h
 | x::r,e,h=>by
  unfold qC at h;split at h
  ·rcases List.mem_cons.1 h with h|h
   ·exact .inr h
   ·exact .inl (List.mem_cons_of_mem _ h)
  ·rcases List.mem_cons.1 h with h|h
   ·exact .inl (h ▸ List.mem_cons_self)
   ·rcases z25 h with h|h
    ·exact .inl (List.mem_cons_of_mem _ h)
    ·exact .inr h
theorem z1U {α β:Type}[DecidableEq α]{k:α}{v:β}:∀{l:List (α×β)},QA k l=some v→(k,v)∈l
 | [],h=>by cases h
 | x::r,h=>by
  unfold QA at h;split at h
  ·rename_i he;cases h;subst he;simp
  ·exact List.mem_cons_of_mem _ (z1U h)
theorem z4s {n:Nat}{w:KC}(hw:∀ e∈w,e.2.length≤n)(k:Int):((QA k w).getD []).length≤n:=by
 cases hg:QA k w with
 | none=>simp
 | some v=>exact hw _ (z1U hg)
theorem zlI {n at_ t:Nat}{s:KC × List Nat}(hw:∀ e∈s.1,e.2.length≤n):∀e∈(FG at_ t s).1,e.2.length≤n+1:=by
 unfold FG;split
 ·intro e he;have:=hw e he;omega
 ·intro e he
  rcases z25 he with h|h
  ·have:=hw e h;omega
  ·subst h
   have:=z4s hw (at_:Int);simp [MG];omega
theorem z4n {n at_:Nat}{s:KC × List Nat}(hw:∀ e∈s.1,e.2.length≤n):∀(t:Nat),∀e∈(RF at_ t s).1,e.2.length≤n+t
 | 0=>hw
 | t+1=>zlI (z4n hw t)
set_option maxHeartbeats 1000000 in
theorem zfi {Y:Ctx}(hY1:Y.fn qH=some zM)(hY2:Y.fn pH=some dK)(a b:Nat)(ha:a<16)(hb:b<16):kA Y qH [AI a,AI b] h K=K (.p (.str (cU a b))) h []:=by
 refine JA ?_;rw[zbm hY1 rfl (show zA h [AI a,AI b]=some ([AI a,AI b],h) from rfl) rfl]
 simp only[ze0];show ∃v h' x,_∧EN _ _ _ _ _ _ _ _ (wA [.t 4] false _ _)
 simp only[EN];refine⟨_,_,_,⟨rfl,rfl,rfl⟩,?_⟩;have em:oB QC RC [((a:Int),([]:List UInt8))] = .amap [⟨.int .i64 a,.p (.str []),0⟩] 1:=rfl
 have u0:=fun(hp:aA) (hh:hp[h.length]?=some (oB QC RC []))=>updP (b:=(a:Int)) (v:=[]) hh
 have e0:qC (a:Int) [] ([]:KC)=[((a:Int),[])]:=rfl
 have em0:oB QC RC ([]:KC) = .amap [] 0:=rfl
 rw[e0]at u0;simp only[em0]at u0;simp only[go_sem,u0];refine UA (fun t:Nat×aA×Nat×List Nat×Nat×Option Nat=>⟨[(1,AI b),(5,.mp h.length),(6,.own (h.length+(t.2.2.1+1)) t.2.2.2.1.length t.2.2.2.2.1 (t.2.2.2.1.length-t.2.2.2.2.1))]++(match t.2.2.2.2.2 with|none=>[]|some q=>[(7,AI q),(25,AI 2),(26,AB false)]),h++oB QC RC (bfs a t.1).1::t.2.1,[]⟩)
  (fun t=>t.1≤16∧Que t.2.1 t.2.2.1 t.2.2.2.1 t.2.2.2.2.1 (bfs a t.1).2∧t.2.2.2.1.length≤1+2*t.1) (fun t=>16-t.1) (0,[.row none [eI a] 0],0,[a],0,none) (by simp [bfs]) ⟨by simp,⟨rfl,by simp,rfl⟩,by simp⟩ ?_
 rintro⟨k,R,i,xs,off,oq⟩ ⟨h1,hq,h2⟩
 dsimp only at h1 hq h2 ⊢;have hqg:=hq.get
 have hle:=hq.le
 have heq:=hq.eq
 have hln:xs.length-off=(bfs a k).2.length:=by rw[←heq];simp
 by_cases hk:k<16
 ·obtain⟨hf,hne⟩:=z9I ha hk
  obtain⟨f1,f2,f3,f4⟩:=zeU hf;have hpos:0<xs.length-off:=by rw[hln];exact List.length_pos_iff.2 hne
  have hoff:off<xs.length:=by omega
  obtain⟨q0,qr,hqe⟩:∃q0 qr,(bfs a k).2=q0::qr:=by
   cases hb2:(bfs a k).2 with
   | nil=>exact absurd hb2 hne
   | cons x y=>exact⟨x,y,rfl⟩
  have hx0:xs[off]?=some q0:=by
   have:(xs.drop off)[0]?=some q0:=by rw[heq,hqe];rfl
   rwa [List.getElem?_drop,Nat.add_zero]at this
  have hdr:xs.drop (off+1)=qr:=by
   rw[←List.drop_drop,heq,hqe];rfl
  have hq0:q0<16:=f3 q0 (by rw[hqe];simp)
  have hgq:(xs.map fun n:Nat=>eI n)[off]?=some (eI q0):=by rw[List.getElem?_map,hx0];rfl
  have hpi:(0:Int)<((xs.length-off:Nat):Int):=by omega
  have hl1:1≤xs.length-off:=by omega
  have hbn:bfs a (k+1)=RF q0 2 ((bfs a k).1,qr):=by show popS _=_;unfold popS;rw[hqe]
  have e3:xs.length-off-1=xs.length-(off+1):=by omega
  have hcond:off+(xs.length-off)≤xs.length:=by omega
  have hNL:∀(e:List (Nat×AV)),OA (some [1,5,6,7,25]) e=OA (some [1,5,6,7,25]) e:=fun _=>rfl
  rcases oq with _|oq
  all_goals
  simp only[List.append_nil,List.cons_append,List.nil_append,go_sem,List.getElem?_cons_succ,hqg,hpi,hpos,hgq,hl1,hcond];all_goals
  clear u0 em em0 e0;generalize hw0:((bfs a k).1,qr)=s0 at *;have es1:(bfs a k).1=s0.1:=by rw[←hw0]
  have es2:qr=s0.2:=by rw[←hw0]
  rw[es1,e3];refine UA (fun t:Nat×aA×Nat×List Nat×Nat=>⟨[(1,AI b),(5,.mp h.length),(6,.own (h.length+(t.2.2.1+1)) t.2.2.2.1.length t.2.2.2.2 (t.2.2.2.1.length-t.2.2.2.2)),(7,AI q0),(25,AI t.1)],h++oB QC RC (RF q0 t.1 s0).1::t.2.1,[]⟩)
   (fun t=>t.1≤2∧Que t.2.1 t.2.2.1 t.2.2.2.1 t.2.2.2.2 (RF q0 t.1 s0).2∧t.2.2.2.1.length≤1+2*k+t.1) (fun t=>2-t.1) (0,R,i,xs,off+1) rfl ⟨by simp,⟨hqg,hoff,by rw[hdr,es2];rfl⟩,by simp;omega⟩ ?_
  rintro⟨j,R',i',ys,of'⟩ ⟨j1,jq,j2⟩
  dsimp only at j1 jq j2 ⊢;have jg:=jq.get
  have jle:=jq.le
  have jeq:=jq.eq
  by_cases hj:j<2
  ·have hji:(j:Int)<2:=by omega
   have qn:=fun h K=>zfj (h:=h) (K:=K) hY2 q0 j hq0 hj
   have hvis:RF q0 (j+1) s0=FG q0 j (RF q0 j s0):=rfl
   generalize hsj:RF q0 j s0=s at *;have lq:=fun(hp:aA) (hh:hp[h.length]?=some (oB QC RC s.1))=>lookQ (b:=(nxt q0 j:Int)) hh
   have lp:=fun(hp:aA) (hh:hp[h.length]?=some (oB QC RC s.1))=>z2y (b:=(q0:Int)) hh
   have up:=fun(hp:aA) (v:List UInt8) (hh:hp[h.length]?=some (oB QC RC s.1))=>updP (b:=(nxt q0 j:Int)) (v:=v) hh
   have w1:IntKind.i64.wrap ((j:Int)+1)=((j+1:Nat):Int):=FA _ (by omega) (by omega)
   cases hs:(QA (nxt q0 j:Int) s.1).isSome with
   | true=>
    have hv:FG q0 j s=s:=by unfold FG;rw[if_pos hs]
    rw[hv]at hvis;simp only[go_sem,hji,↓qn,qn,lq,hs,w1];exact⟨(j+1,R',i',ys,of'),by dsimp only;rw[hvis],⟨by dsimp only;omega,by dsimp only;rw[hvis];exact jq,by dsimp only;omega⟩,by dsimp only;omega⟩
   | false=>
    have hv:FG q0 j s=(qC (nxt q0 j:Int) ((QA (q0:Int) s.1).getD []++MG j) s.1,s.2++[nxt q0 j]):=by unfold FG;rw[hs];rfl
    rw[hv]at hvis;have w2:IntKind.i64.wrap (48+(j:Int))=((48+j:Nat):Int):=FA _ (by omega) (by omega)
    have w3:IntKind.i32.wrap ((48+j:Nat):Int)=((48+j:Nat):Int):=by
     have:j=0∨j=1:=by omega
     rcases this with rfl|rfl <;> rfl
    have w4:(0:Int)≤((48+j:Nat):Int)∧((48+j:Nat):Int)<128:=by omega
    have hln2:=z4s (z4n (n:=16) (at_:=q0) (s:=s0) (by rw[←es1];exact f4) j) (q0:Int)
    rw[hsj]at hln2;have w5:((QA (q0:Int) s.1).getD []).length+(MG j).length≤WK:=by have:(MG j).length=1:=rfl;unfold WK;omega
    have w6:[UInt8.ofNat ((48+j:Nat):Int).toNat]=MG j:=rfl
    simp only[go_sem,hji,↓qn,qn,lq,hs,lp,up,w1,w2,w3,w4,w5,w6];have hh1:(h++oB QC RC (qC (nxt q0 j:Int) ((QA (q0:Int) s.1).getD []++MG j) s.1)::R')[h.length+(i'+1)]?=some (.row none (ys.map fun n:Nat=>eI n) 0):=by
     rw[List.getElem?_append_right (by omega)];simpa using jg
    have hi':i'<R'.length:=BA jg
    refine zhs hh1 jle (by omega) ?_ ?_
    ·refine⟨(j+1,R'.set i' (.row none (ys.map (fun n:Nat=>eI n)++[eI (nxt q0 j)]) 0),i',ys++[nxt q0 j],of'),?_,⟨by dsimp only;omega,⟨?_,?_,?_⟩,?_⟩,by dsimp only;omega⟩
     ·dsimp only
      rw[hvis,List.set_append_right _ _ (by omega)]
      simp only[List.length_append,List.length_cons,List.length_nil,Nat.add_sub_cancel_left,List.set_cons_succ];rw[show ys.length+1-of'=ys.length-of'+1 by omega]
     ·dsimp only
      rw[List.getElem?_set_self hi'];simp
     ·simp;omega
     ·dsimp only
      rw[hvis,List.drop_append_of_le_length jle,jeq]
     ·simp;omega
    ·refine⟨(j+1,R'++[.row none ((ys.drop of').map (fun n:Nat=>eI n)++[eI (nxt q0 j)]) 0],R'.length,ys.drop of'++[nxt q0 j],0),?_,⟨by dsimp only;omega,⟨?_,?_,?_⟩,?_⟩,by dsimp only;omega⟩
     ·dsimp only
      rw[hvis];simp
     ·simp
     ·simp
     ·dsimp only
      rw[hvis,jeq,List.drop_zero]
     ·simp;omega
  ·have hj2:j=2:=by omega
   subst hj2;simp only[go_sem];refine⟨(k+1,R',i',ys,of',some q0),?_,⟨by dsimp only;omega,by dsimp only;rw[hbn];exact jq,by dsimp only;omega⟩,by dsimp only;omega⟩
   dsimp only;rw[hbn]
 ·have hk16:k=16:=by omega
  subst hk16;obtain⟨_,hne⟩:=z9H ha;have hz:xs.length-off=0:=by rw[hln,hne];rfl
  have lk:=fun(hp:aA) (hh:hp[h.length]?=some (oB QC RC (bfs a 16).1))=>z2y (b:=(b:Int)) hh
  have hpv:(QA (b:Int) (bfs a 16).1).getD []=cU a b:=rfl
  rcases oq with _|oq <;> simp only[List.append_nil,List.cons_append,List.nil_append,go_sem,hz,lk,hpv]
end Go.Am
end
section
/- ready: a VB call,computed. -/
open Go
set_option linter.all false
namespace Go.Am
def orcP (f:Nat)(a:List AV):Option AV:=bif Nat.beq f qH then match a with
 | [.p (.int .i64 x),.p (.int .i64 y)]=>bif decide (0≤x)&&decide (x<16)&&decide (0≤y)&&decide (y<16) then some (.p (.str (cU x.toNat y.toNat))) else none
 | _=>none else none
theorem zh0:∀ f a v,orcP f a=some v→∀h (K:mA),K v h []→kA X0 f a h K:=by
 intro f a v hv h K hK;unfold orcP at hv;cases hf:Nat.beq f qH with
 | false=>rw[hf]at hv;cases hv
 | true=>
  have hf':=Nat.eq_of_beq_eq_true hf
  rw[hf]at hv;subst hf';simp only[cond_true]at hv;split at hv
  ·rename_i x y
   cases hc:(decide (0≤x)&&decide (x<16)&&decide (0≤y)&&decide (y<16)) with
   | false=>rw[hc]at hv;cases hv
   | true=>
    rw[hc]at hv;simp only[cond_true,Option.some.injEq]at hv;simp only[Bool.and_eq_true,decide_eq_true_eq]at hc;obtain⟨a,rfl⟩:=Int.eq_ofNat_of_zero_le hc.1.1.1;obtain⟨b,rfl⟩:=Int.eq_ofNat_of_zero_le hc.1.2;have:=zfi (h:=h) (K:=K) zlR zlQ a b (by omega) (by omega)
    rw[this];subst hv;exact hK
  ·cases hv
theorem zj3:IK X0 orcP 1000 60 eH [] []=some (AB true,[],[]):=by kernel_rfl
theorem znf:kA X0 eH [] [] fun v h x=>v=AB true∧h=[]∧x=[]:=(z40 zh0 1000 60 zj3 _).2 ⟨rfl,rfl,rfl⟩
theorem zkC {h:aA}{K:mA}:kA X eH [] h K=K (AB true) h []:=z2u (by kernel_rfl) rfl
end Go.Am
end
section
/- What a right part's outputs are. -/
open Go
set_option linter.all false
set_option maxRecDepth 100000
namespace Go.Am
theorem JX {l:List Cel}{c:Cel}(h:UB l c=0)(hk:c.kind=2):(c.off=0∨c.off=1)∧(0≤c.ctl→VD l c.ctl=3):=by
 unfold UB at h;rw[decide_eq_true hk]at h;have g1:inB 0 c.off 1=true∨inB 0 c.off 1=false:=by cases inB 0 c.off 1 <;> simp
 have g2:decide (VD l c.ctl=3)=true∨decide (VD l c.ctl=3)=false:=by cases decide (VD l c.ctl=3) <;> simp
 have g3:decide (c.ctl = -1)=true∨decide (c.ctl = -1)=false:=by cases decide (c.ctl = -1) <;> simp
 refine⟨?_,fun h0=>?_⟩
 ·rcases g1 with e|e
  ·unfold inB at e;simp only[Bool.and_eq_true,decide_eq_true_eq]at e;omega
  ·rw[e]at h
   exfalso;revert h
   generalize inB 1 c.kind 4=b1;generalize GB c=b2;generalize xB c.pin=b3;generalize decide (VD l c.ctl=3)=b7;generalize decide (c.ctl = -1)=b5;generalize inB 0 c.ctl (l.length-1)=b6;generalize decide (c.off=0)=b9;generalize decide (c.pin=[])=bp;unfold mB;cases b1 <;> cases b2 <;> cases b3 <;> cases b5 <;> cases b6 <;> cases b7 <;> cases b9 <;> cases bp <;> decide
 ·have e5:decide (c.ctl = -1)=false:=decide_eq_false (by omega)
  rcases g2 with e|e
  ·simpa using e
  ·rw[e,e5]at h
   exfalso;revert h
   generalize inB 1 c.kind 4=b1;generalize GB c=b2;generalize xB c.pin=b3;generalize inB 0 c.off 1=b8;generalize inB 0 c.ctl (l.length-1)=b6;generalize decide (c.off=0)=b9;generalize decide (c.pin=[])=bp;unfold mB;cases b1 <;> cases b2 <;> cases b3 <;> cases b6 <;> cases b8 <;> cases b9 <;> cases bp <;> decide
structure PrtG (p:Prt):Prop where
 o:∀c∈p.cells,c.kind=2→c.off=0∨c.off=1
 k:∀c∈p.cells,c.kind=2→0≤c.ctl→VD p.cells c.ctl=3
theorem iY {p:Prt}(G:PrtG p){k:Nat}(hk:k<p.cells.length)(hn:¬ p.cells[k].kind=3)(v:Int):YA p.cells ((k:Int),v)=0:=by
 unfold YA;rw[List.length_eq_zero_iff,List.filter_eq_nil_iff];intro c hc;simp only[decide_eq_true_eq];unfold IF;split
 ·rename_i h
  intro e;simp at e;have:=G.k c hc h.1 h.2;unfold VD at this;rw[e.1,Int.toNat_natCast,List.getElem?_eq_getElem hk]at this;exact hn (by simpa using this)
 ·intro e;cases e
theorem zje {b:Brd}(h:wD b=0):∀p∈b.parts,PrtG p:=fun p hp=>by
 unfold wD at h;by_cases h1:(40:Int)<b.parts.length
 ·rw[if_pos h1]at h;cases h
 rw[if_neg h1]at h;by_cases h2:iC none b.parts=0
 ·have hc:=((yL b.parts none h2).2.2 p hp).2
  unfold zC at hc;by_cases c1:(200:Int)<p.cells.length
  ·rw[if_pos c1]at hc;cases hc
  rw[if_neg c1]at hc;by_cases c2:BC (UB p.cells) p.cells=0
  ·exact⟨fun c hc hk=>(JX (VI c2 c hc) hk).1,fun c hc hk=>(JX (VI c2 c hc) hk).2⟩
  ·rw[if_pos c2]at hc;exact absurd hc c2
 ·rw[if_pos h2]at h;exact absurd h h2
end Go.Am
end
section
/- Quiet bits disable asv many outputs asv the other value,or more. -/
open Go
set_option linter.all false
namespace Go.Am
theorem z2M {c:Cel}{k:Nat}{v:Int}:IF c=some ((k:Int),v)↔c.kind=2∧c.ctl=(k:Int)∧c.off=v:=by
 unfold IF;by_cases h:c.kind=2∧0≤c.ctl
 ·rw[if_pos h]
  constructor
  ·intro e
   have e:=Option.some.inj e
   exact⟨h.1,by rw[show c.ctl=(c.ctl,c.off).1 from rfl,e],by rw[show c.off=(c.ctl,c.off).2 from rfl,e]⟩
  ·rintro⟨_,e1,e2⟩
   rw[e1,e2]
 ·rw[if_neg h]
  constructor
  ·intro e;cases e
  ·rintro⟨e0,e1,e2⟩
   exact absurd ⟨e0,by omega⟩ h
theorem jY {l:List Cel}{j:Nat}(hj:j<l.length)(k:Nat)(v:Int):YA (l.take (j+1)) ((k:Int),v)=YA (l.take j) ((k:Int),v)+if l[j].kind=2∧l[j].ctl=(k:Int)∧l[j].off=v then 1 else 0:=by
 rw[List.take_succ_eq_append_getElem hj,gY];congr 1
 by_cases h:l[j].kind=2∧l[j].ctl=(k:Int)∧l[j].off=v
 ·rw[if_pos h,if_pos (z2M.2 h)]
 ·rw[if_neg h,if_neg fun e=>h (z2M.1 e)]
def quV (p:Prt)(k:Nat):Int:=if YA p.cells ((k:Int),1)>YA p.cells ((k:Int),0) then 1 else 0
theorem zjz (p:Prt)(k:Nat):quV p k=0∨quV p k=1:=by
 unfold quV;split <;> simp
theorem zj1 (p:Prt)(k:Nat):YA p.cells ((k:Int),1-quV p k)≤YA p.cells ((k:Int),quV p k):=by
 unfold quV;by_cases h:YA p.cells ((k:Int),1)>YA p.cells ((k:Int),0)
 ·rw[if_pos h];simp;omega
 ·rw[if_neg h];simp;omega
theorem z3h {p:Prt}{k:Nat}(hk:k<p.cells.length):(aB p)[k]?=some (if quV p k=1 then 49 else 48):=by
 unfold aB quV;rw[List.getElem?_map,List.getElem?_range hk,Option.map_some];by_cases h:YA p.cells ((k:Int),1)>YA p.cells ((k:Int),0)
 ·rw[if_pos h,if_pos h];simp
 ·rw[if_neg h,if_neg h];simp
theorem zj0 {p:Prt}(G:PrtG p){k:Nat}(hk:k<p.cells.length)(hn:¬ p.cells[k].kind=3):quV p k=0:=by
 unfold quV;rw[iY G hk hn 1,iY G hk hn 0];simp
end Go.Am
end
section
/- QuietDrivesLess returns true. -/
open Go
set_option linter.all false
set_option maxRecDepth 100000
namespace Go.Am
variable {h:aA} {K:mA}
attribute [-go_sem] kB BB YB XB
attribute [-go_sem] dS uK fS cN
theorem qd_k2 {K:Ex→St→Prop}{b:Brd}{p:Prt}{i k:Nat}{v8 v10:AV}{QS:List Nm2}(G:PrtG p)(hl:p.cells.length≤1000)(hi:QS[i]?=some (aB p))(hk:k<p.cells.length)(t8:v8.top≤h.length)(t10:v10.top≤h.length)
 (fin:∀(x y:Nat) z,¬x<y→K (.exit 4) ⟨[(5,pF QS),(7,AI i),(8,v8),(9,AI k),(10,v10),(11,AI x),(12,AI y),(36,SC b.parts),(37,AI b.parts.length),(38,AI i),(53,FC p.cells),(54,AI p.cells.length),(55,AI k),(61,FC p.cells),(62,AI p.cells.length),(63,AI p.cells.length),z],h,[]⟩) :
 LA (kA X) X.gl (.scope pJ) K [(5,pF QS),(7,AI i),(8,v8),(9,AI k),(10,v10),(11,AI 0),(12,AI 0),(36,SC b.parts),(37,AI b.parts.length),(38,AI i),(53,FC p.cells),(54,AI p.cells.length),(55,AI k),(61,FC p.cells),(62,AI p.cells.length),(63,AI 0)] h []:=by
 refine UA (fun j:Nat=>⟨[(5,pF QS),(7,AI i),(8,v8),(9,AI k),(10,v10),(11,AI (YA (p.cells.take j) ((k:Int),quV p k))),(12,AI (YA (p.cells.take j) ((k:Int),1-quV p k))),(36,SC b.parts),(37,AI b.parts.length),(38,AI i),(53,FC p.cells),(54,AI p.cells.length),(55,AI k),(61,FC p.cells),(62,AI p.cells.length),(63,AI j)],h,[]⟩) (fun j=>j≤p.cells.length) (fun j=>p.cells.length-j) 0 rfl (by omega) ?_
 intro j hj;have ln:(p.cells.map Cel.pv).length=p.cells.length:=List.length_map ..
 rcases Nat.lt_or_ge j p.cells.length with hlt|hge
 ·have g:=dB Cel.pv hlt
  have c1:IA (some 4) 0 p.cells[j].pv=some p.cells[j].pv:=rfl
  have w2:IntKind.i64.wrap ((j:Int)+1)=((j+1:Nat):Int):=FA _ (by omega) (by omega)
  have n1:=jY hlt k (quV p k)
  have n2:=jY hlt k (1-quV p k)
  have o1:=G.o _ (List.getElem_mem hlt)
  have q0:=zjz p k
  have qg:=z3h hk
  have m1:YA (p.cells.take j) ((k:Int),quV p k)≤1000:=by
   unfold YA;have:=List.length_filter_le (fun c=>decide (IF c=some ((k:Int),quV p k))) (p.cells.take j)
   rw[List.length_take]at this;omega
  have m2:YA (p.cells.take j) ((k:Int),1-quV p k)≤1000:=by
   unfold YA;have:=List.length_filter_le (fun c=>decide (IF c=some ((k:Int),1-quV p k))) (p.cells.take j)
   rw[List.length_take]at this;omega
  generalize YA (p.cells.take j) ((k:Int),quV p k)=x at *;generalize YA (p.cells.take j) ((k:Int),1-quV p k)=y at *;generalize quV p k=v at *;generalize p.cells[j]=c at *;have w3:IntKind.i64.wrap ((x:Int)+1)=((x+1:Nat):Int):=FA _ (by omega) (by omega)
  have w4:IntKind.i64.wrap ((y:Int)+1)=((y+1:Nat):Int):=FA _ (by omega) (by omega)
  have gi:(QS.map PV.str)[i]?=some (.str (aB p)):=by rw[List.getElem?_map,hi];rfl
  simp only[Cel.pv,eI]at g c1;by_cases h1:c.kind=2
  ·have h1':=eq_true h1
   by_cases h2:c.ctl=(k:Int)
   ·have h2':=eq_true h2
    have o1:=o1 h1
    have k1:c.kind=2∧c.ctl=(k:Int):=⟨h1,h2⟩
    rcases q0 with rfl|rfl <;> rcases o1 with o|o
    ·have n1:YA (p.cells.take (j+1)) ((k:Int),0)=_:=n1
     have n2:YA (p.cells.take (j+1)) ((k:Int),1)=_:=n2
     rw[if_pos ⟨h1,h2,o⟩]at n1;rw[if_neg fun e=>by have:=e.2.2;omega]at n2
     simp only[go_sem,hlt,g,c1,w2,w3,w4,ln,h1',h2',gi,qg,o,t8,t10];rw[if_pos (by decide)]
     exact⟨j+1,by simp only[n1,n2];rfl,hlt,by omega⟩
    ·have n1:YA (p.cells.take (j+1)) ((k:Int),0)=_:=n1
     have n2:YA (p.cells.take (j+1)) ((k:Int),1)=_:=n2
     rw[if_neg fun e=>by have:=e.2.2;omega]at n1
     rw[if_pos ⟨h1,h2,o⟩]at n2;simp only[go_sem,hlt,g,c1,w2,w3,w4,ln,h1',h2',gi,qg,o,t8,t10];rw[if_neg (by decide)]
     exact⟨j+1,by simp only[n1,n2];rfl,hlt,by omega⟩
    ·have n1:YA (p.cells.take (j+1)) ((k:Int),1)=_:=n1
     have n2:YA (p.cells.take (j+1)) ((k:Int),0)=_:=n2
     rw[if_neg fun e=>by have:=e.2.2;omega]at n1
     rw[if_pos ⟨h1,h2,o⟩]at n2;simp only[go_sem,hlt,g,c1,w2,w3,w4,ln,h1',h2',gi,qg,o,t8,t10];rw[if_neg (by decide)]
     exact⟨j+1,by simp only[n1,n2];rfl,hlt,by omega⟩
    ·have n1:YA (p.cells.take (j+1)) ((k:Int),1)=_:=n1
     have n2:YA (p.cells.take (j+1)) ((k:Int),0)=_:=n2
     rw[if_pos ⟨h1,h2,o⟩]at n1;rw[if_neg fun e=>by have:=e.2.2;omega]at n2
     simp only[go_sem,hlt,g,c1,w2,w3,w4,ln,h1',h2',gi,qg,o,t8,t10];rw[if_pos (by decide)]
     exact⟨j+1,by simp only[n1,n2];rfl,hlt,by omega⟩
   ·rw[if_neg fun e=>h2 e.2.1]at n1 n2
    simp only[go_sem,hlt,g,c1,w2,ln,h1',h2,t8,t10];exact⟨j+1,by rw[n1,n2];rfl,hlt,by omega⟩
  ·rw[if_neg fun e=>h1 e.1]at n1 n2
   simp only[go_sem,hlt,g,c1,w2,ln,h1,t8,t10];exact⟨j+1,by rw[n1,n2];rfl,hlt,by omega⟩
 ·have e:j=p.cells.length:=by omega
  subst e;have:=zj1 p k;simp only[go_sem,Nat.lt_irrefl,t8,t10];exact fin _ _ _ (by rw[List.take_length];omega)
theorem qd_k5 {K:Ex→St→Prop}{b:Brd}{p:Prt}{i bx:Nat}{QS:List Nm2}(G:PrtG p)(hl:p.cells.length≤1000)(hi:QS[i]?=some (aB p))(hb:h[bx]?=some (.box [AS p.key,FC p.cells]))
 (fin:∀z,K (.exit 2) ⟨[(5,pF QS),(7,AI i),(8,.ref bx 0),(36,SC b.parts),(37,AI b.parts.length),(38,AI i),(53,FC p.cells),(54,AI p.cells.length),(55,AI p.cells.length),z],h,[]⟩) :
 LA (kA X) X.gl (.scope qJ) K [(5,pF QS),(7,AI i),(8,.ref bx 0),(36,SC b.parts),(37,AI b.parts.length),(38,AI i),(53,FC p.cells),(54,AI p.cells.length),(55,AI 0)] h []:=by
 refine UA (fun k:Nat=>⟨[(5,pF QS),(7,AI i),(8,.ref bx 0),(36,SC b.parts),(37,AI b.parts.length),(38,AI i),(53,FC p.cells),(54,AI p.cells.length),(55,AI k)],h,[]⟩) (fun k=>k≤p.cells.length) (fun k=>p.cells.length-k) 0 rfl (by omega) ?_
 intro k hk;have ln:(p.cells.map Cel.pv).length=p.cells.length:=List.length_map ..
 have bl:=WB hb
 rcases Nat.lt_or_ge k p.cells.length with hlt|hge
 ·have g:=dB Cel.pv hlt
  have c1:IA (some 4) 0 p.cells[k].pv=some p.cells[k].pv:=rfl
  have w2:IntKind.i64.wrap ((k:Int)+1)=((k+1:Nat):Int):=FA _ (by omega) (by omega)
  have qg:=z3h hlt
  have qc:=zj0 G hlt
  have gi:(QS.map PV.str)[i]?=some (.str (aB p)):=by rw[List.getElem?_map,hi];rfl
  generalize hc:p.cells[k]=c at *;simp only[Cel.pv,eI]at g c1;have hb2:∀t,(h++t)[bx]?=some (.box [AS p.key,FC p.cells]):=fun t=>by rw[List.getElem?_append_left bl];exact hb
  have eb:(bx+1≤h.length)=True:=eq_true bl
  have eb2:(bx≤h.length)=True:=eq_true (by omega)
  simp only[go_sem,hlt,g,c1,w2,ln,hb2];refine qd_k2 (K:=yA 4 _) G hl hi hlt (by simp [AV.top];omega) (by simp [AV.top]) fun x y z hxy=>?_
  have hxy':((x:Int)<y)=False:=eq_false (by omega)
  simp only[go_sem];rw[dS];by_cases h3:c.kind=3
  ·have h3':=eq_true h3
   simp only[uK,go_sem,hxy',h3',w2,eb,eb2];exact⟨k+1,rfl,hlt,by omega⟩
  ·rw[qc h3]at qg
   simp only[uK,go_sem,hxy',h3,gi,qg,w2,eb,eb2];exact⟨k+1,rfl,hlt,by omega⟩
 ·have e:k=p.cells.length:=by omega
  subst e;have eb:(bx+1≤h.length)=True:=eq_true bl
  simp only[go_sem,Nat.lt_irrefl,eb];exact fin _
theorem zj2 (p:Prt):(aB p).length=p.cells.length:=by simp [aB]
attribute [-go_sem] ZZ aN
theorem qd_k7 {K:Ex→St→Prop}{b:Brd}(hp:b.parts.length≤1000)(G:∀ p∈b.parts,PrtG p)(hl:∀ p∈b.parts,p.cells.length≤1000)
 (fin:∀z,K (.exit 0) ⟨[(5,pF (b.parts.map aB)),(36,SC b.parts),(37,AI b.parts.length),(38,AI b.parts.length),z],h,[]⟩) :
 LA (kA X) X.gl (.scope AH) K [(5,pF (b.parts.map aB)),(36,SC b.parts),(37,AI b.parts.length),(38,AI 0)] h []:=by
 refine UA (fun k:Nat=>⟨[(5,pF (b.parts.map aB)),(36,SC b.parts),(37,AI b.parts.length),(38,AI k)],h,[]⟩) (fun k=>k≤b.parts.length) (fun k=>b.parts.length-k) 0 rfl (by omega) ?_
 intro k hk;have ln:(b.parts.map Prt.pv).length=b.parts.length:=List.length_map ..
 rcases Nat.lt_or_ge k b.parts.length with hlt|hge
 ·have g:=dB Prt.pv hlt
  have c1:IA (some 2) 0 b.parts[k].pv=some b.parts[k].pv:=rfl
  have w2:IntKind.i64.wrap ((k:Int)+1)=((k+1:Nat):Int):=FA _ (by omega) (by omega)
  have G1:=G _ (List.getElem_mem hlt)
  have l1:=hl _ (List.getElem_mem hlt)
  have hq:(b.parts.map aB)[k]?=some (aB b.parts[k]):=by rw[List.getElem?_map,List.getElem?_eq_getElem hlt];rfl
  have gi:((b.parts.map aB).map PV.str)[k]?=some (.str (aB b.parts[k])):=by rw[List.getElem?_map,hq];rfl
  have ql:=zj2 b.parts[k]
  generalize b.parts[k]=p at *;have lc:(p.cells.map Cel.pv).length=p.cells.length:=List.length_map ..
  simp only[Prt.pv]at g c1;simp only[go_sem,hlt,g,c1,w2,ln,gi,ql,lc];refine qd_k5 (K:=yA 2 _) (p:=p) G1 l1 hq (by simp) fun z=>?_
  simp only[go_sem,w2];exact⟨k+1,rfl,hlt,by omega⟩
 ·have e:k=b.parts.length:=by omega
  subst e;simp only[go_sem,Nat.lt_irrefl];exact fin _
theorem law_QD (L:List Int){K:mA}:kA X SN [AL L] [] K=K (AB true) [] []:=by
 refine JA ?_;rw[za4 rfl];obtain⟨_,a1,⟨b,E,h0,rfl,h1,h2⟩,V1⟩:=(zff (L:=L) (a:=0) (by unfold sA;omega)).hd (l:=[])
 have ho:=yX E
 have C4:=fun hh K=>zkj (h:=hh) (K:=K) b ho
 unfold aP at C4;rw[if_neg (by simp [h0])]at C4
 dsimp only at C4;have D1:=fun hh K=>zkC (h:=hh) (K:=K)
 have ln:(b.parts.map Prt.pv).length=b.parts.length:=List.length_map ..
 have lq:((b.parts.map aB).map PV.str).length=b.parts.length:=by simp
 have k7:=fun(h:aA) (K:Ex→St→Prop)=>qd_k7 (h:=h) (K:=K) (b:=b) (by have:=E.p;omega) (zje h0) (fun p hp=>by have:=(E.e p hp).2.1;omega)
 simp only[Brd.pv]at V1 C4;simp only[ZM,go_sem,↓V1,V1,↓C4,C4,ln,lq];refine k7 _ (yA 0 _) fun z=>?_
 simp only[go_sem];rw[fS];simp only[cN,go_sem,↓D1,D1]
end Go.Am
end
section
/- From a law that is true here tov the model's calls at what came in. -/
open Go
namespace Go.Am
variable {P:Program}
theorem law_nil {X:Ctx}(HX:Fits P X){f:Nat}{F:AFun}(hF:X.fn f=some F)(H:∀ L:List Int,kA X f [WO L] [] fun v _ _=>v = .p (.bool true))(W:World)(hG:uD X.gl (imm [] [] W)) :
 Calls P f #[.slice none 0 0] W fun e W'=>e = .returned (.bool true)∧RowKit.Below W.heap.size W W':=by
 refine(GX HX hF (H []) (W:=W) (vs:=[.slice none 0 0]) hG rfl (fun j y v hy hv=>?_)).mono fun e W' he=>?_
 ·cases j with
  | zero=>cases hy;cases hv;exact zbq W
  | succ j=>cases hy
 ·cases e with
  | returned r=>
   obtain⟨⟨v,h,x,μ,hk,hr⟩,hb⟩:=he;subst hk;exact⟨by rw[hr.p_bool],hb⟩
  | panicked _=>exact he.elim
  | outgrown=>exact he.elim
theorem law_ints {X:Ctx}(HX:Fits P X){f:Nat}{F:AFun}(hF:X.fn f=some F)(H:∀ L:List Int,kA X f [WO L] [] fun v _ _=>v = .p (.bool true)){W:World}(hG:uD X.gl (imm [] [] W)){a:Addr}{len cap:Nat}{zs:List Int}
 (hl:len≤cap) (hz:len≤zs.length) (hc:∀i,i<zs.length→W.cell? (a.add i)=some (.int .i64 (zs.getD i 0))) :
 Calls P f #[.slice (some a) len cap] W fun e W'=>e = .returned (.bool true)∧RowKit.Below W.heap.size W W':=by
 refine(GX HX hF (H (zs.take len)) (W:=W) (vs:=[.slice (some a) len cap]) hG rfl (fun j y v hy hv=>?_)).mono fun e W' he=>?_
 ·cases j with
  | zero=>
   cases hy;cases hv
   rcases Nat.eq_zero_or_pos len with h0|h0
   ·subst h0
    exact .p _ _ (.nils _ _ _)
   ·exact zbp (by simpa [Addr.add] using World.cell?_spot (hc 0 (by omega))) hl hz hc
  | succ j=>cases hy
 ·cases e with
  | returned r=>
   obtain⟨⟨v,h,x,μ,hk,hr⟩,hb⟩:=he;subst hk;exact⟨by rw[hr.p_bool],hb⟩
  | panicked _=>exact he.elim
  | outgrown=>exact he.elim
end Go.Am
namespace Go.ChangeShapes
open Go.RowKit Go.WideShapes
section
variable {H:Type} {enc:TypeId × Value→H} {P:Program}
end
end Go.ChangeShapes
end
section
/- The abstract machine,part L2: the kit's contracts asv rows. -/
set_option linter.unusedSimpArgs false
set_option linter.unusedVariables false
namespace Go.Am
variable {P:Program} {gl:Nat→Option PV}
open Go.Shelf
end Go.Am
end
