/- Texts of the proof, laid together: AmL4, AmL5, SpSplit, SpLines, SpNum, SpNums, SpQNum, SpFlt1, SpFlt2, SpWords, SpBrd6, PBrd2, PBrd3, PBrd4, PBits, PBrd5, SpBrq1, PBrq, SpBrq2, SpBrq3, SpBrq4, SpSortJ, SpGenD, SpGenC, SpGenC2, SpGenC3, SpGenE1, SpGenE2, SpGenE3, SpGenE4, SpGenE5, SpGenE6, SpGenE7, SpGenE8, SpGenE9, SpGenE10, SpGenE11, SpBrq5, SpRgtB, SpBrdI, SpFlt3, SpFlt4, SpFlt5, SpArg, SpFlt6, SpSortO, SpGenF. -/
import Derived.Shelf.Strings.Repeat
import Derived.Shelf.Strings.SlTrimAscii
import Derived.Shelf.Spec.TrailingZeros
import Derived.Shelf.Strings.Count
import Derived.Shelf.Strings.OnBuilder
import Derived.Test.YtkbafocpdpcekaaGreatDoorlawQD7
set_option linter.all false
section
/- The abstract machine,part L4: strings.Repeat,strings.Trim,math/bits.TrailingZeros64 asv rows. -/
set_option linter.all false
namespace Go.Am
variable {P:Program} {gl:Nat→Option PV}
open Go.Shelf
theorem nX {w w':World}(h:Go.RowKit.Below w.heap.size w w'):WExt w w':=⟨h.size,fun b hb=>h.block b hb,by unfold zed;rw[h.os,h.tape,h.output]⟩
theorem z2v (s:List UInt8):∀c,Go.Lib.repeatL s c=BG s c
 | 0=>rfl
 | c+1=>by rw[Go.Lib.repeatL,BG,z2v s c]
theorem zng {ρ:Ren}(L:Go.Proofs.Lays.n105 P ρ)(E:Go.Proofs.Builder.Extra P ρ)(he:∀ us w,(callFunc (ρ.f 105) us).run P w = .ok (.enter (ρ.f 105) us) w):PureRow P gl (ρ.f 105) PJ where
 enter:=he
 run M w vs r us hc hb hG hl hr hs:=by
  unfold PJ at hs;split at hs
  ·rename_i s c
   split at hs
   ·rename_i hbd
    match us,hl with
    | [u,v],_=>
     have q:=hr 0 _ u rfl rfl
     cases q;have q2:=hr 1 _ v rfl rfl
     cases q2;simp only[Option.some.injEq]at hs
     subst hs;obtain⟨n,rfl⟩:=Int.eq_ofNat_of_zero_le hbd.1;have hsz:(⟨s.toArray⟩:ByteArray).size=s.length:=by simp [ByteArray.size]
     simp only[Int.toNat_natCast]at hbd ⊢;refine(Go.Proofs.Any.strings_Repeat L E ⟨s.toArray⟩ n w (by omega) (by rw[hsz];omega)).mono fun e w' h=>?_
     obtain⟨rfl,h⟩:=h;exact⟨_,rfl,nX h,by rw[z2v];exact .p _ _ (.str _)⟩
   ·cases hs
  ·cases hs
theorem zgM (s cs:List UInt8):Go.Lib.trimS s cs=z4f s cs:=rfl
theorem trimRow {ρ:Ren}(L:Go.Proofs.Lays.n160 P ρ)(h116:(P.info? (ρ.t 116)).map (fun i=>(i.zero,i.size))=some (some (.agg (Array.replicate 256 (.bool false))),256))(he:∀ us w,(callFunc (ρ.f 160) us).run P w = .ok (.enter (ρ.f 160) us) w):PureRow P gl (ρ.f 160) trimS where
 enter:=he
 run M w vs r us hc hb hG hl hr hs:=by
  unfold trimS at hs;split at hs
  ·rename_i s cs
   split at hs
   ·rename_i hbd
    match us,hl with
    | [u,v],_=>
     have q:=hr 0 _ u rfl rfl
     cases q;have q2:=hr 1 _ v rfl rfl
     cases q2;simp only[Option.some.injEq]at hs
     subst hs;have hsz:∀l:List UInt8,(⟨l.toArray⟩:ByteArray).size=l.length:=fun l=>by simp [ByteArray.size]
     refine(Go.Proofs.Any.strings_Trim_laid L h116 ⟨s.toArray⟩ ⟨cs.toArray⟩ w (by rw[hsz];omega) (by rw[hsz];omega) (Go.Proofs.ascii_of_all hbd.2.2)).mono fun e w' h=>?_
     obtain⟨rfl,h⟩:=h;exact⟨_,rfl,nX h,by rw[←zgM];exact .p _ _ (.str _)⟩
   ·cases hs
  ·cases hs
end Go.Am
end
section
/- The abstract machine,part L5: strings.Count at one byte,strings.Join asv rows. -/
set_option linter.all false
namespace Go.Am
variable {P:Program} {gl:Nat→Option PV}
open Go.Shelf
end Go.Am
end
section
/- Texts split at a byte. -/
open Go
set_option linter.all false
namespace Go.Am
variable {h:aA} {K:mA}
end Go.Am
end
section
/- Lines of a text. -/
open Go
set_option linter.all false
namespace Go.Am
variable {h:aA} {K:mA}
end Go.Am
end
section
/- Numbers read. -/
open Go
set_option linter.all false
namespace Go.Am
variable {h:aA} {K:mA}
end Go.Am
end
section
/- Several numbers read. -/
open Go
set_option linter.all false
namespace Go.Am
variable {h:aA} {K:mA}
end Go.Am
end
section
/- Numbers read,the reference's way. -/
open Go
set_option linter.all false
namespace Go.Am
variable {h:aA} {K:mA}
end Go.Am
end
section
/- Tests and faults: what is wrong with them,both ways. -/
open Go
set_option linter.all false
namespace Go.Am
variable {h:aA} {K:mA}
end Go.Am
end
section
/- Faults: what is wrong with them,both ways. -/
open Go
set_option linter.all false
namespace Go.Am
variable {h:aA} {K:mA}
def Flt.pv (f:Flt):PV:=.agg [eI f.kind,.sl none (f.nets.map eI)]
end Go.Am
end
section
/- Where a string stands among strings;words. -/
open Go
set_option linter.all false
namespace Go.Am
variable {h:aA} {K:mA}
theorem z5T {v:AV}(l:List (List UInt8))(hv:Shows none v (l.map PV.str) h)(x:List UInt8)(hl:l.length≤1000000):kA X rG [v,AS x] h K=K (AI (if l.findIdx (fun y=>decide (y=x))<l.length then(l.findIdx (fun y=>decide (y=x)):Int) else -1)) h []:=by
 refine JA ?_;rw[zbc];have vl:=hv.len
 rw[List.length_map]at vl;simp only[yN,go_sem,vl];refine UA (fun k:Nat=>⟨[(0,v),(1,AS x),(7,AI l.length),(8,AI k)],h,[]⟩) (fun k=>k≤l.length∧∀y∈l.take k,decide (y=x)=false) (fun k=>l.length-k) 0 rfl (by simp) ?_
 rintro k ⟨hk,hn⟩
 rcases Nat.lt_or_ge k l.length with hlt|hge
 ·obtain⟨a,ha,hb⟩:=hv.get k (by simpa using hlt)
  rw[List.getElem_map]at hb;have w2:IntKind.i64.wrap ((k:Int)+1)=((k+1:Nat):Int):=FA _ (by omega) (by omega)
  by_cases hpk:x=l[k]
  ·have hf:l.findIdx (fun y=>decide (y=x))=k:=by
    rw[List.findIdx_eq hlt];refine⟨by simp [hpk],fun j hj=>?_⟩
    have:=hn l[j] (by rw[List.mem_take_iff_getElem];exact⟨j,by omega,rfl⟩)
    simpa using this
   simp only[go_sem,hlt,ha,hb,hpk.symm,w2];simp only[hf,hlt,if_true]
  ·simp only[go_sem,hlt,ha,hb,hpk,w2]
   refine⟨k+1,rfl,⟨by omega,fun y hy=>?_⟩,by omega⟩
   rw[List.take_succ_eq_append_getElem hlt,List.mem_append,List.mem_singleton]at hy;rcases hy with hy|hy
   ·exact hn y hy
   ·rw[hy];simp;exact fun e=>hpk e.symm
 ·have e1:k=l.length:=by omega
  subst e1;simp only[go_sem,Nat.lt_irrefl];rw[List.take_length]at hn;have:¬l.findIdx (fun y=>decide (y=x))<l.length:=by
   rw[Nat.not_lt,Nat.le_iff_lt_or_eq];right
   exact(List.findIdx_eq_length.2 (fun y hy=>by simp [hn y hy])).symm
  rw[if_neg this]
theorem fV {v:AV}(l:List (List UInt8))(hv:∀ h':aA,h'=h→Shows none v (l.map PV.str) h')(x:List UInt8)(hl:l.length≤1000000):kA X YE [v,AS x] h K=K (AB (l.contains x)) h []:=by
 refine JA ?_;rw[zaX];have e:=fun K=>z5T (h:=h) (K:=K) l (hv h rfl) x hl
 have hd:decide (0≤(if l.findIdx (fun y=>decide (y=x))<l.length then(l.findIdx (fun y=>decide (y=x)):Int) else -1))=l.contains x:=by
  rw[Bool.eq_iff_iff,decide_eq_true_eq,List.contains_iff_mem];constructor
  ·intro hq
   split at hq
   ·rename_i hlt
    have:=List.findIdx_getElem (w:=hlt);simp only[decide_eq_true_eq]at this;exact this ▸ List.getElem_mem hlt
   ·omega
  ·intro hm
   rw[if_pos (List.findIdx_lt_length_of_exists ⟨x,hm,by simp⟩)];omega
 simp only[JR,go_sem,e,hd]
end Go.Am
end
section
/- A board,whole: the program. -/
open Go
set_option linter.all false
set_option maxRecDepth 100000
namespace Go.Am
variable {h:aA} {K:mA}
attribute [-go_sem] kB BB
theorem bU (p:Option Prt)(x:Prt)(r:List Prt):iC p (x::r)=if xB x.key=false then 5 else if(match p with|some q=>decide (rA x.key q.key≤0)|none=>false)=true then 7 else if zC x.cells≠0 then zC x.cells else iC (some x) r:=rfl
theorem z3c (nets:List (List UInt8))(p:Option Pul)(x:Pul)(r:List Pul):DE nets p (x::r)=if nets.contains x.net=false then 8 else if inB 0 x.level 1=false then 1 else if(match p with|some q=>decide (rA x.net q.net≤0)|none=>false)=true then 7 else DE nets (some x) r:=rfl
theorem yL:∀ (l:List Prt)(p:Option Prt),iC p l=0→(∀q,p=some q→∀x∈l,rA q.key x.key<0)∧LG l∧∀x∈l,xB x.key=true∧zC x.cells=0
 | [],p,_=>⟨fun _ _ _ h=>(by cases h),List.Pairwise.nil,fun _ h=>(by cases h)⟩
 | x::r,p,h=>by
  rw[bU]at h;cases hk:xB x.key with
  | false=>rw[hk,if_pos rfl]at h;cases h
  | true=>
   rw[hk,if_neg (by simp)]at h
   generalize hb:(match p with|some q=>decide (rA x.key q.key≤0)|none=>false)=c7 at h
   cases c7 with
   | true=>rw[if_pos rfl]at h;cases h
   | false=>
    rw[if_neg (by simp)]at h
    by_cases hc:zC x.cells=0
    ·rw[if_neg (by simp [hc])]at h
     obtain⟨i1,i2,i3⟩:=yL r (some x) h;have i1':=i1 x rfl
     have px:∀q,p=some q→rA q.key x.key<0:=fun q hq=>by
      subst hq;simp only[decide_eq_false_iff_not]at hb;have:=bE x.key q.key;omega
     refine⟨fun q hq y hy=>?_,List.pairwise_cons.2 ⟨i1',i2⟩,fun y hy=>?_⟩
     ·rcases List.mem_cons.1 hy with e|hy
      ·rw[e];exact px q hq
      ·exact fI (px q hq) (i1' y hy)
     ·rcases List.mem_cons.1 hy with e|hy
      ·rw[e];exact⟨hk,hc⟩
      ·exact i3 y hy
    ·rw[if_pos hc]at h;exact absurd h hc
structure BrdOk (b:Brd):Prop where
 c:aK b
 j:JonsOk b
 p:b.pulls.length≤1000
 k:∀p∈b.parts,p.key.length≤1000000
attribute [-go_sem] aS jI
theorem zkb {K:Ex→St→Prop}(b:Brd)(ho:BrdOk b)(hs:LG b.parts)(env:List (Nat × AV))(b1:bA env 1 = .ref h.length 0)(v:Int)
 (hv:(if UD b≠0 then UD b else if(100:Int)<(jB b).length then 2 else DE (jB b) none b.pulls)=v)
 (fin:∀H,K .ret ⟨[(2,AI v)],h++H,[]⟩) :
 NW (kA X) X.gl eL ⟨env,h++[EA b],[]⟩ K:=by
 rw[aS];have JF:=fun h K=>zk3 (h:=h) (K:=K) b hs ho.c ho.j
 have ln:(b.pulls.map Pul.pv).length=b.pulls.length:=List.length_map ..
 have hl:=ho.p
 obtain⟨xs,x1,x2,x3,x4,NM⟩:=zk5 (h:=h++[EA b]) b (by have:=ho.j.l;omega)
 simp only[Brd.pv]at JF NM;unfold EA at NM ⊢;by_cases hz:UD b=0
 ·rw[if_neg (by simp [hz])]at hv
  rw[hz]at JF;have j12:=ho.j.l
  have h100:¬(100:Int)<(jB b).length:=by omega
  rw[if_neg h100]at hv;simp only[jI,b1,go_sem,↓JF,JF,↓NM,NM,h100,ln];refine UA (fun k:Nat=>⟨[(1,.ref h.length 0),(7,.own (h.length+1+1) b.joins.length 0 (jB b).length),(59,.p (.sl (some 2) (b.pulls.map Pul.pv))),(60,AI b.pulls.length),(61,AI k)],h++[EA b,EA b,.row none xs 0],[]⟩) (fun k=>k≤b.pulls.length∧DE (jB b) (b.pulls.take k).getLast? (b.pulls.drop k)=v) (fun k=>b.pulls.length-k) 0 (by first|rfl|skip) ⟨by omega,hv⟩ ?_
  rintro k ⟨hk,hp⟩
  have SH:∀T:aA,Shows none (.own (h.length+1+1) b.joins.length 0 (jB b).length) ((jB b).map PV.str) (h++EA b::EA b :: .row none xs 0::T):=fun T=>by
   have:=pP (h:=h++EA b::EA b :: .row none xs 0::T) (id:=h.length+1+1) (off:=0) (len:=(jB b).length) (fz:=0) x4 (by rw[List.getElem?_append_right (by omega),show h.length+1+1-h.length=2 by omega];rfl) (by omega)
   rw[x1,x2]at this;exact this
  have CT:=fun(T:aA) (s:List UInt8) K=>fV (h:=h++EA b::EA b :: .row none xs 0::T) (K:=K) (jB b) (fun h' e=>by rw[e];exact SH T) s (by omega)
  unfold EA at CT ⊢;rcases Nat.lt_or_ge k b.pulls.length with hlt|hge
  ·have g:=dB Pul.pv hlt
   have c1:IA (some 2) 0 b.pulls[k].pv=some b.pulls[k].pv:=rfl
   have w2:IntKind.i64.wrap ((k:Int)+1)=((k+1:Nat):Int):=FA _ (by omega) (by omega)
   rw[List.drop_eq_getElem_cons hlt,z3c]at hp;have lg:(b.pulls.take (k+1)).getLast?=some b.pulls[k]:=by rw[gF (by omega),List.getElem?_eq_getElem hlt]
   generalize hxx:b.pulls[k]=x at *;have CX:=fun T K=>CT T x.net K
   have OB:=fun h K=>kP (h:=h) (K:=K) x.level 0 1
   simp only[Pul.pv,eI]at g c1;cases hcn:(jB b).contains x.net with
   | false=>
    rw[hcn,if_pos rfl]at hp;rw[hcn]at CX;subst hp;simp only[go_sem,hlt,g,c1,↓CX,CX];exact fin _
   | true=>
    rw[hcn,if_neg (by simp)]at hp
    rw[hcn]at CX;cases hlv:inB 0 x.level 1 with
    | false=>
     rw[hlv,if_pos rfl]at hp;rw[hlv]at OB;subst hp;simp only[go_sem,hlt,g,c1,↓CX,CX,↓OB,OB];exact fin _
    | true=>
     rw[hlv,if_neg (by simp)]at hp
     rw[hlv]at OB;cases k with
     | zero=>
      rw[List.take_zero,List.getLast?_nil,if_neg (by simp)]at hp
      have hlt0:(0:Int)<b.pulls.length:=by omega
      simp only[go_sem,hlt,hlt0,g,c1,↓CX,CX,↓OB,OB,Int.lt_irrefl,show((0:Nat):Int)=0 from rfl,show IntKind.i64.wrap 1=1 from rfl]
      refine⟨1,rfl,⟨by omega,?_⟩,by omega⟩
      rw[lg];exact hp
     | succ m=>
      have hm:m<b.pulls.length:=by omega
      have gm:=dB Pul.pv hm
      have cm:IA none 0 b.pulls[m].pv=some (.str b.pulls[m].net):=rfl
      have wm:IntKind.i64.wrap (((m+1:Nat):Int)-1)=(m:Int):=by rw[FA _ (by omega) (by omega)];omega
      have p1:(0:Int)<((m+1:Nat):Int):=by omega
      rw[gF (by omega),List.getElem?_eq_getElem hm]at hp
      generalize b.pulls[m]=y at *;have le:=bO x.net y.net
      by_cases hc:rA x.net y.net≤0
      ·rw[if_pos (by simp [hc])]at hp
       subst hp;simp only[go_sem,hlt,g,c1,↓CX,CX,↓OB,OB,p1,wm,hm,gm,cm,le,hc];exact fin _
      ·rw[if_neg (by simp [hc])]at hp
       simp only[go_sem,hlt,g,c1,↓CX,CX,↓OB,OB,p1,wm,hm,gm,cm,le,hc,w2];refine⟨m+1+1,rfl,⟨by omega,?_⟩,by omega⟩
       rw[lg];exact hp
  ·have e:k=b.pulls.length:=by omega
   subst e;rw[List.drop_length]at hp;have z:v=0:=hp.symm
   subst z;simp only[go_sem,Nat.lt_irrefl];exact fin _
 ·rw[if_pos hz]at hv
  subst hv;have e12:eA .neq (.p (.int .i64 (UD b))) (.p (.int .i64 0))=some (AB true):=by simp only[go_sem,hz]
  simp only[jI,b1,go_sem,↓JF,JF,↓e12];exact fin _
theorem FM {b:Brd}(ho:aK b){p:Prt}(hp:p∈b.parts):(∀c∈p.cells,c.pin.length≤1000000)∧p.cells.length≤100000:=⟨(ho.2 p hp).2,(ho.2 p hp).1⟩
theorem zka (b:Brd)(ho:BrdOk b):kA X iG [.p b.pv] h K=K (AI (wD b)) h []:=by
 refine JA ?_;rw[zai rfl];have ln:(b.parts.map Prt.pv).length=b.parts.length:=List.length_map ..
 unfold wD;by_cases h40:(40:Int)<b.parts.length
 ·rw[if_pos h40]
  simp only[nK,Brd.pv,go_sem,ln,h40]
 rw[if_neg h40];simp only[nK,Brd.pv,go_sem,ln,h40];refine UA (fun k:Nat=>⟨[(1,.ref h.length 0),(15,SC b.parts),(16,AI b.parts.length),(17,AI k)],h++[EA b],[]⟩) (fun k=>k≤b.parts.length∧iC (b.parts.take k).getLast? (b.parts.drop k)=iC none b.parts) (fun k=>b.parts.length-k) 0 rfl ⟨by omega,rfl⟩ ?_
 rintro k ⟨hk,hp⟩
 unfold EA;rcases Nat.lt_or_ge k b.parts.length with hlt|hge
 ·have g:=dB Prt.pv hlt
  have c1:IA (some 2) 0 b.parts[k].pv=some b.parts[k].pv:=rfl
  have w2:IntKind.i64.wrap ((k:Int)+1)=((k+1:Nat):Int):=FA _ (by omega) (by omega)
  rw[List.drop_eq_getElem_cons hlt,bU]at hp;have lg:(b.parts.take (k+1)).getLast?=some b.parts[k]:=by rw[gF (by omega),List.getElem?_eq_getElem hlt]
  have xm:=List.getElem_mem hlt
  generalize hxx:b.parts[k]=x at *;have KY:=fun h K=>yU (h:=h) (K:=K) x.key (by have:=ho.k x xm;omega)
  have CF:=fun h K=>zkq (h:=h) (K:=K) x (FM ho.c xm).1 (FM ho.c xm).2
  simp only[Prt.pv]at g c1 CF;cases hkey:xB x.key with
  | false=>
   rw[hkey,if_pos rfl]at hp;rw[hkey]at KY;rw[←hp];simp only[go_sem,hlt,g,c1,↓KY,KY]
  | true=>
   rw[hkey,if_neg (by simp)]at hp
   rw[hkey]at KY;generalize hz:zC x.cells=z at *;have stp:(if z≠0 then z else iC (some x) (b.parts.drop (k+1)))=iC none b.parts→((z≠0∧iC none b.parts=z)∨(z=0∧iC (some x) (b.parts.drop (k+1))=iC none b.parts)):=fun e=>by
    by_cases q:z=0
    ·right;rw[if_neg (by simp [q])]at e;exact⟨q,e⟩
    ·left;rw[if_pos q]at e;exact⟨q,e.symm⟩
   cases k with
   | zero=>
    rw[List.take_zero,List.getLast?_nil,if_neg (by simp)]at hp
    have hlt0:(0:Int)<b.parts.length:=by omega
    rcases stp hp with⟨q,e⟩|⟨q,e⟩
    ·rw[e,if_pos q]
     have e12:eA .neq (.p (.int .i64 z)) (.p (.int .i64 0))=some (AB true):=by simp only[go_sem,q]
     simp only[go_sem,hlt,hlt0,g,c1,↓KY,KY,Int.lt_irrefl,show((0:Nat):Int)=0 from rfl,↓CF,CF,↓e12]
    ·subst q
     simp only[go_sem,hlt,hlt0,g,c1,↓KY,KY,Int.lt_irrefl,show((0:Nat):Int)=0 from rfl,↓CF,CF,show IntKind.i64.wrap 1=1 from rfl]
     refine⟨1,rfl,⟨by omega,?_⟩,by omega⟩
     rw[lg];exact e
   | succ m=>
    have hm:m<b.parts.length:=by omega
    have gm:=dB Prt.pv hm
    have cm:IA none 0 b.parts[m].pv=some (.str b.parts[m].key):=rfl
    have wm:IntKind.i64.wrap (((m+1:Nat):Int)-1)=(m:Int):=by rw[FA _ (by omega) (by omega)];omega
    have p1:(0:Int)<((m+1:Nat):Int):=by omega
    rw[gF (by omega),List.getElem?_eq_getElem hm]at hp
    generalize b.parts[m]=y at *;have le:=bO x.key y.key
    by_cases hc:rA x.key y.key≤0
    ·rw[if_pos (by simp [hc])]at hp
     rw[←hp,if_pos (by decide)]
     simp only[go_sem,hlt,g,c1,↓KY,KY,p1,wm,hm,gm,cm,le,hc]
    ·rw[if_neg (by simp [hc])]at hp
     rcases stp hp with⟨q,e⟩|⟨q,e⟩
     ·rw[e,if_pos q]
      have e12:eA .neq (.p (.int .i64 z)) (.p (.int .i64 0))=some (AB true):=by simp only[go_sem,q]
      simp only[go_sem,hlt,g,c1,↓KY,KY,p1,wm,hm,gm,cm,le,hc,↓CF,CF,↓e12]
     ·subst q
      simp only[go_sem,hlt,g,c1,↓KY,KY,p1,wm,hm,gm,cm,le,hc,↓CF,CF,w2];refine⟨m+1+1,rfl,⟨by omega,?_⟩,by omega⟩
      rw[lg];exact e
 ·have e:k=b.parts.length:=by omega
  subst e;rw[List.drop_length]at hp;have z:iC none b.parts=0:=hp.symm
  rw[if_neg (by simp [z])]
  simp only[go_sem,Nat.lt_irrefl];refine zkb b ho (yL _ _ z).2.1 _ rfl _ rfl fun H=>?_
  simp only[go_sem]
end Go.Am
end
section
/- Boards,plainly: nets of pins,cells on nets. -/
set_option linter.all false
namespace Go.Am
abbrev Nm2:=List UInt8
end Go.Am
end
section
/- Boards,plainly: cells on nets,in groups. -/
set_option linter.all false
namespace Go.Am
end Go.Am
end
section
/- Boards,plainly: the levels of nets. -/
set_option linter.all false
namespace Go.Am
end Go.Am
end
section
/- Numbers asv sets of bits;rows of a test asv numbers. -/
set_option linter.all false
namespace Go.Am
end Go.Am
end
section
/- Boards,plainly: what a right board and right bits are. -/
set_option linter.all false
namespace Go.Am
structure BrdR (b:Brd):Prop where
 p:b.parts.length≤40
 c:∀p∈b.parts,p.cells.length≤200
 t:∀p∈b.parts,∀c∈p.cells,c.ctl<p.cells.length
 j:b.joins.length≤1000
 w:twJ [] b.joins=false
theorem zbr {l:List Cel}{c:Cel}(hc:c∈l)(h:UB l c=0):c.ctl<l.length:=by
 have hl:0<l.length:=List.length_pos_of_mem hc
 unfold UB at h;by_cases h5:c.ctl = -1
 ·omega
 ·by_cases h6:inB 0 c.ctl (l.length-1)=true
  ·unfold inB at h6
   simp only[Bool.and_eq_true,decide_eq_true_eq]at h6;omega
  ·have h6':inB 0 c.ctl (l.length-1)=false:=by simpa using h6
   rw[h6',decide_eq_false h5]at h;unfold mB at h;exfalso;revert h
   generalize inB 1 c.kind 4=b1;generalize GB c=b2;generalize xB c.pin=b3;generalize decide (c.kind=2)=b4;generalize decide (VD l c.ctl=3)=b7;generalize inB 0 c.off 1=b8;generalize decide (c.off=0)=b9;generalize decide (c.pin=[])=bp;cases b1 <;> cases b2 <;> cases b3 <;> cases b4 <;> cases b7 <;> cases b8 <;> cases b9 <;> cases bp <;> decide
theorem zab {b:Brd}(h:wD b=0):BrdR b:=by
 unfold wD at h;by_cases h1:(40:Int)<b.parts.length
 ·rw[if_pos h1]at h;cases h
 rw[if_neg h1]at h;by_cases h2:iC none b.parts=0
 ·rw[if_neg (by simp [h2])]at h
  by_cases h3:UD b=0
  ·have hp:=(yL b.parts none h2).2.2
   unfold UD at h3;by_cases j1:(1000:Int)<b.joins.length
   ·rw[if_pos j1]at h3;cases h3
   rw[if_neg j1]at h3;have hcl:∀p∈b.parts,p.cells.length≤200∧∀c∈p.cells,c.ctl<p.cells.length:=fun p hp'=>by
    have hc:=(hp p hp').2
    unfold zC at hc;by_cases c1:(200:Int)<p.cells.length
    ·rw[if_pos c1]at hc;cases hc
    rw[if_neg c1]at hc;by_cases c2:BC (UB p.cells) p.cells=0
    ·exact⟨by omega,fun c hc=>zbr hc (VI c2 c hc)⟩
    ·rw[if_pos c2]at hc;exact absurd hc c2
   refine⟨by omega,fun p hp'=>(hcl p hp').1,fun p hp'=>(hcl p hp').2,by omega,?_⟩
   by_cases j2:PC b none b.joins=0
   ·rw[if_neg (by simp [j2])]at h3
    cases ht:twJ [] b.joins with
    | false=>rfl
    | true=>rw[ht,if_pos rfl]at h3;cases h3
   ·rw[if_pos j2]at h3;exact absurd h3 j2
  ·rw[if_pos h3]at h;exact absurd h h3
 ·rw[if_pos h2]at h;exact absurd h h2
end Go.Am
end
section
/- The reference: comparing,a board's fault. -/
open Go
set_option linter.all false
set_option maxRecDepth 100000
namespace Go.Am
variable {h:aA} {K:mA}
attribute [-go_sem] kB BB YB XB
theorem z38 (x y:Jon):kA X qG [.p (.sl none [.str x.net,.str x.part,.str x.pin]),.p (.sl none [.str y.net,.str y.part,.str y.pin])] h K=K (AI (nB x y)) h []:=by
 refine JA ?_;rw[zaU rfl];have c1:=fun hh K=>BU (h:=hh) (K:=K) x.net y.net
 have c2:=fun hh K=>BU (h:=hh) (K:=K) x.part y.part
 have c3:=fun hh K=>BU (h:=hh) (K:=K) x.pin y.pin
 unfold nB;simp only[sN,go_sem];refine UA (fun k:Nat=>⟨[(0,.p (.sl none [.str x.net,.str x.part,.str x.pin])),(1,.p (.sl none [.str y.net,.str y.part,.str y.pin])),(9,.p (.sl none [.str x.net,.str x.part,.str x.pin])),(10,AI 3),(11,AI k)],h,[]⟩) (fun k=>k≤3∧(0<k→rA x.net y.net=0)∧(1<k→rA x.part y.part=0)∧(2<k→rA x.pin y.pin=0)) (fun k=>3-k) 0 rfl ⟨by omega,by omega,by omega,by omega⟩ ?_
 rintro k ⟨hk,k1,k2,k3⟩
 have hk':k=0∨k=1∨k=2∨k=3:=by omega
 rcases hk' with rfl|rfl|rfl|rfl
 ·by_cases h1:rA x.net y.net=0
  ·simp only[go_sem,c1,h1]
   exact⟨1,rfl,⟨by omega,by omega,by omega⟩,by omega⟩
  ·simp only[go_sem,c1,h1]
 ·have h1:=k1 (by omega)
  by_cases h2:rA x.part y.part=0
  ·simp only[go_sem,c2,h1,h2]
   exact⟨2,rfl,⟨by omega,by omega⟩,by omega⟩
  ·simp only[go_sem,c2,h1,h2]
 ·have h1:=k1 (by omega)
  have h2:=k2 (by omega)
  by_cases h3:rA x.pin y.pin=0
  ·simp only[go_sem,c3,h1,h2,h3]
   exact⟨3,rfl,by omega,by omega⟩
  ·simp only[go_sem,c3,h1,h2,h3]
 ·have h1:=k1 (by omega)
  have h2:=k2 (by omega)
  have h3:=k3 (by omega)
  simp only[go_sem,h1,h2,h3]
theorem zkf (b:Brd)(hl:b.joins.length≤12)(hsrt:CB ltS (b.joins.map Jon.net)=b.joins.map Jon.net):∃xs:List PV,xs.length=b.joins.length∧win xs 0 (jB b).length=(jB b).map PV.str∧(jB b).length≤b.joins.length∧jC none xs ∧
 ∀K:mA,kA X DF [.p b.pv] h K=K (.own (h.length+1) b.joins.length 0 (jB b).length) (h++[EA b,.row none xs 0]) []:=by
 have nl:(b.joins.map Jon.net).length=b.joins.length:=List.length_map ..
 obtain⟨xs,x1,x2,x3,x4,C⟩:=xU (h:=h++[EA b,.row none ((b.joins.map Jon.net).map PV.str) 0]) (b.joins.map Jon.net) (h.length+1) (by simp;omega) (by simp)
 rw[nl]at C x1 x3;have es:∀o,(h++[EA b,.row none ((b.joins.map Jon.net).map PV.str) 0]).set (h.length+1) o=h++[EA b,o]:=fun o=>by rw[List.set_append_right _ _ (by omega)];simp
 rw[es]at C;have S:=fun K=>z3G (h:=h++[EA b,.row none ((b.joins.map Jon.net).map PV.str) 0]) (K:=K) (h.length+1) (b.joins.map Jon.net) (by simpa using hl) (by simp)
 rw[hsrt,es,nl]at S;refine⟨xs,x1,x2,x3,x4,fun K=>JA ?_⟩
 rw[DX];have ln:(b.joins.map Jon.pv).length=b.joins.length:=List.length_map ..
 simp only[AK,Brd.pv,go_sem,ln];refine UA (fun k:Nat=>⟨[(3,.own (h.length+1) k 0 k),(7,.p (.sl (some 3) (b.joins.map Jon.pv))),(8,AI b.joins.length),(9,AI k)],h++[EA b,.row none (((b.joins.map Jon.net).take k).map PV.str) 0],[]⟩) (fun k=>k≤b.joins.length) (fun k=>b.joins.length-k) 0 (by simp;rfl) (by omega) ?_
 intro k hk;unfold EA;rcases Nat.lt_or_ge k b.joins.length with hlt|hge
 ·have g:=dB Jon.pv hlt
  have c1:IA (some 3) 0 b.joins[k].pv=some b.joins[k].pv:=rfl
  have w2:IntKind.i64.wrap ((k:Int)+1)=((k+1:Nat):Int):=FA _ (by omega) (by omega)
  have hn:k<(b.joins.map Jon.net).length:=by simpa using hlt
  have tk:(b.joins.map Jon.net).take (k+1)=(b.joins.map Jon.net).take k++[b.joins[k].net]:=by rw[List.take_succ_eq_append_getElem hn];simp
  have tl:(((b.joins.map Jon.net).take k).map PV.str).length=k:=by simp;omega
  have hm:k+1≤XA:=by unfold XA;omega
  generalize b.joins[k]=x at *;simp only[Jon.pv]at g c1;simp only[go_sem,hlt,g,c1,w2,tl,hm];refine⟨k+1,?_,by omega,by omega⟩
  rw[tk];simp
 ·have e:k=b.joins.length:=by omega
  subst e;have t0:(b.joins.map Jon.net).take b.joins.length=b.joins.map Jon.net:=List.take_of_length_le (by simp)
  unfold EA at C S;unfold jB;rw[t0];generalize (b.joins.map Jon.net).map PV.str=us at *;simp only[go_sem,Nat.lt_irrefl,↓S,S,↓C,C];exact List.take_of_length_le (by simp;omega)
end Go.Am
end
section
/- The reference's board fault,plainly. -/
set_option linter.all false
namespace Go.Am
theorem cY {x:Nm2}(h:x≠[]):¬rA x []≤0:=by
 cases x with
 | nil=>exact absurd rfl h
 | cons a r=>unfold rA;decide
def uH (l:List Pul):Nm2:=((l.getLast?).map Pul.net).getD []
def tH (l:List Prt):Nm2:=((l.getLast?).map Prt.key).getD []
theorem z2n {s:Nm2}(h:xB s=true):s≠[]:=fun e=>by subst e;revert h;decide
theorem zfC (x y:Jon):(nB x y≤0)↔(0≤nB y x):=by
 have n1:=bE x.net y.net
 have n2:=bE x.part y.part
 have n3:=bE x.pin y.pin
 unfold nB;by_cases h1:rA x.net y.net=0
 ·have h1':rA y.net x.net=0:=by omega
  by_cases h2:rA x.part y.part=0
  ·have h2':rA y.part x.part=0:=by omega
   simp only[h1,h1',h2,h2',ne_eq,not_true_eq_false,if_false];omega
  ·have h2':¬rA y.part x.part=0:=by omega
   simp only[h1,h1',h2,h2',ne_eq,not_true_eq_false,not_false_eq_true,if_false,if_true];omega
 ·have h1':¬rA y.net x.net=0:=by omega
  simp only[h1,h1',ne_eq,not_false_eq_true,if_true];omega
theorem zjf {b:Brd}(h:iC none b.parts=0):∀p∈b.parts,∀c∈p.cells,YC c=GB c:=fun p hp c hc=>by
 have hf:=((yL b.parts none h).2.2 p hp).2
 unfold zC at hf;by_cases c1:(200:Int)<p.cells.length
 ·rw[if_pos c1]at hf;cases hf
 rw[if_neg c1]at hf;by_cases c2:BC (UB p.cells) p.cells=0
 ·exact IX (VI c2 c hc)
 ·rw[if_pos c2]at hf;exact absurd hf c2
end Go.Am
end
section
/- The reference: a board's fault. -/
open Go
set_option linter.all false
set_option maxRecDepth 100000
namespace Go.Am
variable {h:aA} {K:mA}
attribute [-go_sem] kB BB YB XB
attribute [-go_sem] qI cG rI dG sI eG
theorem zjV {K:Ex→St→Prop}(b:Brd)(ho:BrdOk b)(hsrt:CB ltS (b.joins.map Jon.net)=b.joins.map Jon.net)(hne:∀ n∈jB b,n≠[])(env:List (Nat × AV))(b1:bA env 1 = .ref h.length 0)(v:Int)
 (hv:(if(100:Int)<(jB b).length then 2 else DE (jB b) none b.pulls)=v)
 (fin:∀H,K .ret ⟨[(2,AI v)],h++H,[]⟩) :
 NW (kA X) X.gl FO ⟨env,h++[EA b],[]⟩ K:=by
 rw[qI];have ln:(b.pulls.map Pul.pv).length=b.pulls.length:=List.length_map ..
 have hl:=ho.p
 have j12:=ho.j.l
 obtain⟨xs,x1,x2,x3,x4,NM⟩:=zkf (h:=h++[EA b]) b j12 hsrt;simp only[Brd.pv]at NM;unfold EA at NM ⊢;have h100:¬(100:Int)<(jB b).length:=by omega
 rw[if_neg h100]at hv;simp only[cG,b1,go_sem,↓NM,NM,h100,ln];refine UA (fun k:Nat=>⟨[(3,AS (uH (b.pulls.take k))),(11,.own (h.length+1+1) b.joins.length 0 (jB b).length),(126,.p (.sl (some 2) (b.pulls.map Pul.pv))),(127,AI b.pulls.length),(128,AI k)],h++[EA b,EA b,.row none xs 0],[]⟩) (fun k=>k≤b.pulls.length∧DE (jB b) (b.pulls.take k).getLast? (b.pulls.drop k)=v) (fun k=>b.pulls.length-k) 0 (by first|rfl|skip) ⟨by omega,hv⟩ ?_
 rintro k ⟨hk,hp⟩
 have SH:∀T:aA,Shows none (.own (h.length+1+1) b.joins.length 0 (jB b).length) ((jB b).map PV.str) (h++EA b::EA b :: .row none xs 0::T):=fun T=>by
  have:=pP (h:=h++EA b::EA b :: .row none xs 0::T) (id:=h.length+1+1) (off:=0) (len:=(jB b).length) (fz:=0) x4 (by rw[List.getElem?_append_right (by omega),show h.length+1+1-h.length=2 by omega];rfl) (by omega)
  rw[x1,x2]at this;exact this
 have CT:=fun(T:aA) (s:List UInt8) K=>fV (h:=h++EA b::EA b :: .row none xs 0::T) (K:=K) (jB b) (fun h' e=>by rw[e];exact SH T) s (by omega)
 unfold EA at CT ⊢;rcases Nat.lt_or_ge k b.pulls.length with hlt|hge
 ·have g:=dB Pul.pv hlt
  have c1:IA (some 2) 0 b.pulls[k].pv=some b.pulls[k].pv:=rfl
  have w2:IntKind.i64.wrap ((k:Int)+1)=((k+1:Nat):Int):=FA _ (by omega) (by omega)
  rw[List.drop_eq_getElem_cons hlt,z3c]at hp;have lg:(b.pulls.take (k+1)).getLast?=some b.pulls[k]:=by rw[gF (by omega),List.getElem?_eq_getElem hlt]
  have ln2:uH (b.pulls.take (k+1))=b.pulls[k].net:=by unfold uH;rw[lg];rfl
  generalize hxx:b.pulls[k]=x at *;have CX:=fun T K=>CT T x.net K
  have OB:=fun h K=>lP (h:=h) (K:=K) x.level 0 1
  simp only[Pul.pv,eI]at g c1;cases hcn:(jB b).contains x.net with
  | false=>
   rw[hcn,if_pos rfl]at hp;rw[hcn]at CX;subst hp;simp only[go_sem,hlt,g,c1,↓CX,CX];exact fin _
  | true=>
   have xne:x.net≠[]:=hne _ (by simpa using hcn)
   rw[hcn,if_neg (by simp)]at hp
   rw[hcn]at CX;cases hlv:inB 0 x.level 1 with
   | false=>
    rw[hlv,if_pos rfl]at hp;rw[hlv]at OB;subst hp;simp only[go_sem,hlt,g,c1,↓CX,CX,↓OB,OB];exact fin _
   | true=>
    rw[hlv,if_neg (by simp)]at hp
    rw[hlv]at OB;replace hp:(if decide (rA x.net (uH (b.pulls.take k))≤0)=true then 7 else DE (jB b) (some x) (b.pulls.drop (k+1)))=v:=by
     unfold uH;cases hgl:(b.pulls.take k).getLast? with
     | none=>
      rw[hgl]at hp;rw[show decide (rA x.net ((Option.map Pul.net none).getD [])≤0)=false from decide_eq_false (cY xne)]
      exact hp
     | some q=>rw[hgl]at hp;exact hp
    have le:=bO x.net (uH (b.pulls.take k))
    generalize uH (b.pulls.take k)=la at *;by_cases hc:rA x.net la≤0
    ·rw[if_pos (by simp [hc])]at hp
     subst hp;simp only[go_sem,hlt,g,c1,↓CX,CX,↓OB,OB,le,hc];exact fin _
    ·rw[if_neg (by simp [hc])]at hp
     simp only[go_sem,hlt,g,c1,↓CX,CX,↓OB,OB,le,hc,w2];refine⟨k+1,?_,⟨by omega,?_⟩,by omega⟩
     ·rw[ln2]
     ·rw[lg];exact hp
 ·have e:k=b.pulls.length:=by omega
  subst e;rw[List.drop_length]at hp;have z:v=0:=hp.symm
  subst z;simp only[go_sem,Nat.lt_irrefl];exact fin _
end Go.Am
end
section
/- The reference: a board's fault,joins. -/
open Go
set_option linter.all false
set_option maxRecDepth 100000
namespace Go.Am
variable {h:aA} {K:mA}
attribute [-go_sem] kB BB YB XB
attribute [-go_sem] qI cG rI dG sI eG
def YI (x:Jon):Obj:=.box [AS x.net,AS x.part,AS x.pin]
def QU:PV→Jon
 | .agg [.str a,.str b,.str c]=>⟨a,b,c⟩
 | _=>⟨[],[],[]⟩
theorem zlC (x:Jon):QU x.pv=x:=rfl
theorem zfJ {l:List Jon}:jC (some 3) (l.map Jon.pv):=fun x hx=>by obtain⟨e,_,rfl⟩:=List.mem_map.1 hx;rfl
theorem zjU (x y:Jon)(id:Nat)(hc:h[id]?=some (YI x)):kA X iH [.p y.pv,.ref id 0] h K=K (AB (rD x y)) h []:=by
 refine JA ?_;rw[zaH rfl];have hl:=WB hc
 have hc2:∀t,(h++t)[id]?=some (YI x):=fun t=>by rw[List.getElem?_append_left hl];exact hc
 unfold YI at hc hc2;unfold rD;by_cases h1:y.part=x.part
 ·have h1p:=eq_true h1
  simp only[oN,Jon.pv,go_sem,hc,hc2,h1p]
 ·simp only[oN,Jon.pv,go_sem,hc,hc2,h1]
theorem zjW {K:Ex→St→Prop}(b:Brd)(ho:BrdOk b)(hsrt:CB ltS (b.joins.map Jon.net)=b.joins.map Jon.net)(hne:∀ n∈jB b,n≠[])(env:List (Nat × AV))(b1:bA env 1 = .ref h.length 0)(v:Int)
 (hv:(if twJ [] b.joins=true then 6 else if(100:Int)<(jB b).length then 2 else DE (jB b) none b.pulls)=v)
 (fin:∀H,K .ret ⟨[(2,AI v)],h++H,[]⟩) :
 NW (kA X) X.gl GO ⟨env,h++[EA b],[]⟩ K:=by
 rw[rI];have ln:(b.joins.map Jon.pv).length=b.joins.length:=List.length_map ..
 have j12:=ho.j.l
 unfold EA;simp only[dG,b1,go_sem,ln];refine UA (fun k:Nat=>⟨[(1,.ref h.length 0),(106,.p (.sl (some 3) (b.joins.map Jon.pv))),(107,AI b.joins.length),(108,AI k)],h++[EA b],[]⟩) (fun k=>k≤b.joins.length∧twJ (b.joins.take k) (b.joins.drop k)=twJ [] b.joins) (fun k=>b.joins.length-k) 0 rfl ⟨by omega,rfl⟩ ?_
 rintro k ⟨hk,hp⟩
 rcases Nat.lt_or_ge k b.joins.length with hlt|hge
 ·have g:=dB Jon.pv hlt
  have c1:IA (some 3) 0 b.joins[k].pv=some b.joins[k].pv:=rfl
  have w2:IntKind.i64.wrap ((k:Int)+1)=((k+1:Nat):Int):=FA _ (by omega) (by omega)
  rw[List.drop_eq_getElem_cons hlt,z4i]at hp;have tk:b.joins.take (k+1)=b.joins.take k++[b.joins[k]]:=List.take_succ_eq_append_getElem hlt
  rw[←tk]at hp;have hw:win (b.joins.map Jon.pv) 0 k=(b.joins.take k).map Jon.pv:=by simp [win,List.map_take]
  have hkl:k≤b.joins.length:=hk
  generalize hcc:b.joins[k]=c at *;have tells:∀o:Obj,MD iH [.ref (h.length+1) 0] (fun y=>rD c (QU y)) ((b.joins.take k).map Jon.pv) (h++[o,YI c]):=fun o y hy K=>by
   obtain⟨d,_,rfl⟩:=List.mem_map.1 hy;dsimp only;rw[zlC];exact zjU c d (h.length+1) (by simp)
  have CF:=fun(o:Obj) K=>z4D (h:=h++[o,YI c]) (K:=K) (tells o) zfJ (by simp;omega)
  have ea:((b.joins.take k).map Jon.pv).any (fun y=>rD c (QU y))=(b.joins.take k).any (rD c):=by rw[List.any_map];rfl
  simp only[ea]at CF;unfold YI at CF;simp only[Jon.pv]at g c1;cases ha:(b.joins.take k).any (rD c) with
  | true=>
   rw[ha,if_pos rfl]at hp;rw[ha]at CF;rw[←hp,if_pos rfl]at hv;subst hv;simp only[EA,go_sem,hlt,g,c1,w2,ln,hkl,hw,↓CF,CF];exact fin _
  | false=>
   rw[ha,if_neg (by simp)]at hp
   rw[ha]at CF;simp only[EA,go_sem,hlt,g,c1,w2,ln,hkl,hw,↓CF,CF];exact⟨k+1,rfl,⟨by omega,hp⟩,by omega⟩
 ·have e:k=b.joins.length:=by omega
  subst e;rw[List.drop_length]at hp;have hz:twJ [] b.joins=false:=hp.symm
  rw[hz,if_neg (by simp)]at hv
  simp only[go_sem,Nat.lt_irrefl];exact zjV b ho hsrt hne _ rfl v hv fin
end Go.Am
end
section
/- The reference: a board's fault,whole. -/
open Go
set_option linter.all false
set_option maxRecDepth 100000
namespace Go.Am
variable {h:aA} {K:mA}
attribute [-go_sem] kB BB YB XB
attribute [-go_sem] qI cG rI dG sI eG
theorem z2j {α:Type}(lt:α→α→Bool){l:List α}(hp:l.Pairwise (fun a b=>lt b a=false)):CB lt l=l:=by
 have key:∀(l r:List α),(∀x∈l,∀y∈r,lt x y=false)→l.Pairwise (fun a b=>lt b a=false)→l.foldl (fun r x=>IB lt x r) r=l.reverse++r:=by
  intro l;induction l with
  | nil=>intro r _ _;rfl
  | cons x l ih=>
   intro r h1 h2;rw[List.pairwise_cons]at h2;have hi:IB lt x r=x::r:=by
    cases r with
    | nil=>rfl
    | cons y r=>unfold IB;rw[h1 x (by simp) y (by simp)];rfl
   rw[List.foldl_cons,hi,ih _ (fun a ha y hy=>?_) h2.2,List.reverse_cons,List.append_assoc]
   ·rfl
   ·rcases List.mem_cons.1 hy with e|hy
    ·rw[e];exact h2.1 a ha
    ·exact h1 a (by simp [ha]) y hy
 have:=key l [] (by simp) hp
 rw[List.append_nil]at this;show(OC lt l).reverse=l
 unfold OC;rw[this,List.reverse_reverse]
theorem zfD {x q:Jon}(h:¬ nB x q≤0):rA q.net x.net≤0:=by
 have n1:=bE x.net q.net
 unfold nB at h;by_cases h1:rA x.net q.net=0
 ·omega
 ·rw[if_pos h1]at h;omega
theorem PS (b:Brd):∀(l:List Jon) (p:Option Jon),PC b p l=0→(∀q,p=some q→∀x∈l,rA q.net x.net≤0)∧l.Pairwise (fun x y=>rA x.net y.net≤0)∧∀x∈l,xB x.net=true
 | [],p,_=>⟨fun _ _ _ h=>(by cases h),List.Pairwise.nil,fun _ h=>(by cases h)⟩
 | x::r,p,h=>by
  rw[OS]at h;cases hk:xB x.net with
  | false=>rw[hk,if_pos rfl]at h;cases h
  | true=>
   rw[hk,if_neg (by simp)]at h
   cases hpn:LF b x.part x.pin with
   | false=>rw[hpn,if_pos rfl]at h;cases h
   | true=>
    rw[hpn,if_neg (by simp)]at h
    have px:(∀q,p=some q→rA q.net x.net≤0)∧PC b (some x) r=0:=by
     cases p with
     | none=>exact⟨fun _ h=>(by cases h),by rw[if_neg (by simp)]at h;exact h⟩
     | some q=>
      by_cases hc:nB x q≤0
      ·rw[if_pos (by simp [hc])]at h;cases h
      ·rw[if_neg (by simp [hc])]at h
       exact⟨fun q' e=>by cases e;exact zfD hc,h⟩
    obtain⟨i1,i2,i3⟩:=PS b r (some x) px.2;have i1':=i1 x rfl
    refine⟨fun q hq y hy=>?_,List.pairwise_cons.2 ⟨i1',i2⟩,fun y hy=>?_⟩
    ·rcases List.mem_cons.1 hy with e|hy
     ·rw[e];exact px.1 q hq
     ·exact WQ (px.1 q hq) (i1' y hy)
    ·rcases List.mem_cons.1 hy with e|hy
     ·rw[e];exact hk
     ·exact i3 y hy
theorem zfI {b:Brd}(h:PC b none b.joins=0):CB ltS (b.joins.map Jon.net)=b.joins.map Jon.net:=by
 refine z2j _ ?_;rw[List.pairwise_map];refine(PS b _ none h).2.1.imp fun {x y} q=>?_
 have:=bE x.net y.net;unfold ltS;simp;omega
theorem zfG {b:Brd}(h:PC b none b.joins=0):∀n∈jB b,n≠[]:=fun n hn=>by
 unfold jB at hn;obtain⟨x,hx,rfl⟩:=List.mem_map.1 (zb0 hn);exact z2n ((PS b _ none h).2.2 x hx)
end Go.Am
end
section
/- Joins sorted by a comparison: printed by program. -/
open Go
set_option linter.unusedSimpArgs false
namespace Go.Am
attribute [-go_sem] PV.cells splice
variable {h:aA} {K:mA}
theorem zf2 (id n:Nat)(l tl:List PV)(hn:n=l.length+tl.length)(hs:jC (some 3) l)(hl:l.length≤1000)(hh:h[id]?=some (.row (some 3) (l++tl) 0)){g:Nat}{caps:List AV}{c:PV→PV→Int}(hc:Cmps g caps c l id h) :
 kA X QI [.own id n 0 l.length,AI 0,AI l.length,.fn g caps] h K=K (.tup []) (h.set id (.row (some 3) (CB (ltC c) l++tl) 0)) []:=by
 refine JA ?_;rw[zbf];have hid:=WB hh
 have hst:∀o,(h.set id o)[id]?=some o:=fun o=>CG hid
 simp only[zN,go_sem,show IntKind.i64.wrap 1=1 from rfl]
 refine UA (fun i:Nat=>⟨[(0,.own id n 0 l.length),(1,AI 0),(2,AI l.length),(3,.fn g caps),(8,AI i)],h.set id (.row (some 3) ((OC (ltC c) (l.take i)).reverse++(l.drop i++tl)) 0),[]⟩) (fun i=>1≤i∧(i≤l.length∨i=1)) (fun i=>l.length-i) 1 ?_ (by simp) ?_
 ·have:(OC (ltC c) (l.take 1)).reverse++(l.drop 1++tl)=l++tl:=by cases l <;> rfl
  rw[this,UJ hh];rfl
 rintro i ⟨hi1,hi2⟩
 rcases Nat.lt_or_ge i l.length with hlt|hge
 ·simp only[go_sem,hlt]
  have hxl:l[i]∈l:=List.getElem_mem hlt
  generalize hx:l[i]=x at *;generalize hR:OC (ltC c) (l.take i)=R;have hRl:R.length=i:=by rw[←hR,z2e];simp;omega
  have hRm:∀z∈R,z∈l:=fun z hz=>List.mem_of_mem_take ((ZN (ltC c) (l.take i)).mem_iff.1 (by rw[hR];exact hz))
  have hdrop:l.drop i=x::l.drop (i+1):=by rw[←hx];exact List.drop_eq_getElem_cons hlt
  have hnext:OC (ltC c) (l.take (i+1))=IB (ltC c) x R:=by rw[z2h _ _ _ hlt,hR,hx]
  refine UA (fun t:List PV×List PV=>⟨[(0,.own id n 0 l.length),(1,AI 0),(2,AI l.length),(3,.fn g caps),(8,AI i),(9,AI t.1.length)],h.set id (.row (some 3) (t.1.reverse++x::t.2) 0),[]⟩)
   (fun t=>∃B,R=B++t.1∧t.2=B.reverse++(l.drop (i+1)++tl)∧∀b∈B,ltC c x b=true) (fun t=>t.1.length) (R,l.drop (i+1)++tl) (by rw[hdrop,hRl];rfl) ⟨[],rfl,rfl,by simp⟩ ?_
  rintro⟨A,C⟩ ⟨B,q1,q2,q3⟩
  dsimp only at q1 q2 q3;have hlen:(A.reverse++x::C).length=n:=by
   have:R.length=B.length+A.length:=by rw[q1];simp
   rw[q2];simp;omega
  have hBA:B.length+A.length<l.length:=by
   have:R.length=B.length+A.length:=by rw[q1];simp
   omega
  have hln:l.length≤n:=by omega
  have w1:IntKind.i64.wrap ((i:Int)+1)=((i+1:Nat):Int):=FA _ (by omega) (by omega)
  cases A with
  | nil=>
   have hd:IB (ltC c) x R=B++[x]:=by rw[q1];exact YN (ltC c) x [] B q3 (fun y r h=>by cases h)
   simp only[go_sem,Int.lt_irrefl,w1];refine⟨i+1,?_,by omega,by omega⟩
   simp only[hnext,hd,q2,List.reverse_append,List.reverse_nil,List.nil_append,List.reverse_cons,List.append_assoc,List.cons_append]
  | cons y A=>
   have hyl:y∈l:=hRm y (by rw[q1];simp)
   have g1:=z2b (y::A) C x
   have g2:=z2c A C x y
   have sw:=z2d A C x y
   simp only[List.length_cons]at hBA;generalize hrow:(y::A).reverse++x::C=row at *;simp only[List.length_cons]at g1;have w2:IntKind.i64.wrap (((A.length+1:Nat):Int)-1)=(A.length:Int):=by rw[FA _ (by omega) (by omega)];omega
   have p1:(0:Int)<((A.length+1:Nat):Int):=by omega
   have b1:A.length+1<l.length:=by omega
   have b2:A.length<l.length:=by omega
   have cx:=oF (hs x hxl)
   have cy:=oF (hs y hyl)
   have hcc:=fun o K=>hc o x hxl y hyl K
   by_cases hxy:c x y<0
   ·have g3:(row.set (A.length+1) y)[A.length]?=some y:=by rw[List.getElem?_set_ne (by omega),g2]
    have lx:=KL (hs x hxl)
    have ly:=KL (hs y hyl)
    have sx:=JL (hs x hxl)
    have sy:=JL (hs y hyl)
    simp only[jA]at lx ly;have t1:=fun i xs h1=>LL (hs x hxl) (hs y hyl) id i 0 xs h1
    have t2:=fun i xs h1=>LL (hs y hyl) (hs x hxl) id i 0 xs h1
    simp only[go_sem,hst,p1,hlen,g1,g2,g3,w2,b1,b2,hln,cx,cy,hcc,hxy,lx,ly,sx,sy,t1,t2,sw];refine⟨(A,y::C),rfl,⟨B++[y],by simp [q1],by simp [q2],fun b hb=>?_⟩,by simp⟩
    rw[List.mem_append,List.mem_singleton]at hb;rcases hb with hb|rfl
    ·exact q3 b hb
    ·simpa [ltC] using hxy
   ·have hd:IB (ltC c) x R=B++x::y::A:=by rw[q1];exact YN (ltC c) x (y::A) B q3 (fun z r h=>by cases h;simpa [ltC] using hxy)
    simp only[go_sem,hst,p1,hlen,g1,g2,w2,b1,b2,hln,cx,cy,hcc,hxy,w1];refine⟨i+1,?_,by omega,by omega⟩
    simp only[hnext,hd,←hrow,q2,List.reverse_append,List.reverse_cons,List.append_assoc,List.cons_append,List.nil_append]
 ·have hge':¬i<l.length:=by omega
  have e1:l.take i=l:=List.take_of_length_le hge
  have e2:l.drop i=[]:=List.drop_of_length_le hge
  simp only[go_sem,hge',e1,e2];rfl
theorem z8h (id:Nat)(l:List PV)(hs:jC (some 3) l)(hl:l.length≤12)(hh:h[id]?=some (.row (some 3) l 0)){g:Nat}{caps:List AV}{c:PV→PV→Int}(hc:Cmps g caps c l id h) :
 kA X nH [.own id l.length 0 l.length,.fn g caps] h K=K (.tup []) (h.set id (.row (some 3) (CB (ltC c) l) 0)) []:=by
 refine JA ?_;rw[zbd];have w0:IntKind.u64.wrap (l.length:Int)=l.length:=PU _ (by omega) (by omega)
 obtain⟨m,hm⟩:=z2t (l.length:Int) (by omega) (by omega)
 have is:=fun K=>zf2 (h:=h) (K:=K) id l.length l [] rfl hs (by omega) (by rw[List.append_nil];exact hh) hc
 simp only[List.append_nil]at is;have key:∀K:mA,kA X ZE [.own id l.length 0 l.length,AI 0,AI l.length,AI m,.fn g caps] h K=K (.tup []) (h.set id (.row (some 3) (CB (ltC c) l) 0)) []:=by
  intro K;refine JA ?_;rw[zbh];simp only[CN,go_sem];refine UA (fun _:Unit=>⟨[(0,.own id l.length 0 l.length),(1,AI 0),(2,AI l.length),(3,AI m),(4,.fn g caps),(10,AB true),(11,AB true)],h,[]⟩) (fun _=>True) (fun _=>0) () rfl trivial ?_
  intro _ _;have w1:IntKind.i64.wrap ((l.length:Int)-0)=l.length:=by rw[FA _ (by omega) (by omega)];omega
  have b1:((l.length:Int)≤12):=by omega
  simp only[go_sem,w1,b1,is]
 simp only[KR,go_sem,w0,hm,key]
end Go.Am
end
section
/- What is drawn: the order of joins. -/
open Go
set_option linter.all false
set_option maxRecDepth 100000
namespace Go.Am
variable {h:aA} {K:mA}
theorem zjK (x y:Jon):kA X nG [.p x.pv,.p y.pv] h K=K (AI (nB x y)) h []:=by
 refine JA ?_;rw[za7 rfl];have C:=fun hh K=>z38 (h:=hh) (K:=K) x y
 simp only[sR,Jon.pv,go_sem,↓C,C]
theorem zfF {x y z:Jon}(h1:nB x y≤0)(h2:nB y z≤0):rA x.net z.net≤0:=by
 have a1:rA x.net y.net≤0:=by
  unfold nB at h1;by_cases e:rA x.net y.net=0
  ·omega
  ·rw[if_pos e]at h1;exact h1
 have a2:rA y.net z.net≤0:=by
  unfold nB at h2;by_cases e:rA y.net z.net=0
  ·omega
  ·rw[if_pos e]at h2;exact h2
 exact WQ a1 a2
theorem z2m (x y:Jon):nB y x = - nB x y:=by
 have n1:=bE x.net y.net
 have n2:=bE x.part y.part
 have n3:=bE x.pin y.pin
 unfold nB;by_cases h1:rA x.net y.net=0
 ·have h1':rA y.net x.net=0:=by omega
  by_cases h2:rA x.part y.part=0
  ·have h2':rA y.part x.part=0:=by omega
   simp only[h1,h1',h2,h2',ne_eq,not_true_eq_false,if_false];omega
  ·have h2':¬rA y.part x.part=0:=by omega
   simp only[h1,h1',h2,h2',ne_eq,not_true_eq_false,not_false_eq_true,if_false,if_true];omega
 ·have h1':¬rA y.net x.net=0:=by omega
  simp only[h1,h1',ne_eq,not_false_eq_true,if_true];omega
theorem zfE {x y z:Jon}(h1:nB x y≤0)(h2:nB y z≤0):nB x z≤0:=by
 unfold nB at h1 h2 ⊢;by_cases a1:rA x.net y.net=0
 ·have e1:=PE a1
  simp only[a1,ne_eq,not_true_eq_false,if_false]at h1;rw[e1];by_cases a2:rA y.net z.net=0
  ·simp only[a2,ne_eq,not_true_eq_false,if_false]at h2 ⊢
   by_cases b1:rA x.part y.part=0
   ·have f1:=PE b1
    simp only[b1,ne_eq,not_true_eq_false,if_false]at h1;rw[f1];by_cases b2:rA y.part z.part=0
    ·simp only[b2,ne_eq,not_true_eq_false,if_false]at h2 ⊢
     exact WQ h1 h2
    ·simp only[b2,ne_eq,not_false_eq_true,if_true]at h2 ⊢
     exact h2
   ·simp only[b1,ne_eq,not_false_eq_true,if_true]at h1
    by_cases b2:rA y.part z.part=0
    ·rw[←PE b2]
     simp only[b1,ne_eq,not_false_eq_true,if_true];exact h1
    ·simp only[b2,ne_eq,not_false_eq_true,if_true]at h2
     have:=fI (a:=x.part) (b:=y.part) (c:=z.part) (by omega) (by omega)
     rw[if_pos (by omega)];omega
  ·simp only[a2,ne_eq,not_false_eq_true,if_true]at h2 ⊢
   exact h2
 ·simp only[a1,ne_eq,not_false_eq_true,if_true]at h1
  by_cases a2:rA y.net z.net=0
  ·rw[←PE a2]
   simp only[a1,ne_eq,not_false_eq_true,if_true];exact h1
  ·simp only[a2,ne_eq,not_false_eq_true,if_true]at h2
   have:=fI (a:=x.net) (b:=y.net) (c:=z.net) (by omega) (by omega)
   rw[if_pos (by omega)];omega
theorem ordJ:Ordr nB:=⟨fun a b=>z2m a b,fun a b d h1 h2=>zfE h1 h2⟩
def unJ2:PV→Jon
 | .agg [.str a,.str b,.str c]=>⟨a,b,c⟩
 | _=>⟨[],[],[]⟩
theorem zfK {l:List Jon}:jC (some 3) (l.map Jon.pv):=fun x hx=>by obtain⟨e,_,rfl⟩:=List.mem_map.1 hx;rfl
theorem zkl (id:Nat)(l:List Jon)(hl:l.length≤12)(hh:h[id]?=some (.row (some 3) (l.map Jon.pv) 0)) :
 kA X nH [.own id l.length 0 l.length,.fn nG []] h K=K (.tup []) (h.set id (.row (some 3) ((CB (ltO nB) l).map Jon.pv) 0)) []:=by
 have hc:Cmps nG [] (fun a b=>nB (unJ2 a) (unJ2 b)) (l.map Jon.pv) id h:=by
  intro o x hx y hy K';obtain⟨a,_,rfl⟩:=List.mem_map.1 hx;obtain⟨b,_,rfl⟩:=List.mem_map.1 hy;exact zjK a b
 have S:=z8h (h:=h) (K:=K) id (l.map Jon.pv) zfK (by simpa using hl) hh hc
 have e:CB (ltC fun a b=>nB (unJ2 a) (unJ2 b)) (l.map Jon.pv)=(CB (ltO nB) l).map Jon.pv:=z2i Jon.pv (fun a b=>rfl) l
 rw[e]at S;simpa using S
theorem zfH (l:List Jon):CB ltS ((CB (ltO nB) l).map Jon.net)=(CB (ltO nB) l).map Jon.net:=by
 refine z2j _ ?_;rw[List.pairwise_map];refine(zfA ordJ.weak l).imp fun {x y} q=>?_
 have q':¬nB y x<0:=by simpa [ltO] using q
 have n1:=z2m x y
 have:=zfF (x:=x) (y:=y) (z:=y) (by omega) (by rw[ordJ.refl];exact Int.le_refl 0)
 have n2:=bE x.net y.net
 unfold ltS;simp;omega
end Go.Am
end
section
/- What is drawn: the cells of a part. -/
open Go
set_option linter.all false
set_option maxRecDepth 100000
namespace Go.Am
variable {h:aA} {K:mA} {L:List Int}
attribute [-go_sem] kB BB YB XB
def qD (k:Nat):Nm2:=[112,UInt8.ofNat (97+k%4)]
def TB (c:Cel):Prop:=c.pin=[]∨∃i:Nat,i<4∧c.pin=qD i
theorem zjk {k:Nat}(hk:k≤6):eA .rem (.p (.int .i64 (k:Int))) (.p (.int .i64 4))=some (.p (.int .i64 ((k%4:Nat):Int))):=by
 have:k=0∨k=1∨k=2∨k=3∨k=4∨k=5∨k=6:=by omega
 rcases this with rfl|rfl|rfl|rfl|rfl|rfl|rfl <;> rfl
theorem zjl {k:Nat}(hk:k≤6):eA .add (.p (.int .i64 97)) (.p (.int .i64 ((k%4:Nat):Int)))=some (.p (.int .i64 ((97+k%4:Nat):Int))):=by
 have:k=0∨k=1∨k=2∨k=3∨k=4∨k=5∨k=6:=by omega
 rcases this with rfl|rfl|rfl|rfl|rfl|rfl|rfl <;> rfl
theorem zjm {k:Nat}(hk:k≤6):ED .i32 (.p (.int .i64 ((97+k%4:Nat):Int)))=some (.p (.int .i32 ((97+k%4:Nat):Int))):=by
 have:k=0∨k=1∨k=2∨k=3∨k=4∨k=5∨k=6:=by omega
 rcases this with rfl|rfl|rfl|rfl|rfl|rfl|rfl <;> rfl
theorem zjn {k:Nat}(hk:k≤6)(h:aA):jF .r2s (.p (.int .i32 ((97+k%4:Nat):Int))) h=some (.p (.str [UInt8.ofNat (97+k%4)]),h,[]):=by
 have:k=0∨k=1∨k=2∨k=3∨k=4∨k=5∨k=6:=by omega
 rcases this with rfl|rfl|rfl|rfl|rfl|rfl|rfl <;> rfl
theorem zku {K:Ex→St→Prop}{id:Nat}(hid:id<h.length){a0:Int}{n:Nat}(hn:n≤6)(hp:sA 1000 a0)
 (fin:∀(l:List Cel) (a:Int) (z:Nat×AV),l.length=n→(∀c∈l,TB c)→a=a0+n→K (.exit 0) ⟨[(0,.ref id 0),(3,.own h.length l.length 0 l.length),(14,AI n),(15,AI n),z],h.set id (vA L a)++[.row (some 4) (l.map Cel.pv) 0],[]⟩) :
 LA (kA X) X.gl (.scope DH) K [(0,.ref id 0),(3,.own h.length 0 0 0),(14,AI n),(15,AI 0)] (h.set id (vA L a0)++[.row (some 4) [] 0]) []:=by
 refine UA (fun t:Nat×List Cel=>⟨[(0,.ref id 0),(3,.own h.length t.2.length 0 t.2.length),(14,AI n),(15,AI t.1)],h.set id (vA L (a0+t.1))++[.row (some 4) (t.2.map Cel.pv) 0],[]⟩) (fun t=>t.1≤n∧t.2.length=t.1∧∀c∈t.2,TB c) (fun t=>n-t.1) (0,[]) (by simp) ⟨by omega,rfl,by simp⟩ ?_
 rintro⟨k,l⟩ ⟨hk,hll,hl⟩
 dsimp only at hk hll hl ⊢;have i1:id≤h.length:=by omega
 rcases Nat.lt_or_ge k n with hlt|hge
 ·have w2:IntKind.i64.wrap ((k:Int)+1)=((k+1:Nat):Int):=FA _ (by omega) (by omega)
  have pk:sA 0 (a0+k):=by unfold sA at *;omega
  have e1:=zjk (k:=k) (by omega)
  have e2:=zjl (k:=k) (by omega)
  have e3:=zjm (k:=k) (by omega)
  have e4:=zjn (k:=k) (by omega)
  have el:(l.map Cel.pv).length=l.length:=List.length_map ..
  have km:l.length+1≤XA:=by unfold XA;omega
  have ea:a0+((k+1:Nat):Int)=a0+k+1:=by omega
  have dp:TB ⟨1,qD k,-1,0⟩∧TB ⟨2,qD k,-1,0⟩∧TB ⟨3,[],-1,0⟩:=by
   have hp:∃i:Nat,i<4∧qD k=qD i:=⟨k%4,by omega,by unfold qD;rw[Nat.mod_mod]⟩
   exact⟨.inr hp,.inr hp,.inl rfl⟩
  have nx:∀c,TB c→∀x∈l++[c],TB x:=fun c hc x hx=>by
   rcases List.mem_append.1 hx with q|q
   ·exact hl x q
   ·rw[List.mem_singleton]at q;rw[q];exact hc
  obtain⟨b1,b2⟩:=iE L (a0+k) 5 (by omega) (by omega)
  have hv:DA L (a0+k) 5=0∨DA L (a0+k) 5=1∨DA L (a0+k) 5=2∨DA L (a0+k) 5=3∨DA L (a0+k) 5=4:=by omega
  rcases hv with v|v|v|v|v
  ·simp only[go_sem,hlt,w2,↓e1,e1,↓e2,e2,↓e3,e3,↓e4,e4,hid,pk,v,el,km,i1]
   rw[if_pos (by decide)]
   refine⟨(k+1,l++[⟨1,qD k,-1,0⟩]),?_,⟨hlt,by simp [hll],nx _ dp.1⟩,by dsimp only;omega⟩
   dsimp only;rw[ea,List.length_append,List.map_append];rfl
  ·simp only[go_sem,hlt,w2,↓e1,e1,↓e2,e2,↓e3,e3,↓e4,e4,hid,pk,v,el,km,i1]
   rw[if_pos (by decide)]
   refine⟨(k+1,l++[⟨1,qD k,-1,0⟩]),?_,⟨hlt,by simp [hll],nx _ dp.1⟩,by dsimp only;omega⟩
   dsimp only;rw[ea,List.length_append,List.map_append];rfl
  ·simp only[go_sem,hlt,w2,↓e1,e1,↓e2,e2,↓e3,e3,↓e4,e4,hid,pk,v,el,km,i1]
   rw[if_pos (by decide)]
   refine⟨(k+1,l++[⟨2,qD k,-1,0⟩]),?_,⟨hlt,by simp [hll],nx _ dp.2.1⟩,by dsimp only;omega⟩
   dsimp only;rw[ea,List.length_append,List.map_append];rfl
  ·simp only[go_sem,hlt,w2,↓e1,e1,↓e2,e2,↓e3,e3,↓e4,e4,hid,pk,v,el,km,i1]
   rw[if_pos (by decide)]
   refine⟨(k+1,l++[⟨3,[],-1,0⟩]),?_,⟨hlt,by simp [hll],nx _ dp.2.2⟩,by dsimp only;omega⟩
   dsimp only;rw[ea,List.length_append,List.map_append];rfl
  ·simp only[go_sem,hlt,w2,↓e1,e1,↓e2,e2,↓e3,e3,↓e4,e4,hid,pk,v,el,km,i1]
   rw[if_pos (by decide)]
   refine⟨(k+1,l++[⟨2,qD k,-1,0⟩]),?_,⟨hlt,by simp [hll],nx _ dp.2.1⟩,by dsimp only;omega⟩
   dsimp only;rw[ea,List.length_append,List.map_append];rfl
 ·have e:k=n:=by omega
  subst e;simp only[go_sem,Nat.lt_irrefl,i1];exact fin l _ _ hll hl rfl
end Go.Am
end
section
/- What is drawn: the cells of a part,their control cells. -/
open Go
set_option linter.all false
set_option maxRecDepth 100000
namespace Go.Am
variable {h:aA} {K:mA} {L:List Int}
attribute [-go_sem] kB BB YB XB
theorem zkv {K:Ex→St→Prop}{id:Nat}(hid:id<h.length){a0:Int}{l0:List Cel}(hn:l0.length≤6)(hp:sA 1000 a0)(hl0:∀ c∈l0,TB c)
 (fin:∀(l:List Cel) (a:Int) (z:Nat×AV),l.length=l0.length→(∀c∈l,TB c)→a0≤a→a≤a0+3*l0.length→K (.exit 3) ⟨[(0,.ref id 0),(3,.own h.length l0.length 0 l0.length),(54,AI l0.length),(55,AI l0.length),z],h.set id (vA L a)++[.row (some 4) (l.map Cel.pv) 0],[]⟩) :
 LA (kA X) X.gl wJ K [(0,.ref id 0),(3,.own h.length l0.length 0 l0.length),(54,AI l0.length),(55,AI 0)] (h.set id (vA L a0)++[.row (some 4) (l0.map Cel.pv) 0]) []:=by
 refine UA (fun t:Nat×List Cel×Int=>⟨[(0,.ref id 0),(3,.own h.length l0.length 0 l0.length),(54,AI l0.length),(55,AI t.1)],h.set id (vA L t.2.2)++[.row (some 4) (t.2.1.map Cel.pv) 0],[]⟩) (fun t=>t.1≤l0.length∧t.2.1.length=l0.length∧(∀c∈t.2.1,TB c)∧a0≤t.2.2∧t.2.2≤a0+3*t.1) (fun t=>l0.length-t.1) (0,l0,a0) rfl ⟨by omega,rfl,hl0,by dsimp only;omega,by dsimp only;omega⟩ ?_
 rintro⟨k,l,a⟩ ⟨hk,hll,hl,ha1,ha2⟩
 dsimp only at hk hll hl ha1 ha2 ⊢;have i1:id≤h.length:=by omega
 rcases Nat.lt_or_ge k l0.length with hlt|hge
 ·have w2:IntKind.i64.wrap ((k:Int)+1)=((k+1:Nat):Int):=FA _ (by omega) (by omega)
  have p0:sA 0 a:=by unfold sA at *;omega
  have p1:sA 0 (a+1):=by unfold sA at *;omega
  have p2:sA 0 (a+1+1):=by unfold sA at *;omega
  have el:(l.map Cel.pv).length=l0.length:=by simp [hll]
  have kl:k<l.length:=by omega
  have g:=dB Cel.pv kl
  have cD:=hl _ (List.getElem_mem kl)
  have c0:IA none 0 l[k].pv=some (.int .i64 l[k].kind):=rfl
  by_cases hkind:l[k].kind=2
  ·have hkp:=eq_true hkind
   by_cases f:DA L a 2=0
   ·have f':=eq_true f
    obtain⟨n1,n2⟩:=iE L (a+1) l0.length (by omega) (by omega)
    have e4:=iF (k:=.i64) n1
    have jl:(DA L (a+1) l0.length).toNat<l.length:=by omega
    have jl0:(DA L (a+1) l0.length).toNat<l0.length:=by omega
    have gj:=dB Cel.pv jl
    have cj:IA none 0 l[(DA L (a+1) l0.length).toNat].pv=some (.int .i64 l[(DA L (a+1) l0.length).toNat].kind):=rfl
    by_cases hj:l[(DA L (a+1) l0.length).toNat].kind=3
    ·have hj':=eq_true hj
     have g2:(l.map Cel.pv)[k]?=some (.agg [.int .i64 l[k].kind,.str l[k].pin,.int .i64 l[k].ctl,.int .i64 l[k].off]):=g
     have c2:IA none 0 (.agg [.int .i64 l[k].kind,.str l[k].pin,.int .i64 l[k].ctl,.int .i64 l[k].off])=some (.int .i64 l[k].kind):=rfl
     have g3:∀x,((l.map Cel.pv).set k x)[k]?=some x:=fun x=>by rw[List.getElem?_set_self (by omega)]
     have el3:∀x,((l.map Cel.pv).set k x).length=l0.length:=fun x=>by simp [hll]
     have ss:∀x y,((l.map Cel.pv).set k x).set k y=(l.map Cel.pv).set k y:=fun x y=>List.set_set ..
     have sp2:∀(a b c d x:PV),splice [a,b,c,d] 2 [x]=[a,b,x,d]:=fun _ _ _ _ _=>rfl
     have sp3:∀(a b c d x:PV),splice [a,b,c,d] 3 [x]=[a,b,c,x]:=fun _ _ _ _ _=>rfl
     have hset:∀(o o':Obj),(h.set id (vA L (a+1+1+1))++[o]).set h.length o'=h.set id (vA L (a+1+1+1))++[o']:=fun o o'=>by rw[List.set_append_right _ _ (by simp)];simp
     have nc:TB ⟨l[k].kind,l[k].pin,DA L (a+1) l0.length,DA L (a+1+1) 2⟩:=cD
     have mp:(l.map Cel.pv).set k (.agg [.int .i64 l[k].kind,.str l[k].pin,.int .i64 (DA L (a+1) l0.length),.int .i64 (DA L (a+1+1) 2)])=(l.set k ⟨l[k].kind,l[k].pin,DA L (a+1) l0.length,DA L (a+1+1) 2⟩).map Cel.pv:=by rw[List.map_set];rfl
     have mm:∀c∈l.set k ⟨l[k].kind,l[k].pin,DA L (a+1) l0.length,DA L (a+1+1) 2⟩,TB c:=fun c hc=>by
      rcases List.mem_or_eq_of_mem_set hc with q|q
      ·exact hl c q
      ·rw[q];exact nc
     simp only[go_sem,hlt,w2,hid,p0,p1,p2,el,g2,c2,hkp,f',e4,jl0,gj,cj,hj',g3,el3,ss,sp2,sp3,hset];refine⟨(k+1,l.set k ⟨l[k].kind,l[k].pin,DA L (a+1) l0.length,DA L (a+1+1) 2⟩,a+1+1+1),?_,⟨hlt,by simp [hll],mm,by dsimp only;omega,by dsimp only;omega⟩,by dsimp only;omega⟩
     dsimp only;rw[←mp]
    ·simp only[go_sem,hlt,w2,hid,p0,p1,p2,el,g,c0,hkp,f',e4,jl0,gj,cj,hj]
     refine⟨(k+1,l,a+1+1),rfl,⟨hlt,hll,hl,by dsimp only;omega,by dsimp only;omega⟩,by dsimp only;omega⟩
   ·simp only[go_sem,hlt,w2,hid,p0,p1,el,g,c0,hkp,f]
    refine⟨(k+1,l,a+1),rfl,⟨hlt,hll,hl,by dsimp only;omega,by dsimp only;omega⟩,by dsimp only;omega⟩
  ·simp only[go_sem,hlt,w2,hid,p0,el,g,c0,hkind]
   refine⟨(k+1,l,a),rfl,⟨hlt,hll,hl,by dsimp only;omega,by dsimp only;omega⟩,by dsimp only;omega⟩
 ·have e:k=l0.length:=by omega
  subst e;simp only[go_sem,Nat.lt_irrefl];exact fin l a _ hll hl ha1 (by omega)
end Go.Am
end
section
/- What is drawn: the cells of a part,none twice. -/
open Go
set_option linter.all false
set_option maxRecDepth 100000
namespace Go.Am
variable {h:aA} {K:mA} {L:List Int}
attribute [-go_sem] kB BB YB XB
theorem z4C {v:AV}{g:Nat}{caps:List AV}{p:PV→Bool}{xs:List PV}(hv:Shows (some 4) v xs h)(hp:MD g caps p xs h)(hl:xs.length≤1000000000) :
 kA X VC [v,.fn g caps] h K=K (AB (xs.any p)) h []:=by
 refine JA ?_;rw[EX];have vi:=fun K=>jV (h:=h) (K:=K) hv hp hl
 simp only[tN,go_sem,vi,LS]
theorem zkp (c d:Cel)(id:Nat)(hc:h[id]?=some c.bx):kA X gH [.p d.pv,.ref id 0] h K=K (AB (tC c d)) h []:=by
 refine JA ?_;rw[zaF rfl];have hl:=WB hc
 have hc2:∀t,(h++t)[id]?=some c.bx:=fun t=>by rw[List.getElem?_append_left hl];exact hc
 unfold Cel.bx at hc hc2;unfold tC;by_cases h1:d.kind=c.kind
 ·have h1p:=eq_true h1
  simp only[nN,Cel.pv,eI,go_sem,hc,hc2,h1p]
 ·simp only[nN,Cel.pv,eI,go_sem,hc,hc2,h1]
theorem zkw {K:Ex→St→Prop}{l:List Cel}(hn:l.length≤7)(hl:∀ c∈l,TB c)
 (fin:∀(m:List Cel) (z:Nat×AV),m.length=l.length→(∀c∈m,TB c)→K (.exit 5) ⟨[(3,.own h.length l.length 0 l.length),(9,.own (h.length+1) m.length 0 m.length),(96,.own h.length l.length 0 l.length),(97,AI l.length),(98,AI l.length),z],h++[.row (some 4) (l.map Cel.pv) 0,.row (some 4) (m.map Cel.pv) 0],[]⟩) :
 LA (kA X) X.gl (.scope xJ) K [(3,.own h.length l.length 0 l.length),(9,.own (h.length+1) 0 0 0),(96,.own h.length l.length 0 l.length),(97,AI l.length),(98,AI 0)] (h++[.row (some 4) (l.map Cel.pv) 0,.row (some 4) [] 0]) []:=by
 refine UA (fun t:Nat×List Cel=>⟨[(3,.own h.length l.length 0 l.length),(9,.own (h.length+1) t.2.length 0 t.2.length),(96,.own h.length l.length 0 l.length),(97,AI l.length),(98,AI t.1)],h++[.row (some 4) (l.map Cel.pv) 0,.row (some 4) (t.2.map Cel.pv) 0],[]⟩) (fun t=>t.1≤l.length∧t.2.length=t.1∧∀c∈t.2,TB c) (fun t=>l.length-t.1) (0,[]) rfl ⟨by omega,rfl,by simp⟩ ?_
 rintro⟨k,m⟩ ⟨hk,hmm,hm⟩
 dsimp only at hk hmm hm ⊢;have el:(l.map Cel.pv).length=l.length:=List.length_map ..
 have em:(m.map Cel.pv).length=m.length:=List.length_map ..
 rcases Nat.lt_or_ge k l.length with hlt|hge
 ·have w2:IntKind.i64.wrap ((k:Int)+1)=((k+1:Nat):Int):=FA _ (by omega) (by omega)
  have g:=dB Cel.pv hlt
  have c1:IA (some 4) 0 l[k].pv=some l[k].pv:=rfl
  have km:m.length+1≤XA:=by unfold XA;omega
  have cD:=hl _ (List.getElem_mem hlt)
  have hw:win (l.map Cel.pv) 0 k=(l.take k).map Cel.pv:=by simp [win,List.map_take]
  generalize hcc:l[k]=c at *;have tells:MD gH [.ref (h.length+2) 0] (fun y=>tC c (sD y)) ((l.take k).map Cel.pv) (h++[.row (some 4) (l.map Cel.pv) 0,.row (some 4) (m.map Cel.pv) 0,c.bx]):=fun y hy K=>by
   obtain⟨d,_,rfl⟩:=List.mem_map.1 hy;dsimp only;rw[SL];exact zkp c d (h.length+2) (by simp)
  have SH:Shows (some 4) (.own h.length l.length 0 k) ((l.take k).map Cel.pv) (h++[.row (some 4) (l.map Cel.pv) 0,.row (some 4) (m.map Cel.pv) 0,c.bx]):=by
   have:=pP (h:=h++[.row (some 4) (l.map Cel.pv) 0,.row (some 4) (m.map Cel.pv) 0,c.bx]) (id:=h.length) (off:=0) (len:=k) (fz:=0) (jK (l:=l)) (by simp) (by simp;omega)
   rw[el,hw]at this;exact this
  have CF:=fun K=>z4C (K:=K) SH tells (by simp;omega)
  have ea:((l.take k).map Cel.pv).any (fun y=>tC c (sD y))=(l.take k).any (tC c):=by rw[List.any_map];rfl
  simp only[ea]at CF;unfold Cel.bx at CF;simp only[Cel.pv,eI]at g c1;have nx:∀c,TB c→∀x∈m++[c],TB x:=fun c hc x hx=>by
   rcases List.mem_append.1 hx with q|q
   ·exact hm x q
   ·rw[List.mem_singleton]at q;rw[q];exact hc
  by_cases hpin:c.pin=[]
  ·have hp':=eq_true hpin
   have he:decide (c.pin=[])=true:=decide_eq_true hpin
   simp only[go_sem,hlt,g,c1,w2,el,em,he,km];refine⟨(k+1,m++[c]),?_,⟨hlt,by simp [hmm],nx c cD⟩,by dsimp only;omega⟩
   dsimp only;rw[List.length_append,List.map_append];rfl
  ·have he:decide (c.pin=[])=false:=decide_eq_false hpin
   cases ha:(l.take k).any (tC c) with
   | true=>
    rw[ha]at CF;simp only[go_sem,hlt,g,c1,w2,el,em,he,km,hk,↓CF,CF];refine⟨(k+1,m++[⟨4,[],-1,0⟩]),?_,⟨hlt,by simp [hmm],nx _ (.inl rfl)⟩,by dsimp only;omega⟩
    dsimp only;rw[List.length_append,List.map_append];rfl
   | false=>
    rw[ha]at CF;simp only[go_sem,hlt,g,c1,w2,el,em,he,km,hk,↓CF,CF];refine⟨(k+1,m++[c]),?_,⟨hlt,by simp [hmm],nx c cD⟩,by dsimp only;omega⟩
    dsimp only;rw[List.length_append,List.map_append];rfl
 ·have e:k=l.length:=by omega
  subst e;simp only[go_sem,Nat.lt_irrefl];exact fin m _ hmm hm
attribute [-go_sem] iS xK jS oI kS yK
theorem zkt {K:Ex→St→Prop}{l:List Cel}(hn:l.length≤7)(hl:∀ c∈l,TB c)(env:List (Nat × AV))(e3:bA env 3 = .own h.length l.length 0 l.length)
 (fin:∀(m:List Cel),m.length=l.length→(∀c∈m,TB c)→K .ret ⟨[(2,.own (h.length+1) m.length 0 m.length)],h++[.row (some 4) (l.map Cel.pv) 0,.row (some 4) (m.map Cel.pv) 0],[]⟩) :
 NW (kA X) X.gl DO ⟨env,h++[.row (some 4) (l.map Cel.pv) 0],[]⟩ K:=by
 rw[iS];simp only[xK,e3,go_sem];refine zkw (K:=yA 5 _) hn hl fun m z hm hd=>?_
 simp only[go_sem];exact fin m hm hd
def iK:Cel:=⟨4,[],-1,0⟩
set_option maxHeartbeats 1000000 in
theorem zfh {a:Int}(hp:sA 3000 a){id:Nat}(hid:id<h.length):∃(l m:List Cel) (a2:Int),m.length≤7∧l.length≤7∧(∀c∈m,TB c)∧a≤a2∧a2≤a+30∧∀K:mA,kA X fH [.ref id 0] (h.set id (vA L a)) K=K (.own (h.length+1) m.length 0 m.length) (h.set id (vA L a2)++[.row (some 4) (l.map Cel.pv) 0,.row (some 4) (m.map Cel.pv) 0]) []:=by
 have key:kA X fH [.ref id 0] (h.set id (vA L a)) fun v h1 x1=>∃(l m:List Cel) (a2:Int),(m.length≤7∧l.length≤7∧(∀c∈m,TB c)∧a≤a2∧a2≤a+30)∧v = .own (h.length+1) m.length 0 m.length∧h1=h.set id (vA L a2)++[.row (some 4) (l.map Cel.pv) 0,.row (some 4) (m.map Cel.pv) 0]∧x1=[]:=by
  rw[zaE rfl];have p0:sA 0 a:=by unfold sA at *;omega
  have i1:id≤h.length:=by omega
  obtain⟨r1,r2⟩:=lU L a (u:=0) (v:=6) (by omega) (by omega)
  simp only[mN,go_sem,hid,p0];obtain⟨n,hn⟩:=Int.eq_ofNat_of_zero_le r1;rw[hn]at r2 ⊢;refine zku (K:=yA 0 _) hid (by omega) (a0:=a+1) (by unfold sA at *;omega) fun l a1 z hl hd ha=>?_
  simp only[go_sem];rw[kS];simp only[yK,go_sem];refine zkv (K:=yA 3 _) hid (by omega) (by unfold sA at *;omega) hd fun l2 a2 z2 hl2 hd2 h1 h2=>?_
  simp only[go_sem];rw[jS];have p2:sA 0 a2:=by unfold sA at *;omega
  have k10:=fun(K:Ex→St→Prop) (l:List Cel) (hn:l.length≤7) (hl:∀c∈l,TB c) env=>zkt (h:=h.set id (vA L (a2+1))) (K:=K) hn hl env
  simp only[List.length_set]at k10;have el2:(l2.map Cel.pv).length=l2.length:=List.length_map ..
  by_cases f:DA L a2 6=0
  ·have f':=eq_true f
   have km:l2.length+1≤XA:=by unfold XA;omega
   simp only[oI,←hl2,go_sem,hid,p2,f',el2,km];have hm4:List.map Cel.pv l2++[PV.agg [PV.int IntKind.i64 4,PV.str [],PV.int IntKind.i64 (-1),PV.int IntKind.i64 0]]=(l2++[iK]).map Cel.pv:=by rw[List.map_append];rfl
   rw[hm4];have e3x:bA [(3,AV.own h.length (l2.length+1) 0 (l2.length+1))] 3 = .own h.length (l2++[iK]).length 0 (l2++[iK]).length:=by rw[List.length_append];rfl
   refine k10 _ (l2++[iK]) (by simp;omega) (fun c hc=>?_) _ e3x fun m hm hd=>?_
   ·rcases List.mem_append.1 hc with q|q
    ·exact hd2 c q
    ·rw[List.mem_singleton]at q;rw[q];exact .inl rfl
   simp only[go_sem];rw[show max h.length (h.length+1+1)=h.length+2 by omega,List.take_of_length_le (by simp)]
   refine⟨l2++[iK],m,a2+1,⟨?_,?_,hd,by omega,by omega⟩,rfl,rfl⟩
   ·rw[hm];simp;omega
   ·simp;omega
  ·simp only[oI,←hl2,go_sem,hid,p2,f]
   refine k10 _ l2 (by omega) hd2 _ rfl fun m hm hd=>?_
   simp only[go_sem];rw[show max h.length (h.length+1+1)=h.length+2 by omega,List.take_of_length_le (by simp)]
   exact⟨l2,m,a2+1,⟨by omega,by omega,hd,by omega,by omega⟩,rfl,rfl⟩
 obtain⟨v,h',x,⟨l,m,a2,q,e0,e1,e2⟩,r⟩:=kA.one cK key;subst e0 e1 e2;exact⟨l,m,a2,q.1,q.2.1,q.2.2.1,q.2.2.2.1,q.2.2.2.2,r⟩
end Go.Am
end
section
/- What is drawn: pairs looked through,and the nets' names of a board in memory. -/
open Go
set_option linter.all false
set_option maxRecDepth 100000
namespace Go.Am
variable {h:aA} {K:mA} {L:List Int}
attribute [-go_sem] kB BB YB XB
def prV (e:Nm2 × Nm2):PV:=.agg [.str e.1,.str e.2]
theorem zjq {P:List (Nm2 × Nm2)}:jC (some 2) (P.map prV):=fun x hx=>by obtain⟨n,_,rfl⟩:=List.mem_map.1 hx;rfl
theorem zkd {v:AV}(P:List (Nm2 × Nm2))(q:Nm2 × Nm2)(hv:∀ t,Shows (some 2) v (P.map prV) (h++t))(hl:P.length≤1000000):kA X PI [v,.p (prV q)] h K=K (AI (if P.findIdx (fun x=>decide (x=q))<P.length then(P.findIdx (fun x=>decide (x=q)):Int) else -1)) h []:=by
 refine JA ?_;rw[zbb];obtain⟨q1,q2⟩:=q;have SH:=hv [.box [AS q1,AS q2]]
 have vl:=SH.len
 have el:(P.map prV).length=P.length:=List.length_map ..
 rw[el]at vl;simp only[xN,go_sem,prV,vl];refine UA (fun k:Nat=>⟨[(0,v),(3,.ref h.length 0),(7,AI P.length),(8,AI k)],h++[.box [AS q1,AS q2]],[]⟩) (fun k=>k≤P.length∧∀i (hi:i<P.length),i<k→P[i]≠(q1,q2)) (fun k=>P.length-k) 0 rfl ⟨by omega,fun i _ hi=>by omega⟩ ?_
 rintro k ⟨hk,hp⟩
 rcases Nat.lt_or_ge k P.length with hlt|hge
 ·obtain⟨a,ha,hb⟩:=SH.get k (by omega)
  rw[List.getElem_map]at hb;simp only[prV]at hb;have w2:IntKind.i64.wrap ((k:Int)+1)=((k+1:Nat):Int):=FA _ (by omega) (by omega)
  by_cases he:P[k]=(q1,q2)
  ·have e1:P.findIdx (fun x=>decide (x=(q1,q2)))=k:=by
    rw[List.findIdx_eq hlt];exact⟨by simpa using he,fun j hj=>by simpa using hp j (by omega) hj⟩
   have a1:(P[k]).1=q1:=by rw[he]
   have a2:(P[k]).2=q2:=by rw[he]
   simp only[go_sem,hlt,ha,hb,w2,a1,a2,e1]
  ·have hc:¬(q1=(P[k]).1∧q2=(P[k]).2):=fun⟨c1,c2⟩=>he (by rw[c1,c2])
   simp only[go_sem,hlt,ha,hb,w2];rw[if_neg (by simpa using hc)]
   exact⟨k+1,rfl,⟨by omega,fun i hi hik=>by
    rcases Nat.lt_or_ge i k with hh|hh
    ·exact hp i hi hh
    ·have:i=k:=by omega
     subst this;exact he⟩,by omega⟩
 ·have e1:k=P.length:=by omega
  subst e1;have e2:¬P.findIdx (fun x=>decide (x=(q1,q2)))<P.length:=by
   intro hh;have:=List.findIdx_getElem (p:=fun x=>decide (x=(q1,q2))) (xs:=P) (w:=hh)
   exact hp _ hh hh (by simpa using this)
  simp only[go_sem,Nat.lt_irrefl,e2]
theorem zkc {v:AV}(P:List (Nm2 × Nm2))(q:Nm2 × Nm2)(hv:∀ t,Shows (some 2) v (P.map prV) (h++t))(hl:P.length≤1000000):kA X LI [v,.p (prV q)] h K=K (AB (decide (q∈P))) h []:=by
 refine JA ?_;rw[zaW];have S:=fun o K=>zkd (h:=h++[o]) (K:=K) P q (fun t=>by rw[List.append_assoc];exact hv _) hl
 obtain⟨q1,q2⟩:=q;simp only[prV]at S;simp only[IR,go_sem,prV,↓S,S];by_cases hm:(q1,q2)∈P
 ·have:P.findIdx (fun x=>decide (x=(q1,q2)))<P.length:=List.findIdx_lt_length_of_exists ⟨_,hm,by simp⟩
  simp [this,hm]
 ·have:¬P.findIdx (fun x=>decide (x=(q1,q2)))<P.length:=by
   intro hh;have h2:=List.findIdx_getElem (p:=fun x=>decide (x=(q1,q2))) (xs:=P) (w:=hh)
   apply hm
   have h3:P[P.findIdx (fun x=>decide (x=(q1,q2)))]=(q1,q2):=by simpa using h2
   rw[←h3];exact List.getElem_mem hh
  simp [this,hm]
def cJ (l:List Jon):List Nm2:=NB eqN (l.map Jon.net)
theorem zkg (l:List Jon){jid pid g t qid m:Nat}(hj:h[jid]?=some (.row (some 3) (l.map Jon.pv) 0))(hl:l.length≤12)(hsrt:CB ltS (l.map Jon.net)=l.map Jon.net):∃xs:List PV,xs.length=l.length∧win xs 0 (cJ l).length=(cJ l).map PV.str∧(cJ l).length≤l.length∧jC none xs ∧
 ∀K:mA,kA X DF [.agg [.bt 3 t pid g,.own jid l.length 0 l.length,.own qid m 0 m]] h K=K (.own (h.length+1) l.length 0 (cJ l).length) (h++[.box [.bt 3 t pid g,.own jid l.length 0 l.length,.own qid m 0 m],.row none xs 0]) []:=by
 have nl:(l.map Jon.net).length=l.length:=List.length_map ..
 generalize hB:(Obj.box [.bt 3 t pid g,.own jid l.length 0 l.length,.own qid m 0 m])=B;obtain⟨xs,x1,x2,x3,x4,C⟩:=xU (h:=h++[B,.row none ((l.map Jon.net).map PV.str) 0]) (l.map Jon.net) (h.length+1) (by simp;omega) (by simp)
 rw[nl]at C x1 x3;have es:∀o,(h++[B,.row none ((l.map Jon.net).map PV.str) 0]).set (h.length+1) o=h++[B,o]:=fun o=>by rw[List.set_append_right _ _ (by omega)];simp
 rw[es]at C;have S:=fun K=>z3G (h:=h++[B,.row none ((l.map Jon.net).map PV.str) 0]) (K:=K) (h.length+1) (l.map Jon.net) (by simpa using hl) (by simp)
 rw[hsrt,es,nl]at S;refine⟨xs,x1,x2,x3,x4,fun K=>JA ?_⟩
 rw[DX];have ln:(l.map Jon.pv).length=l.length:=List.length_map ..
 simp only[AK,go_sem,ln];subst hB;have jl:=WB hj
 have hj2:∀t,(h++t)[jid]?=some (.row (some 3) (l.map Jon.pv) 0):=fun t=>by rw[List.getElem?_append_left jl];exact hj
 refine UA (fun k:Nat=>⟨[(3,.own (h.length+1) k 0 k),(7,.own jid l.length 0 l.length),(8,AI l.length),(9,AI k)],h++[.box [.bt 3 t pid g,.own jid l.length 0 l.length,.own qid m 0 m],.row none (((l.map Jon.net).take k).map PV.str) 0],[]⟩) (fun k=>k≤l.length) (fun k=>l.length-k) 0 (by simp) (by omega) ?_
 intro k hk;rcases Nat.lt_or_ge k l.length with hlt|hge
 ·have g:=dB Jon.pv hlt
  have c1:IA (some 3) 0 l[k].pv=some l[k].pv:=rfl
  have w2:IntKind.i64.wrap ((k:Int)+1)=((k+1:Nat):Int):=FA _ (by omega) (by omega)
  have hn:k<(l.map Jon.net).length:=by simpa using hlt
  have tk:(l.map Jon.net).take (k+1)=(l.map Jon.net).take k++[l[k].net]:=by rw[List.take_succ_eq_append_getElem hn];simp
  have tl:(((l.map Jon.net).take k).map PV.str).length=k:=by simp;omega
  have hm:k+1≤XA:=by unfold XA;omega
  have j1:jid≤h.length+1:=by omega
  generalize l[k]=x at *;simp only[Jon.pv]at g c1;simp only[go_sem,hlt,hj2,ln,g,c1,w2,tl,hm,j1];refine⟨k+1,?_,by omega,by omega⟩
  rw[tk];simp
 ·have e:k=l.length:=by omega
  subst e;have t0:(l.map Jon.net).take l.length=l.map Jon.net:=List.take_of_length_le (by simp)
  unfold cJ;rw[t0];generalize (l.map Jon.net).map PV.str=us at *;simp only[go_sem,Nat.lt_irrefl,↓S,S,↓C,C];exact List.take_of_length_le (by simp;omega)
end Go.Am
end
section
/- What is drawn: the parts of a board. -/
open Go
set_option linter.all false
set_option maxRecDepth 100000
namespace Go.Am
variable {h:aA} {K:mA} {L:List Int}
attribute [-go_sem] kB BB YB XB
def sB:List (Nat × Prt)→List AV
 | []=>[]
 | e::r=>AS e.2.key :: .own e.1 e.2.cells.length 0 e.2.cells.length::sB r
theorem KX:∀ (M N:List (Nat × Prt)),sB (M++N)=sB M++sB N
 | [],_=>rfl
 | e::r,N=>by show _::_::sB (r++N)=_;rw[KX r N];rfl
theorem aI:∀ M:List (Nat×Prt),(sB M).length=M.length*2
 | []=>rfl
 | e::r=>by show(sB r).length+1+1=_;rw[aI r,List.length_cons];omega
def BH (B:Nat)(cs:List AV)(g:Nat)(jr pr:Obj)(J P:AV)(R:aA):aA:=
 .arow (some 2) [] :: .row (some 3) [] 0 :: .row (some 2) [] 0 :: .box [.bt 3 3 B 0,.own (B+1) 0 0 0,.own (B+2) 0 0 0] :: .arow (some 2) cs::jr::pr :: .box [.bt 3 3 (B+4) g,J,P]::R
section
variable {B g:Nat} {cs:List AV} {jr pr:Obj} {J P:AV} {R:aA}
theorem UH {t:aA}:BH B cs g jr pr J P R++t=BH B cs g jr pr J P (R++t):=rfl
theorem rE:(BH B cs g jr pr J P R).length=R.length+8:=rfl
theorem bh_4:(BH B cs g jr pr J P R)[4]?=some (.arow (some 2) cs):=rfl
theorem bh_5:(BH B cs g jr pr J P R)[5]?=some jr:=rfl
theorem bh_6:(BH B cs g jr pr J P R)[6]?=some pr:=rfl
theorem dD:(BH B cs g jr pr J P R)[7]?=some (.box [.bt 3 3 (B+4) g,J,P]):=rfl
theorem bh_R {n:Nat}:(BH B cs g jr pr J P R)[n+8]?=R[n]?:=rfl
theorem pX {cs2:List AV}:(BH B cs g jr pr J P R).set 4 (.arow (some 2) cs2)=BH B cs2 g jr pr J P R:=rfl
theorem JQ {o:Obj}:(BH B cs g jr pr J P R).set 5 o=BH B cs g o pr J P R:=rfl
theorem qX {o:Obj}:(BH B cs g jr pr J P R).set 6 o=BH B cs g jr o J P R:=rfl
theorem KQ {g2:Nat}{J2 P2:AV}:(BH B cs g jr pr J P R).set 7 (.box [.bt 3 3 (B+4) g2,J2,P2])=BH B cs g2 jr pr J2 P2 R:=rfl
theorem yC {n:Nat}:(BH B cs g jr pr J P R).take (n+8)=BH B cs g jr pr J P (R.take n):=rfl
end
structure MI (lo:Nat) (R:aA) (M:List (Nat × Prt)):Prop where
 rw:∀e∈M,∃n,e.1=lo+n∧R[n]?=some (.row (some 4) (e.2.cells.map Cel.pv) 0)
 nd:(M.map fun e=>e.1).Nodup
theorem MI.app {lo:Nat}{R T:aA}{M:List (Nat × Prt)}(C:MI lo R M):MI lo (R++T) M:=by
 refine⟨fun e he=>?_,C.nd⟩
 obtain⟨n,h1,h2⟩:=C.rw e he;exact⟨n,h1,by rw[List.getElem?_append_left (WB h2)];exact h2⟩
theorem MI.new {lo:Nat}{R:aA}{M:List (Nat × Prt)}{o:Obj}{p:Prt}(C:MI lo R M):MI lo (R++[o,.row (some 4) (p.cells.map Cel.pv) 0]) (M++[(lo+(R.length+1),p)]):=by
 refine⟨fun e he=>?_,?_⟩
 ·rcases List.mem_append.1 he with q|q
  ·exact(C.app (T:=_)).rw e q
  ·rw[List.mem_singleton]at q
   subst q;exact⟨R.length+1,rfl,by rw[List.getElem?_append_right (by omega)];simp⟩
 ·rw[List.map_append,List.nodup_append]
  refine⟨C.nd,by simp,fun a ha b hb=>?_⟩
  obtain⟨e,he,rfl⟩:=List.mem_map.1 ha;obtain⟨n,h1,h2⟩:=C.rw e he;have:=WB h2;simp at hb;omega
def fF:List Nm2:=[[117],[118],[119]]
structure PartsD (M:List (Nat × Prt)) (k:Nat):Prop where
 k:(M.map fun e=>e.2.key).Sublist (fF.take k)
 c:∀e∈M,e.2.cells.length≤7∧∀c∈e.2.cells,TB c
theorem PartsD.len {M:List (Nat × Prt)}{k:Nat}(D:PartsD M k):M.length≤k:=by
 have:=D.k.length_le;rw[List.length_map,List.length_take]at this;omega
abbrev aT:AV:=.p (.sl none [.str [117],.str [118],.str [119]])
set_option maxHeartbeats 1000000 in
theorem zjQ {K:Ex→St→Prop}{id:Nat}(hid:id<h.length){a0:Int}(hp:sA 10000 a0){J P:AV}{jr pr:Obj}
 (fin:∀(M:List (Nat×Prt)) (R:aA) (X:Esc) (a:Int) (z:Nat×AV),MI (h.length+8) R M→PartsD M 3→(∀y∈X,y.1=h.length+4)→a0≤a→a≤a0+120→K (.exit 0) ⟨[(0,.ref id 0),(2,.ref (h.length+3) 0),(3,.ref (h.length+7) 0),(16,aT),(17,AI 3),(18,AI 3),z],h.set id (vA L a)++BH h.length (sB M) M.length jr pr J P R,X⟩) :
 LA (kA X) X.gl (.scope CH) K [(0,.ref id 0),(2,.ref (h.length+3) 0),(3,.ref (h.length+7) 0),(16,aT),(17,AI 3),(18,AI 0)] (h.set id (vA L a0)++BH h.length [] 0 jr pr J P []) []:=by
 refine UA (fun t:Nat×List (Nat×Prt)×aA×Esc×Int=>⟨[(0,.ref id 0),(2,.ref (h.length+3) 0),(3,.ref (h.length+7) 0),(16,aT),(17,AI 3),(18,AI t.1)],h.set id (vA L t.2.2.2.2)++BH h.length (sB t.2.1) t.2.1.length jr pr J P t.2.2.1,t.2.2.2.1⟩)
  (fun t=>t.1≤3∧MI (h.length+8) t.2.2.1 t.2.1∧PartsD t.2.1 t.1∧(∀y∈t.2.2.2.1,y.1=h.length+4)∧a0≤t.2.2.2.2∧t.2.2.2.2≤a0+40*t.1) (fun t=>3-t.1) (0,[],[],[],a0) rfl ⟨by omega,⟨fun e he=>(by cases he),List.nodup_nil⟩,⟨List.nil_sublist _,fun e he=>(by cases he)⟩,fun y hy=>(by cases hy),by dsimp only;omega,by dsimp only;omega⟩ ?_
 rintro⟨k,M,R,E,a⟩ ⟨hk,hM,hD,hE,ha1,ha2⟩
 dsimp only at hk hM hD hE ha1 ha2 ⊢;have i1:id≤h.length:=by omega
 have bl:=fun(cs:List AV) (g:Nat)=>rE (B:=h.length) (cs:=cs) (g:=g) (jr:=jr) (pr:=pr) (J:=J) (P:=P) (R:=R)
 rcases Nat.lt_or_ge k 3 with hlt|hge
 ·have w2:IntKind.i64.wrap ((k:Int)+1)=((k+1:Nat):Int):=FA _ (by omega) (by omega)
  have p0:sA 0 a:=by unfold sA at *;omega
  have gk:[PV.str [117],PV.str [118],PV.str [119]][k]?=some (PV.str (fF.getD k [])):=by
   have:k=0∨k=1∨k=2:=by omega
   rcases this with e|e|e <;> subst e <;> rfl
  have tk:fF.take (k+1)=fF.take k++[fF.getD k []]:=by
   have:k=0∨k=1∨k=2:=by omega
   rcases this with e|e|e <;> subst e <;> rfl
  generalize fF.getD k []=ky at gk tk;obtain⟨l,m,a2,m7,l7,mD,g1,g2,GC⟩:=zfh (L:=L) (a:=a+1) (h:=h++BH h.length (sB M) M.length jr pr J P R) (id:=id) (by unfold sA at *;omega) (by simp;omega)
  rw[oP hid,oP hid]at GC;rw[List.length_append,bl]at GC;have k3:((k:Int)<3)=True:=eq_true (by omega)
  have c0:(id+1≤h.length+(R.length+8))=True:=eq_true (by omega)
  have c2:(h.length+3+1≤h.length+(R.length+8))=True:=eq_true (by omega)
  have c3:(h.length+7+1≤h.length+(R.length+8))=True:=eq_true (by omega)
  have tR:R.take R.length=R:=List.take_length
  by_cases f:DA L a 6=0
  ·have f':=eq_true f
   simp only[go_sem,hlt,k3,w2,gk,hid,p0,f',bl,c0,c2,c3,yC,tR];refine⟨(k+1,M,R,E,a+1),rfl,⟨hlt,hM,⟨?_,hD.c⟩,hE,by dsimp only;omega,by dsimp only;omega⟩,by dsimp only;omega⟩
   dsimp only;rw[tk];exact hD.k.trans (List.sublist_append_left ..)
  ·have gA:∀(cs:List AV) (g:Nat) (o1 o2 o3:Obj),(BH h.length cs g jr pr J P (R++[o1,o2,o3]))[R.length+8+2]?=some o3:=fun cs g o1 o2 o3=>by
    rw[show R.length+8+2=(R.length+2)+8 by omega,bh_R,IQ];rfl
   have bl2:∀(cs:List AV) (g:Nat) (o1 o2:Obj),(BH h.length cs g jr pr J P (R++[o1,o2])).length=R.length+8+2:=fun cs g o1 o2=>by rw[rE];simp
   have lM:=aI M
   have gM:M.length+1≤XA:=by have:=hD.len;unfold XA;omega
   simp only[go_sem,hlt,k3,w2,gk,hid,p0,f,↓GC,GC,bl,dD,bh_4,UH,bl2,gA,pX,KQ,lM,gM];have eS:RB (h.length+7) (AV.bt 3 3 (h.length+4) (M.length+1))=[]:=if_neg (by simp [AV.top])
   have eD:decide (h.length+4<h.length+(R.length+8)+1+1)=true:=decide_eq_true (by omega)
   rw[eS,eD,List.nil_append,cond_true,zl8 (by omega),show max (h.length+(R.length+8)) (h.length+(R.length+8)+1+1)=h.length+((R.length+2)+8) by omega,z3M,yC]
   rw[show(R++[Obj.row (some 4) (List.map Cel.pv l) 0,Obj.row (some 4) (List.map Cel.pv m) 0,Obj.arow (some 2) [AV.p (PV.str ky),AV.own (h.length+(R.length+8)+1) m.length 0 m.length]]).take (R.length+2)=R++[Obj.row (some 4) (List.map Cel.pv l) 0,Obj.row (some 4) (List.map Cel.pv m) 0] from by rw[List.take_length_add_append];rfl]
   have cM:sB M++[AV.p (PV.str ky),AV.own (h.length+(R.length+8)+1) m.length 0 m.length]=sB (M++[(h.length+8+(R.length+1),⟨ky,m⟩)]):=by
    rw[KX,show h.length+8+(R.length+1)=h.length+(R.length+8)+1 by omega];rfl
   rw[cM];have c0':id+1≤h.length+(R.length+2+8):=by omega
   have c2':h.length+3+1≤h.length+(R.length+2+8):=by omega
   have c3':h.length+7+1≤h.length+(R.length+2+8):=by omega
   simp only[ZX,aY,z3Y,z3X,c0',c2',c3',if_true,Nat.zero_le];refine⟨(k+1,M++[(h.length+8+(R.length+1),⟨ky,m⟩)],R++[Obj.row (some 4) (List.map Cel.pv l) 0,Obj.row (some 4) (List.map Cel.pv m) 0],(h.length+4,h.length+(R.length+8)+1+1)::E,a2),?_,⟨hlt,hM.new (p:=⟨ky,m⟩),⟨?_,fun e he=>?_⟩,fun y hy=>?_,by dsimp only;omega,by dsimp only;omega⟩,by dsimp only;omega⟩
   ·dsimp only
    rw[List.length_append];rfl
   ·dsimp only
    rw[tk,List.map_append];exact hD.k.append (List.Sublist.refl _)
   ·rcases List.mem_append.1 he with q|q
    ·exact hD.c e q
    ·rw[List.mem_singleton]at q;subst q;exact⟨m7,mD⟩
   ·rcases List.mem_cons.1 hy with q|q
    ·subst q;rfl
    ·exact hE y q
 ·have e:k=3:=by omega
  subst e;have c0:(id+1≤h.length+(R.length+8))=True:=eq_true (by omega)
  have c2:(h.length+3+1≤h.length+(R.length+8))=True:=eq_true (by omega)
  have c3:(h.length+7+1≤h.length+(R.length+8))=True:=eq_true (by omega)
  have tR:R.take R.length=R:=List.take_length
  simp only[go_sem,Nat.lt_irrefl,i1,bl,c0,c2,c3,yC,tR];exact fin M R E a _ hM hD hE ha1 (by omega)
end Go.Am
end
section
/- What is drawn: the pins of a board's parts. -/
open Go
set_option linter.all false
set_option maxRecDepth 100000
namespace Go.Am
variable {K:mA} {L:List Int}
attribute [-go_sem] kB BB YB XB
def PB (key:Nm2)(P:List (Nm2 × Nm2))(c:Cel):List (Nm2×Nm2):=if c.pin=[] then P else if(key,c.pin)∈P then P else P++[(key,c.pin)]
theorem z9v (key:Nm2)(P:List (Nm2 × Nm2))(c:Cel):(PB key P c).length≤P.length+1:=by
 unfold PB;split
 ·omega
 ·split
  ·omega
  ·simp
theorem HQ (key:Nm2):∀(l:List Cel) (P:List (Nm2×Nm2)),(l.foldl (PB key) P).length≤P.length+l.length
 | [],P=>by simp
 | c::r,P=>by
  have:=HQ key r (PB key P c);have:=z9v key P c;rw[List.foldl_cons,List.length_cons];omega
set_option maxHeartbeats 1000000 in
theorem zjR {K:Ex→St→Prop}{G:aA}{v0 v2 v3 v36:AV}(t0:v0.top≤G.length)(t2:v2.top≤G.length)(t3:v3.top≤G.length)(t36:v36.top≤G.length){i g rid:Nat}{key:Nm2}{l:List Cel}{P:List (Nm2 × Nm2)}(hl:l.length≤1000)(hP:P.length≤10000)
 (hr:G[rid]?=some (.row (some 4) (l.map Cel.pv) 0))
 (fin:∀z,K (.exit 4) ⟨[(0,v0),(2,v2),(3,v3),(6,.own G.length (l.foldl (PB key) P).length 0 (l.foldl (PB key) P).length),(8,.ref (G.length+1) 0),(36,v36),(37,AI g),(38,AI i),(43,.own rid l.length 0 l.length),(44,AI l.length),(45,AI l.length),z],G++[.row (some 2) ((l.foldl (PB key) P).map prV) 0,.box [AS key,.own rid l.length 0 l.length]],[]⟩) :
 LA (kA X) X.gl (.scope sJ) K [(0,v0),(2,v2),(3,v3),(6,.own G.length P.length 0 P.length),(8,.ref (G.length+1) 0),(36,v36),(37,AI g),(38,AI i),(43,.own rid l.length 0 l.length),(44,AI l.length),(45,AI 0)] (G++[.row (some 2) (P.map prV) 0,.box [AS key,.own rid l.length 0 l.length]]) []:=by
 refine UA (fun k:Nat=>⟨[(0,v0),(2,v2),(3,v3),(6,.own G.length ((l.take k).foldl (PB key) P).length 0 ((l.take k).foldl (PB key) P).length),(8,.ref (G.length+1) 0),(36,v36),(37,AI g),(38,AI i),(43,.own rid l.length 0 l.length),(44,AI l.length),(45,AI k)],G++[.row (some 2) (((l.take k).foldl (PB key) P).map prV) 0,.box [AS key,.own rid l.length 0 l.length]],[]⟩) (fun k=>k≤l.length) (fun k=>l.length-k) 0 rfl (by omega) ?_
 intro k hk;have rl:=WB hr
 have hr2:∀t,(G++t)[rid]?=some (.row (some 4) (l.map Cel.pv) 0):=fun t=>by rw[List.getElem?_append_left rl];exact hr
 have el:(l.map Cel.pv).length=l.length:=List.length_map ..
 have e0:(v0.top≤G.length+2)=True:=eq_true (by omega)
 have e2:(v2.top≤G.length+2)=True:=eq_true (by omega)
 have e3:(v3.top≤G.length+2)=True:=eq_true (by omega)
 have e36:(v36.top≤G.length+2)=True:=eq_true (by omega)
 have er:(rid+1≤G.length+2)=True:=eq_true (by omega)
 have er2:(rid≤G.length+1)=True:=eq_true (by omega)
 rcases Nat.lt_or_ge k l.length with hlt|hge
 ·have gg:=dB Cel.pv hlt
  have c1:IA (some 4) 0 l[k].pv=some l[k].pv:=rfl
  have w2:IntKind.i64.wrap ((k:Int)+1)=((k+1:Nat):Int):=FA _ (by omega) (by omega)
  have tk:(l.take (k+1)).foldl (PB key) P=PB key ((l.take k).foldl (PB key) P) l[k]:=by rw[List.take_succ_eq_append_getElem hlt,List.foldl_append];rfl
  have lQ:=HQ key (l.take k) P
  rw[List.length_take]at lQ;generalize l[k]=c at *;generalize (l.take k).foldl (PB key) P=Q at *;have eQ:(Q.map prV).length=Q.length:=List.length_map ..
  have km:Q.length+1≤XA:=by unfold XA;omega
  have CP:=fun(bs:aA) K=>zkc (h:=G++([.row (some 2) (Q.map prV) 0,.box [AS key,.own rid l.length 0 l.length]]++bs)) (K:=K) (v:=.own G.length Q.length 0 Q.length) Q (key,c.pin) (fun t=>by
   have:=zkO (sh:=some 2) (id:=G.length) (fz:=0) (xs:=Q.map prV) (h:=(G++([.row (some 2) (Q.map prV) 0,.box [AS key,.own rid l.length 0 l.length]]++bs))++t) zjq (by rw[List.append_assoc,List.getElem?_append_right (by omega)];simp)
   rw[eQ]at this;exact this) (by omega)
  simp only[prV,List.cons_append,List.nil_append]at CP;simp only[Cel.pv,eI]at gg c1;by_cases hp:c.pin=[]
  ·have he:decide (c.pin=[])=true:=decide_eq_true hp
   have ea:PB key Q c=Q:=by unfold PB;rw[if_pos hp]
   simp only[go_sem,hlt,gg,c1,w2,el,he,hr2,e0,e2,e3,e36,er,er2];refine⟨k+1,?_,hlt,by omega⟩
   rw[tk,ea]
  ·have he:decide (c.pin=[])=false:=decide_eq_false hp
   by_cases hm:(key,c.pin)∈Q
   ·have hd:decide ((key,c.pin)∈Q)=true:=decide_eq_true hm
    have ea:PB key Q c=Q:=by unfold PB;rw[if_neg hp,if_pos hm]
    simp only[hd]at CP;simp only[go_sem,hlt,gg,c1,w2,el,he,hr2,↓CP,CP,e0,e2,e3,e36,er,er2];refine⟨k+1,?_,hlt,by omega⟩
    rw[tk,ea]
   ·have hd:decide ((key,c.pin)∈Q)=false:=decide_eq_false hm
    have ea:PB key Q c=Q++[(key,c.pin)]:=by unfold PB;rw[if_neg hp,if_neg hm]
    simp only[hd]at CP;simp only[go_sem,hlt,gg,c1,w2,el,he,hr2,↓CP,CP,e0,e2,e3,e36,er,er2,eQ,km];refine⟨k+1,?_,hlt,by omega⟩
    rw[tk,ea,List.length_append,List.map_append];rfl
 ·have e:k=l.length:=by omega
  subst e;rw[List.take_length];simp only[go_sem,Nat.lt_irrefl,e0,e2,e3,e36,er,er2];exact fin _
def FD (M:List (Nat × Prt)):List (Nm2×Nm2):=M.foldl (fun Q e=>e.2.cells.foldl (PB e.2.key) Q) []
theorem z2Z {M:List (Nat × Prt)}{i:Nat}(hi:i<M.length):FD (M.take (i+1))=M[i].2.cells.foldl (PB M[i].2.key) (FD (M.take i)):=by
 unfold FD;rw[List.take_succ_eq_append_getElem hi,List.foldl_append];rfl
theorem z2Y {M:List (Nat × Prt)}(hc:∀ e∈M,e.2.cells.length≤7):∀i,i≤M.length→(FD (M.take i)).length≤7*i
 | 0,_=>by simp [FD]
 | i+1,hi=>by
  have ih:=z2Y hc i (by omega)
  have h1:=hc _ (List.getElem_mem (show i<M.length by omega))
  have h2:=HQ M[i].2.key M[i].2.cells (FD (M.take i))
  rw[z2Z (by omega)];omega
theorem LX:∀ (M:List (Nat × Prt))(i:Nat),(sB M).drop (i*2)=sB (M.drop i)
 | M,0=>by simp
 | [],i+1=>by simp [sB]
 | e::r,i+1=>by
  rw[show(i+1)*2=(i*2)+1+1 by omega]
  show List.drop (i*2) (sB r)=_
  rw[LX r i,List.drop_succ_cons]
theorem zbs {M:List (Nat × Prt)}{i:Nat}(hi:i<M.length):((sB M).drop (i*2)).take 2=[AS M[i].2.key,.own M[i].1 M[i].2.cells.length 0 M[i].2.cells.length]:=by
 rw[LX,List.drop_eq_getElem_cons hi];rfl
attribute [-go_sem] z0a fN
set_option maxHeartbeats 1000000 in
theorem zjS {K:Ex→St→Prop}{G:aA}{v0 v2 v3:AV}(t0:v0.top≤G.length)(t2:v2.top≤G.length)(t3:v3.top≤G.length){E:Esc}{B:Nat}{M:List (Nat × Prt)}(hM:M.length≤3)(hc:∀ e∈M,e.2.cells.length≤7)
 (hb:G[B]?=some (.arow (some 2) (sB M))) (hr:∀e∈M,G[e.1]?=some (.row (some 4) (e.2.cells.map Cel.pv) 0))
 (fin:∀z,K (.exit 2) ⟨[(0,v0),(2,v2),(3,v3),(6,.own G.length (FD M).length 0 (FD M).length),(36,.bt 3 3 B M.length),(37,AI M.length),(38,AI M.length),z],G++[.row (some 2) ((FD M).map prV) 0],E⟩) :
 LA (kA X) X.gl (.scope tJ) K [(0,v0),(2,v2),(3,v3),(6,.own G.length 0 0 0),(36,.bt 3 3 B M.length),(37,AI M.length),(38,AI 0)] (G++[.row (some 2) [] 0]) E:=by
 refine UA (fun k:Nat=>⟨[(0,v0),(2,v2),(3,v3),(6,.own G.length (FD (M.take k)).length 0 (FD (M.take k)).length),(36,.bt 3 3 B M.length),(37,AI M.length),(38,AI k)],G++[.row (some 2) ((FD (M.take k)).map prV) 0],E⟩) (fun k=>k≤M.length) (fun k=>M.length-k) 0 rfl (by omega) ?_
 intro k hk;have bl:=WB hb
 have hb2:∀t,(G++t)[B]?=some (.arow (some 2) (sB M)):=fun t=>by rw[List.getElem?_append_left bl];exact hb
 have cl:=aI M
 have e0:(v0.top≤G.length+1)=True:=eq_true (by omega)
 have e2:(v2.top≤G.length+1)=True:=eq_true (by omega)
 have e3:(v3.top≤G.length+1)=True:=eq_true (by omega)
 have eB:(B≤G.length)=True:=eq_true (by omega)
 have eB2:(B+1≤G.length+1)=True:=eq_true (by omega)
 have tB:AV.top (.bt 3 3 B M.length)=B+1:=rfl
 rcases Nat.lt_or_ge k M.length with hlt|hge
 ·have gg:=zbs hlt
  have g2:(k*2+2≤M.length*2)=True:=eq_true (by omega)
  have w2:IntKind.i64.wrap ((k:Int)+1)=((k+1:Nat):Int):=FA _ (by omega) (by omega)
  have tk:=z2Z hlt
  have lQ:=z2Y hc k (by omega)
  have l7:=hc _ (List.getElem_mem hlt)
  have re:=hr _ (List.getElem_mem hlt)
  generalize M[k]=e at *;generalize FD (M.take k)=Q at *;obtain⟨rid,key,l⟩:=e;dsimp only at *;have rl:=WB re
  have er:(rid≤G.length)=True:=eq_true (by omega)
  have eE:RB (G.length+1) (AV.agg [AS key,.own rid l.length 0 l.length])=[]:=if_neg (by simp [AV.top,AV.tops];omega)
  simp only[go_sem,hlt,gg,g2,w2,hb2,cl,e0,e2,e3,eB,eB2,tB,er,eE];refine zjR (K:=yA 4 _) (P:=Q) t0 t2 t3 (by rw[tB];omega) (by omega) (by omega) re fun z=>?_
  simp only[go_sem,w2,e0,e2,e3,eB,eB2,tB,er];refine⟨k+1,?_,hlt,by omega⟩
  rw[tk]
 ·have e:k=M.length:=by omega
  subst e;rw[List.take_length];simp only[go_sem,Nat.lt_irrefl,e0,e2,e3,eB,eB2,tB];exact fin _
end Go.Am
end
section
/- What is drawn: the joins of a board. -/
open Go
set_option linter.all false
set_option maxRecDepth 100000
namespace Go.Am
variable {h:aA} {K:mA} {L:List Int}
attribute [-go_sem] kB BB YB XB
def dJ:List Nm2:=[[110,49],[110,49],[110,50],[110,51]]
def XL (l:List Jon):Prop:=∀j∈l,j.net∈dJ
set_option maxHeartbeats 1000000 in
theorem zjT {K:Ex→St→Prop}{E:Esc}{id:Nat}(hid:id<h.length){a0:Int}(hp:sA 1000 a0){v2 P:AV}{pr:Obj}{cs:List AV}{g n:Nat}{R:aA}{Q:List (Nm2 × Nm2)}(t2:v2.top≤h.length+8)(hQ:Q.length≤100)(hR:R[n]?=some (.row (some 2) (Q.map prV) 0))
 (fin:∀(l:List Jon) (a:Int) (z:Nat×AV),l.length≤Q.length→XL l→a0≤a→a≤a0+2*Q.length→K (.exit 6) ⟨[(0,.ref id 0),(2,v2),(3,.ref (h.length+7) 0),(69,.own (h.length+(n+8)) Q.length 0 Q.length),(70,AI Q.length),(71,AI Q.length),z],h.set id (vA L a)++BH h.length cs g (.row (some 3) (l.map Jon.pv) 0) pr (.own (h.length+5) l.length 0 l.length) P R,E⟩) :
 LA (kA X) X.gl (.scope uJ) K [(0,.ref id 0),(2,v2),(3,.ref (h.length+7) 0),(69,.own (h.length+(n+8)) Q.length 0 Q.length),(70,AI Q.length),(71,AI 0)] (h.set id (vA L a0)++BH h.length cs g (.row (some 3) [] 0) pr (.own (h.length+5) 0 0 0) P R) E:=by
 refine UA (fun t:Nat×List Jon×Int=>⟨[(0,.ref id 0),(2,v2),(3,.ref (h.length+7) 0),(69,.own (h.length+(n+8)) Q.length 0 Q.length),(70,AI Q.length),(71,AI t.1)],h.set id (vA L t.2.2)++BH h.length cs g (.row (some 3) (t.2.1.map Jon.pv) 0) pr (.own (h.length+5) t.2.1.length 0 t.2.1.length) P R,E⟩)
  (fun t=>t.1≤Q.length∧t.2.1.length≤t.1∧XL t.2.1∧a0≤t.2.2∧t.2.2≤a0+2*t.1) (fun t=>Q.length-t.1) (0,[],a0) rfl ⟨by omega,Nat.le_refl _,fun e he=>(by cases he),by dsimp only;omega,by dsimp only;omega⟩ ?_
 rintro⟨k,l,a⟩ ⟨hk,hl,hD,ha1,ha2⟩
 dsimp only at hk hl hD ha1 ha2 ⊢;have nl:=WB hR
 have eQ:(Q.map prV).length=Q.length:=List.length_map ..
 have bl:=fun(jr:Obj) (J:AV)=>rE (B:=h.length) (cs:=cs) (g:=g) (jr:=jr) (pr:=pr) (J:=J) (P:=P) (R:=R)
 have c0:(id+1≤h.length+(R.length+8))=True:=eq_true (by omega)
 have c2:(v2.top≤h.length+(R.length+8))=True:=eq_true (by omega)
 have c3:(h.length+7+1≤h.length+(R.length+8))=True:=eq_true (by omega)
 have c4:(h.length+(n+8)+1≤h.length+(R.length+8))=True:=eq_true (by omega)
 have tR:R.take R.length=R:=List.take_length
 rcases Nat.lt_or_ge k Q.length with hlt|hge
 ·have gg:=dB prV hlt
  have c1:IA (some 2) 0 (prV Q[k])=some (prV Q[k]):=rfl
  have w2:IntKind.i64.wrap ((k:Int)+1)=((k+1:Nat):Int):=FA _ (by omega) (by omega)
  have p0:sA 0 a:=by unfold sA at *;omega
  have p1:sA 0 (a+1):=by unfold sA at *;omega
  generalize Q[k]=q at gg c1;obtain⟨q1,q2⟩:=q;simp only[prV]at gg c1;have hR1:∀(jr:Obj) (J:AV),(BH h.length cs g jr pr J P R)[n+8]?=some (.row (some 2) (Q.map prV) 0):=fun jr J=>hR
  have gX:∀(jr:Obj) (J:AV) (o:Obj),(BH h.length cs g jr pr J P (R++[o]))[R.length+8]?=some o:=fun jr J o=>by rw[bh_R,cX];rfl
  have sX:∀(jr:Obj) (J:AV) (o o2:Obj),(BH h.length cs g jr pr J P (R++[o])).set (R.length+8) o2=BH h.length cs g jr pr J P (R++[o2]):=fun jr J o o2=>by
   show BH h.length cs g jr pr J P ((R++[o]).set R.length o2)=_
   rw[fX];rfl
  have S:=fun l K=>PF (L:=L) (h:=h) (l:=l) (K:=K) hid p1 (xs:=[.str [110,49],.str [110,49],.str [110,50],.str [110,51]]) rfl (by simp) (by simp)
  simp only[List.map_cons,List.map_nil,unS]at S;have pm:=z2X (l:=dJ) (L:=L) (a:=a+1) (by simp [dJ]) (by simp [dJ])
  unfold dJ at pm;generalize XC [[110,49],[110,49],[110,50],[110,51]] L (a+1)=nt at *;have ej:(l.map Jon.pv).length=l.length:=List.length_map ..
  have km:l.length+1≤XA:=by unfold XA;omega
  by_cases f:DA L a 5=0
  ·have f':=eq_true f
   simp only[go_sem,hlt,w2,gg,c1,hR1,eQ,hid,p0,f',bl,UH,gX,sX,c0,c2,c3,c4,yC,tR];exact⟨(k+1,l,a+1),rfl,⟨hlt,by dsimp only;omega,hD,by dsimp only;omega,by dsimp only;omega⟩,by dsimp only;omega⟩
  ·have eE:RB (h.length+7) (AV.own (h.length+5) (l.length+1) 0 (l.length+1))=[]:=if_neg (by simp [AV.top])
   have tR2:∀o,(R++[o]).take R.length=R:=fun o=>List.take_left
   simp only[go_sem,hlt,w2,gg,c1,hR1,eQ,hid,p0,f,bl,UH,gX,sX,↓S,S,dD,bh_5,JQ,KQ,ej,km,c0,c2,c3,c4,yC,tR,tR2,eE];refine⟨(k+1,l++[⟨nt,q1,q2⟩],a+1+1),?_,⟨hlt,by dsimp only;rw[List.length_append,List.length_singleton];omega,?_,by dsimp only;omega,by dsimp only;omega⟩,by dsimp only;omega⟩
   ·dsimp only
    rw[List.length_append,List.map_append];rfl
   ·intro j hj
    rcases List.mem_append.1 hj with z|z
    ·exact hD j z
    ·rw[List.mem_singleton]at z;subst z;exact pm
 ·have e:k=Q.length:=by omega
  subst e;simp only[go_sem,Nat.lt_irrefl,bl,c0,c2,c3,c4,yC,tR];exact fin l a _ hl hD ha1 ha2
end Go.Am
end
section
/- What is drawn: the pulls of a board. -/
open Go
set_option linter.all false
set_option maxRecDepth 100000
namespace Go.Am
variable {h:aA} {K:mA} {L:List Int}
attribute [-go_sem] kB BB YB XB
set_option maxHeartbeats 1000000 in
theorem zjL {K:Ex→St→Prop}{E:Esc}{id:Nat}(hid:id<h.length){a0:Int}(hp:sA 1000 a0){v2 J:AV}{jr:Obj}{cs:List AV}{g n:Nat}{R:aA}{xs:List PV}{N:List Nm2}(t2:v2.top≤h.length+8)(hQ:N.length≤100)(hN:N.length≤xs.length)(hw:win xs 0 N.length=N.map PV.str)(hR:R[n]?=some (.row none xs 0))
 (fin:∀(l:List Pul) (a:Int) (z:Nat×AV),l.length≤N.length→a0≤a→a≤a0+2*N.length→K (.exit 8) ⟨[(0,.ref id 0),(2,v2),(3,.ref (h.length+7) 0),(96,.own (h.length+(n+8)) xs.length 0 N.length),(97,AI N.length),(98,AI N.length),z],h.set id (vA L a)++BH h.length cs g jr (.row (some 2) (l.map Pul.pv) 0) J (.own (h.length+6) l.length 0 l.length) R,E⟩) :
 LA (kA X) X.gl (.scope rJ) K [(0,.ref id 0),(2,v2),(3,.ref (h.length+7) 0),(96,.own (h.length+(n+8)) xs.length 0 N.length),(97,AI N.length),(98,AI 0)] (h.set id (vA L a0)++BH h.length cs g jr (.row (some 2) [] 0) J (.own (h.length+6) 0 0 0) R) E:=by
 refine UA (fun t:Nat×List Pul×Int=>⟨[(0,.ref id 0),(2,v2),(3,.ref (h.length+7) 0),(96,.own (h.length+(n+8)) xs.length 0 N.length),(97,AI N.length),(98,AI t.1)],h.set id (vA L t.2.2)++BH h.length cs g jr (.row (some 2) (t.2.1.map Pul.pv) 0) J (.own (h.length+6) t.2.1.length 0 t.2.1.length) R,E⟩)
  (fun t=>t.1≤N.length∧t.2.1.length≤t.1∧a0≤t.2.2∧t.2.2≤a0+2*t.1) (fun t=>N.length-t.1) (0,[],a0) rfl ⟨by omega,Nat.le_refl _,by dsimp only;omega,by dsimp only;omega⟩ ?_
 rintro⟨k,l,a⟩ ⟨hk,hl,ha1,ha2⟩
 dsimp only at hk hl ha1 ha2 ⊢;have nl:=WB hR
 have bl:=fun(pr:Obj) (P:AV)=>rE (B:=h.length) (cs:=cs) (g:=g) (jr:=jr) (pr:=pr) (J:=J) (P:=P) (R:=R)
 have c0:(id+1≤h.length+(R.length+8))=True:=eq_true (by omega)
 have c2:(v2.top≤h.length+(R.length+8))=True:=eq_true (by omega)
 have c3:(h.length+7+1≤h.length+(R.length+8))=True:=eq_true (by omega)
 have c4:(h.length+(n+8)+1≤h.length+(R.length+8))=True:=eq_true (by omega)
 have tR:R.take R.length=R:=List.take_length
 have hN':(N.length≤xs.length)=True:=eq_true hN
 rcases Nat.lt_or_ge k N.length with hlt|hge
 ·have gg:xs[k]?=some (.str N[k]):=by
   have h1:(win xs 0 N.length)[k]?=(N.map PV.str)[k]?:=by rw[hw]
   unfold win at h1;rw[List.drop_zero,List.getElem?_take_of_lt hlt,dB PV.str hlt]at h1;exact h1
  have w2:IntKind.i64.wrap ((k:Int)+1)=((k+1:Nat):Int):=FA _ (by omega) (by omega)
  have p0:sA 0 a:=by unfold sA at *;omega
  have p1:sA 0 (a+1):=by unfold sA at *;omega
  generalize N[k]=q at gg;have hR1:∀(pr:Obj) (P:AV),(BH h.length cs g jr pr J P R)[n+8]?=some (.row none xs 0):=fun pr P=>hR
  have ej:(l.map Pul.pv).length=l.length:=List.length_map ..
  have km:l.length+1≤XA:=by unfold XA;omega
  have eE:RB (h.length+7) (AV.own (h.length+6) (l.length+1) 0 (l.length+1))=[]:=if_neg (by simp [AV.top])
  by_cases f:DA L a 4=0
  ·have f':=eq_true f
   simp only[go_sem,hlt,w2,gg,hN',hR1,hid,p0,p1,f',bl,dD,bh_6,qX,KQ,ej,km,c0,c2,c3,c4,yC,tR,eE];refine⟨(k+1,l++[⟨q,DA L (a+1) 2⟩],a+1+1),?_,⟨hlt,by dsimp only;rw[List.length_append,List.length_singleton];omega,by dsimp only;omega,by dsimp only;omega⟩,by dsimp only;omega⟩
   dsimp only;rw[List.length_append,List.map_append];rfl
  ·simp only[go_sem,hlt,w2,gg,hN',hR1,hid,p0,f,bl,c0,c2,c3,c4,yC,tR]
   exact⟨(k+1,l,a+1),rfl,⟨hlt,by dsimp only;omega,by dsimp only;omega,by dsimp only;omega⟩,by dsimp only;omega⟩
 ·have e:k=N.length:=by omega
  subst e;simp only[go_sem,Nat.lt_irrefl,bl,c0,c2,c3,c4,yC,tR];exact fin l a _ hl ha1 ha2
end Go.Am
end
section
/- What is drawn: one thing of a board made odd. -/
open Go
set_option linter.all false
set_option maxRecDepth 100000
namespace Go.Am
variable {h:aA} {K:mA} {L:List Int}
attribute [-go_sem] kB BB YB XB
abbrev BHJ (B:Nat)(M:List (Nat × Prt))(jl:List Jon)(pl:List Pul)(R:aA):aA:=BH B (sB M) M.length (.row (some 3) (jl.map Jon.pv) 0) (.row (some 2) (pl.map Pul.pv) 0) (.own (B+5) jl.length 0 jl.length) (.own (B+6) pl.length 0 pl.length) R
structure PartsE (M:List (Nat × Prt)):Prop where
 n:M.length≤3
 e:∀e∈M,e.2.key.length≤10∧e.2.cells.length≤7∧∀c∈e.2.cells,c.pin.length≤10
def ZD (l:List Jon):Prop:=∀j∈l,j.net.length≤10
def QH (lo:Nat)(M:List (Nat × Prt))(jl:List Jon)(pl:List Pul)(R:aA)(a:Int)(M':List (Nat × Prt))(jl':List Jon)(pl':List Pul)(R':aA)(a2:Int):Prop:=
 MI lo R' M'∧R'.length=R.length∧PartsE M'∧ZD jl'∧jl'.length=jl.length∧pl'.length=pl.length∧M'.length=M.length∧a≤a2∧a2≤a+20
theorem OX:∀ (M:List (Nat × Prt))(i:Nat)(hi:i<M.length)(s:Nm2),splice (sB M) (i*2) [AS s]=sB (M.set i (M[i].1,⟨s,M[i].2.cells⟩))
 | e::r,0,_,s=>rfl
 | e::r,i+1,hi,s=>by
  have ih:=OX r i (by simpa using hi) s
  rw[show(i+1)*2=(i*2)+1+1 by omega]
  unfold splice at ih ⊢;show AS e.2.key::AV.own e.1 e.2.cells.length 0 e.2.cells.length::((sB r).take (i*2)++[AS s]++(sB r).drop (i*2+1))=_
  rw[show(sB r).take (i*2)++[AS s]++(sB r).drop (i*2+1)=_ from ih]
  rfl
theorem gU {l:List Nm2}{a:Int}{n:Nat}(h0:0<l.length)(h1:l.length<100)(hl:∀ s∈l,s.length≤n):(XC l L a).length≤n:=hl _ (z2X h0 (by omega))
theorem WS {α β:Type}(f:α→β):∀(M:List α) (i:Nat) (hi:i<M.length) (x:α),f x=f M[i]→(M.set i x).map f=M.map f
 | e::r,0,_,x,h=>by show f x::r.map f=_;rw[h];rfl
 | e::r,i+1,hi,x,h=>by
  show f e::(r.set i x).map f=_
  rw[WS f r i (by simpa using hi) x h];rfl
theorem MI.setKey {lo i:Nat}{R:aA}{M:List (Nat × Prt)}{s:Nm2}(C:MI lo R M)(hi:i<M.length):MI lo R (M.set i (M[i].1,⟨s,M[i].2.cells⟩)):=by
 refine⟨fun e he=>?_,?_⟩
 ·rcases List.mem_or_eq_of_mem_set he with q|q
  ·exact C.rw e q
  ·have:=C.rw _ (List.getElem_mem hi)
   subst q;exact this
 ·rw[WS (fun e:Nat×Prt=>e.1) M i hi (M[i].1,⟨s,M[i].2.cells⟩) rfl];exact C.nd
set_option maxHeartbeats 2000000 in
theorem zkE {id:Nat}(hid:id<h.length){a:Int}(hp:sA 1000 a){M:List (Nat × Prt)}{jl:List Jon}{pl:List Pul}{R:aA}(hM:MI (h.length+8) R M)(hE:PartsE M)(hJ:ZD jl)(f:DA L a 6=0) :
 kA X wE [.ref id 0,.ref (h.length+7) 0] (h.set id (vA L a)++BHJ h.length M jl pl R) fun v h1 x1=>∃M' jl' pl' R' a2,QH (h.length+8) M jl pl R a M' jl' pl' R' a2∧v = .tup []∧h1=h.set id (vA L a2)++BHJ h.length M' jl' pl' R'∧x1=[]:=by
 rw[CM rfl];have bl:=fun(cs:List AV) (g:Nat) (jr pr:Obj) (J P:AV)=>rE (B:=h.length) (cs:=cs) (g:=g) (jr:=jr) (pr:=pr) (J:=J) (P:=P) (R:=R)
 have p0:sA 0 a:=by unfold sA at *;omega
 have p1:sA 0 (a+1):=by unfold sA at *;omega
 have p2:sA 0 (a+1+1):=by unfold sA at *;omega
 have c0:(id+1≤h.length+(R.length+8))=True:=eq_true (by omega)
 have c3:(h.length+7+1≤h.length+(R.length+8))=True:=eq_true (by omega)
 have tR:R.take R.length=R:=List.take_length
 rcases Nat.eq_zero_or_pos M.length with m0|m0
 ·have m0':((0:Int)<M.length)=False:=eq_false (by omega)
  simp only[uE,go_sem,hid,p0,f,m0',bl,dD,c0,c3,yC,tR];refine⟨M,jl,pl,R,a+1,⟨hM,rfl,hE,hJ,rfl,rfl,rfl,by omega,by omega⟩,rfl⟩
 ·have m0':((0:Int)<M.length)=True:=eq_true (by omega)
  obtain⟨n1,n2⟩:=iE L (a+1) M.length (by omega) (by have:=hE.n;omega)
  have e4:=iF (k:=.i64) n1
  have il:(DA L (a+1) M.length).toNat<M.length:=by omega
  have S:=fun l K=>PF (L:=L) (h:=h) (l:=l) (K:=K) hid p2 (xs:=[.str [],.str [65],.str [117],.str [122,122]]) rfl (by simp) (by simp)
  simp only[List.map_cons,List.map_nil,unS]at S;have ks:=OX M _ il (XC [[],[65],[117],[122,122]] L (a+1+1))
  simp only[splice,List.length_singleton,List.append_assoc,List.singleton_append]at ks;have cl:=aI M
  have MK:=hM.setKey (s:=XC [[],[65],[117],[122,122]] L (a+1+1)) il
  have pl10:=gU (L:=L) (a:=a+1+1) (l:=[[],[65],[117],[122,122]]) (n:=10) (by simp) (by simp) (by simp)
  generalize XC [[],[65],[117],[122,122]] L (a+1+1)=s at *;have hE':PartsE (M.set (DA L (a+1) M.length).toNat (M[(DA L (a+1) M.length).toNat].1,⟨s,M[(DA L (a+1) M.length).toNat].2.cells⟩)):=by
   refine⟨by rw[List.length_set];exact hE.n,fun e he=>?_⟩
   rcases List.mem_or_eq_of_mem_set he with q|q
   ·exact hE.e e q
   ·subst q
    exact⟨pl10,(hE.e _ (List.getElem_mem il)).2⟩
  simp only[uE,go_sem,hid,p0,p1,f,m0',e4,il,↓S,S,bl,dD,bh_4,pX,cl,c0,c3,yC,tR];rw[if_pos (by omega),ks]
  refine⟨M.set (DA L (a+1) M.length).toNat (M[(DA L (a+1) M.length).toNat].1,⟨s,M[(DA L (a+1) M.length).toNat].2.cells⟩),jl,pl,R,a+1+1+1,⟨MK,rfl,hE',hJ,rfl,rfl,List.length_set,by omega,by omega⟩,?_⟩
  rw[BHJ,List.length_set]
end Go.Am
end
section
/- What is drawn: a join or a pull made odd. -/
open Go
set_option linter.all false
set_option maxRecDepth 100000
namespace Go.Am
variable {h:aA} {K:mA} {L:List Int}
attribute [-go_sem] kB BB YB XB
set_option maxHeartbeats 2000000 in
theorem zkF {id:Nat}(hid:id<h.length){a:Int}(hp:sA 1000 a){M:List (Nat × Prt)}{jl:List Jon}{pl:List Pul}{R:aA}(hM:MI (h.length+8) R M)(hE:PartsE M)(hJ:ZD jl)(hjl:jl.length≤100)(f:DA L a 6=1) :
 kA X wE [.ref id 0,.ref (h.length+7) 0] (h.set id (vA L a)++BHJ h.length M jl pl R) fun v h1 x1=>∃M' jl' pl' R' a2,QH (h.length+8) M jl pl R a M' jl' pl' R' a2∧v = .tup []∧h1=h.set id (vA L a2)++BHJ h.length M' jl' pl' R'∧x1=[]:=by
 rw[CM rfl];have bl:=fun(cs:List AV) (g:Nat) (jr pr:Obj) (J P:AV)=>rE (B:=h.length) (cs:=cs) (g:=g) (jr:=jr) (pr:=pr) (J:=J) (P:=P) (R:=R)
 have p0:sA 0 a:=by unfold sA at *;omega
 have p1:sA 0 (a+1):=by unfold sA at *;omega
 have p2:sA 0 (a+1+1):=by unfold sA at *;omega
 have p3:sA 0 (a+1+1+1):=by unfold sA at *;omega
 have p4:sA 0 (a+1+1+1+1):=by unfold sA at *;omega
 have c0:(id+1≤h.length+(R.length+8))=True:=eq_true (by omega)
 have c3:(h.length+7+1≤h.length+(R.length+8))=True:=eq_true (by omega)
 have tR:R.take R.length=R:=List.take_length
 rcases Nat.eq_zero_or_pos jl.length with m0|m0
 ·have m0':((0:Int)<jl.length)=False:=eq_false (by omega)
  simp only[uE,go_sem,hid,p0,f,m0',bl,dD,c0,c3,yC,tR];exact⟨M,jl,pl,R,a+1,⟨hM,rfl,hE,hJ,rfl,rfl,rfl,by omega,by omega⟩,rfl⟩
 ·have m0':((0:Int)<jl.length)=True:=eq_true (by omega)
  obtain⟨n1,n2⟩:=iE L (a+1) jl.length (by omega) (by omega)
  have e4:=iF (k:=.i64) n1
  have il:(DA L (a+1) jl.length).toNat<jl.length:=by omega
  have g:=dB Jon.pv il
  have jn:=hJ _ (List.getElem_mem il)
  generalize hi:(DA L (a+1) jl.length).toNat=i at *;generalize hj:jl[i]=j at *;have S1:=fun l K=>PF (L:=L) (h:=h) (l:=l) (K:=K) hid p2 (xs:=[.str j.net,.str [],.str [110,49]]) rfl (by simp) (by simp)
  have S2:=fun l K=>PF (L:=L) (h:=h) (l:=l) (K:=K) hid p3 (xs:=[.str j.part,.str [122,122],.str [117]]) rfl (by simp) (by simp)
  have S3:=fun l K=>PF (L:=L) (h:=h) (l:=l) (K:=K) hid p4 (xs:=[.str j.pin,.str [112,122],.str []]) rfl (by simp) (by simp)
  simp only[List.map_cons,List.map_nil,unS]at S1 S2 S3;have l10:=gU (L:=L) (a:=a+1+1) (l:=[j.net,[],[110,49]]) (n:=10) (by simp) (by simp) (by simp;omega)
  generalize XC [j.net,[],[110,49]] L (a+1+1)=s1 at *;generalize XC [j.part,[122,122],[117]] L (a+1+1+1)=s2 at *;generalize XC [j.pin,[112,122],[]] L (a+1+1+1+1)=s3 at *;simp only[Jon.pv]at g;have el:(jl.map Jon.pv).length=jl.length:=List.length_map ..
  have el3:∀x,((jl.map Jon.pv).set i x).length=jl.length:=fun x=>by simp
  have g3:∀x,((jl.map Jon.pv).set i x)[i]?=some x:=fun x=>by rw[List.getElem?_set_self (by omega)]
  have ss:∀x y,((jl.map Jon.pv).set i x).set i y=(jl.map Jon.pv).set i y:=fun x y=>List.set_set ..
  have sp0:∀(a b c x:PV),splice [a,b,c] 0 [x]=[x,b,c]:=fun _ _ _ _=>rfl
  have sp1:∀(a b c x:PV),splice [a,b,c] 1 [x]=[a,x,c]:=fun _ _ _ _=>rfl
  have sp2:∀(a b c x:PV),splice [a,b,c] 2 [x]=[a,b,x]:=fun _ _ _ _=>rfl
  have mp:(jl.map Jon.pv).set i (.agg [.str s1,.str s2,.str s3])=(jl.set i ⟨s1,s2,s3⟩).map Jon.pv:=by rw[List.map_set];rfl
  have hJ':ZD (jl.set i ⟨s1,s2,s3⟩):=fun x hx=>by
   rcases List.mem_or_eq_of_mem_set hx with q|q
   ·exact hJ x q
   ·subst q;exact l10
  simp only[uE,go_sem,hid,p0,p1,f,m0',e4,hi,il,g,el,el3,g3,ss,sp0,sp1,sp2,↓S1,S1,↓S2,S2,↓S3,S3,bl,dD,bh_5,JQ,c0,c3,yC,tR,mp];exact⟨M,jl.set i ⟨s1,s2,s3⟩,pl,R,a+1+1+1+1+1,⟨hM,rfl,hE,hJ',List.length_set,rfl,rfl,by omega,by omega⟩,by rw[BHJ,List.length_set]⟩
theorem zkG {id:Nat}(hid:id<h.length){a:Int}(hp:sA 1000 a){M:List (Nat × Prt)}{jl:List Jon}{pl:List Pul}{R:aA}(hM:MI (h.length+8) R M)(hE:PartsE M)(hJ:ZD jl)(hpl:pl.length≤100)(f:DA L a 6=2) :
 kA X wE [.ref id 0,.ref (h.length+7) 0] (h.set id (vA L a)++BHJ h.length M jl pl R) fun v h1 x1=>∃M' jl' pl' R' a2,QH (h.length+8) M jl pl R a M' jl' pl' R' a2∧v = .tup []∧h1=h.set id (vA L a2)++BHJ h.length M' jl' pl' R'∧x1=[]:=by
 rw[CM rfl];have bl:=fun(cs:List AV) (g:Nat) (jr pr:Obj) (J P:AV)=>rE (B:=h.length) (cs:=cs) (g:=g) (jr:=jr) (pr:=pr) (J:=J) (P:=P) (R:=R)
 have p0:sA 0 a:=by unfold sA at *;omega
 have p1:sA 0 (a+1):=by unfold sA at *;omega
 have p2:sA 0 (a+1+1):=by unfold sA at *;omega
 have c0:(id+1≤h.length+(R.length+8))=True:=eq_true (by omega)
 have c3:(h.length+7+1≤h.length+(R.length+8))=True:=eq_true (by omega)
 have tR:R.take R.length=R:=List.take_length
 rcases Nat.eq_zero_or_pos pl.length with m0|m0
 ·have m0':((0:Int)<pl.length)=False:=eq_false (by omega)
  simp only[uE,go_sem,hid,p0,f,m0',bl,dD,c0,c3,yC,tR];exact⟨M,jl,pl,R,a+1,⟨hM,rfl,hE,hJ,rfl,rfl,rfl,by omega,by omega⟩,rfl⟩
 ·have m0':((0:Int)<pl.length)=True:=eq_true (by omega)
  obtain⟨n1,n2⟩:=iE L (a+1) pl.length (by omega) (by omega)
  have e4:=iF (k:=.i64) n1
  have il:(DA L (a+1) pl.length).toNat<pl.length:=by omega
  have g:=dB Pul.pv il
  generalize hi:(DA L (a+1) pl.length).toNat=i at *;generalize hj:pl[i]=j at *;have S1:=fun l K=>PF (L:=L) (h:=h) (l:=l) (K:=K) hid p2 (xs:=[.str j.net,.str [122,122],.str [110,49]]) rfl (by simp) (by simp)
  simp only[List.map_cons,List.map_nil,unS]at S1;generalize XC [j.net,[122,122],[110,49]] L (a+1+1)=s1 at *;obtain⟨w,a2,w1,w2,w3,w4,O⟩:=g_Odd (L:=L) (a:=a+1+1+1) (by unfold sA at *;omega) 0 1 (by omega) (by omega) (by omega)
  have S2:=fun l K=>O.app (h:=h) (id:=id) (l:=l) (K:=K) hid
  simp only[Pul.pv,eI]at g;have el:(pl.map Pul.pv).length=pl.length:=List.length_map ..
  have el3:∀x,((pl.map Pul.pv).set i x).length=pl.length:=fun x=>by simp
  have g3:∀x,((pl.map Pul.pv).set i x)[i]?=some x:=fun x=>by rw[List.getElem?_set_self (by omega)]
  have ss:∀x y,((pl.map Pul.pv).set i x).set i y=(pl.map Pul.pv).set i y:=fun x y=>List.set_set ..
  have sp0:∀(a b x:PV),splice [a,b] 0 [x]=[x,b]:=fun _ _ _=>rfl
  have sp1:∀(a b x:PV),splice [a,b] 1 [x]=[a,x]:=fun _ _ _=>rfl
  have mp:(pl.map Pul.pv).set i (.agg [.str s1,.int .i64 w])=(pl.set i ⟨s1,w⟩).map Pul.pv:=by rw[List.map_set];rfl
  simp only[uE,go_sem,hid,p0,p1,f,m0',e4,hi,il,g,el,el3,g3,ss,sp0,sp1,↓S1,S1,↓S2,S2,bl,dD,bh_6,qX,c0,c3,yC,tR,mp];exact⟨M,jl,pl.set i ⟨s1,w⟩,R,a2,⟨hM,rfl,hE,hJ,rfl,List.length_set,rfl,by omega,by omega⟩,by rw[BHJ,List.length_set]⟩
end Go.Am
end
section
/- What is drawn: a cell made odd. -/
open Go
set_option linter.all false
set_option maxRecDepth 100000
namespace Go.Am
variable {h:aA} {K:mA} {L:List Int}
attribute [-go_sem] kB BB YB XB
theorem bh_sR {B g:Nat}{cs:List AV}{jr pr:Obj}{J P:AV}{R:aA}{n:Nat}{o:Obj}:(BH B cs g jr pr J P R).set (n+8) o=BH B cs g jr pr J P (R.set n o):=rfl
theorem MX:∀ (M:List (Nat × Prt))(i:Nat)(hi:i<M.length),(sB M)[i*2+1]?=some (.own M[i].1 M[i].2.cells.length 0 M[i].2.cells.length)
 | e::r,0,_=>rfl
 | e::r,i+1,hi=>by
  rw[show(i+1)*2+1=(i*2+1)+1+1 by omega]
  exact MX r i (by simpa using hi)
theorem NX:∀ (M:List (Nat × Prt))(i:Nat)(hi:i<M.length)(l:List Cel),l.length=M[i].2.cells.length→sB (M.set i (M[i].1,⟨M[i].2.key,l⟩))=sB M
 | e::r,0,_,l,hl=>by
  show AS e.2.key::AV.own e.1 l.length 0 l.length::sB r=_
  rw[show l.length=e.2.cells.length from hl];rfl
 | e::r,i+1,hi,l,hl=>by
  show AS e.2.key::AV.own e.1 e.2.cells.length 0 e.2.cells.length::sB (r.set i _)=_
  rw[show sB (r.set i ((e::r)[i+1].1,⟨(e::r)[i+1].2.key,l⟩))=sB r from NX r i (by simpa using hi) l hl];rfl
theorem MI.setC {lo i m:Nat}{R:aA}{M:List (Nat × Prt)}{l:List Cel}(C:MI lo R M)(hi:i<M.length)(hm:M[i].1=lo+m)(hR:m<R.length):MI lo (R.set m (.row (some 4) (l.map Cel.pv) 0)) (M.set i (M[i].1,⟨M[i].2.key,l⟩)):=by
 have nd:=C.nd
 refine⟨fun e he=>?_,?_⟩
 ·obtain⟨j,hj,rfl⟩:=List.mem_iff_getElem.1 he
  rw[List.length_set]at hj;rw[List.getElem_set];by_cases hij:i=j
  ·rw[if_pos hij]
   exact⟨m,hm,by rw[List.getElem?_set_self hR]⟩
  ·rw[if_neg hij]
   obtain⟨n,e1,e2⟩:=C.rw _ (List.getElem_mem hj);refine⟨n,e1,?_⟩;have pw:=List.pairwise_iff_getElem.1 nd
   have hne:M[j].1≠M[i].1:=by
    rcases Nat.lt_or_ge i j with q|q
    ·have:=pw i j (by simpa using hi) (by simpa using hj) q
     simpa using Ne.symm this
    ·have:=pw j i (by simpa using hj) (by simpa using hi) (by omega)
     simpa using this
   have:n≠m:=fun e=>hne (by rw[e1,hm,e])
   rw[List.getElem?_set_ne (by omega)];exact e2
 ·rw[WS (fun e:Nat×Prt=>e.1) M i hi (M[i].1,⟨M[i].2.key,l⟩) rfl];exact nd
set_option maxHeartbeats 4000000 in
theorem zkH {id:Nat}(hid:id<h.length){a:Int}(hp:sA 1000 a){M:List (Nat × Prt)}{jl:List Jon}{pl:List Pul}{R:aA}(hM:MI (h.length+8) R M)(hE:PartsE M)(hJ:ZD jl)(f0:¬ DA L a 6=0)(f1:¬ DA L a 6=1)(f2:¬ DA L a 6=2) :
 kA X wE [.ref id 0,.ref (h.length+7) 0] (h.set id (vA L a)++BHJ h.length M jl pl R) fun v h1 x1=>∃M' jl' pl' R' a2,QH (h.length+8) M jl pl R a M' jl' pl' R' a2∧v = .tup []∧h1=h.set id (vA L a2)++BHJ h.length M' jl' pl' R'∧x1=[]:=by
 rw[CM rfl];have bl:=fun(cs:List AV) (g:Nat) (jr pr:Obj) (J P:AV) (R:aA)=>rE (B:=h.length) (cs:=cs) (g:=g) (jr:=jr) (pr:=pr) (J:=J) (P:=P) (R:=R)
 have p0:sA 0 a:=by unfold sA at *;omega
 have p1:sA 0 (a+1):=by unfold sA at *;omega
 have p2:sA 0 (a+1+1):=by unfold sA at *;omega
 have p3:sA 0 (a+1+1+1):=by unfold sA at *;omega
 have p4:sA 0 (a+1+1+1+1):=by unfold sA at *;omega
 have p5:sA 0 (a+1+1+1+1+1):=by unfold sA at *;omega
 have p6:sA 0 (a+1+1+1+1+1+1):=by unfold sA at *;omega
 have c0:(id+1≤h.length+(R.length+8))=True:=eq_true (by omega)
 have c3:(h.length+7+1≤h.length+(R.length+8))=True:=eq_true (by omega)
 have tR:R.take R.length=R:=List.take_length
 rcases Nat.eq_zero_or_pos M.length with m0|m0
 ·have m0':((M.length:Int)=0)=True:=eq_true (by omega)
  simp (config:={maxSteps:=1000000}) only[uE,go_sem,hid,p0,f0,f1,f2,m0',bl,dD,c0,c3,yC,tR];exact⟨M,jl,pl,R,a+1,⟨hM,rfl,hE,hJ,rfl,rfl,rfl,by omega,by omega⟩,rfl⟩
 ·have m0':((M.length:Int)=0)=False:=eq_false (by omega)
  obtain⟨n1,n2⟩:=iE L (a+1) M.length (by omega) (by have:=hE.n;omega)
  have e4:=iF (k:=.i64) n1
  have il:(DA L (a+1) M.length).toNat<M.length:=by omega
  have cl:=aI M
  have gr:=MX M _ il
  obtain⟨m,m1,m2⟩:=hM.rw _ (List.getElem_mem il);have sC:=NX M _ il
  have MC:=fun l=>hM.setC (l:=l) il m1 (WB m2)
  have eE:=hE.e _ (List.getElem_mem il)
  generalize hi:(DA L (a+1) M.length).toNat=i at *;rw[m1,show h.length+8+m=h.length+(m+8) by omega]at gr
  generalize hl:M[i].2.cells=l at *;have hi2:(i*2+1<M.length*2)=True:=eq_true (by omega)
  rcases Nat.eq_zero_or_pos l.length with q0|q0
  ·have q0':((0:Int)<l.length)=False:=eq_false (by omega)
   simp (config:={maxSteps:=10000000}) only[uE,go_sem,hid,p0,p1,f0,f1,f2,m0',e4,hi,il,gr,cl,q0',bl,dD,bh_4,c0,c3,yC,tR];exact⟨M,jl,pl,R,a+1+1,⟨hM,rfl,hE,hJ,rfl,rfl,rfl,by omega,by omega⟩,rfl⟩
  ·have q0':((0:Int)<l.length)=True:=eq_true (by omega)
   obtain⟨n3,n4⟩:=iE L (a+1+1) l.length (by omega) (by omega)
   have e5:=iF (k:=.i64) n3
   have kl:(DA L (a+1+1) l.length).toNat<l.length:=by omega
   have g:=dB Cel.pv kl
   have pn:=eE.2.2 _ (List.getElem_mem kl)
   generalize hk:(DA L (a+1+1) l.length).toNat=k at *;generalize hc:l[k]=c at *;have S1:=fun t K=>FL (L:=L) (h:=h) (l:=t) (K:=K) hid p3 (xs:=[eI c.kind,eI c.kind,eI 0,eI 5,eI 3]) rfl (by simp) (by simp)
   have S2:=fun t K=>PF (L:=L) (h:=h) (l:=t) (K:=K) hid p4 (xs:=[.str c.pin,.str c.pin,.str [],.str [112,97],.str [65]]) rfl (by simp) (by simp)
   have S3:=fun t K=>FL (L:=L) (h:=h) (l:=t) (K:=K) hid p5 (xs:=[eI c.ctl,eI c.ctl,eI (-1),eI (-2),eI 0,eI 99,eI 1099511627776]) rfl (by simp) (by simp)
   have S4:=fun t K=>FL (L:=L) (h:=h) (l:=t) (K:=K) hid p6 (xs:=[eI c.off,eI c.off,eI 0,eI 1,eI 2,eI (-1)]) rfl (by simp) (by simp)
   simp only[List.map_cons,List.map_nil,unS,unI,eI]at S1 S2 S3 S4;have l10:=gU (L:=L) (a:=a+1+1+1+1) (l:=[c.pin,c.pin,[],[112,97],[65]]) (n:=10) (by simp) (by simp) (by simp;omega)
   generalize BE [c.kind,c.kind,0,5,3] L (a+1+1+1)=s1 at *;generalize XC [c.pin,c.pin,[],[112,97],[65]] L (a+1+1+1+1)=s2 at *;generalize BE [c.ctl,c.ctl,-1,-2,0,99,1099511627776] L (a+1+1+1+1+1)=s3 at *;generalize BE [c.off,c.off,0,1,2,-1] L (a+1+1+1+1+1+1)=s4 at *;simp only[Cel.pv,eI]at g;have el:(l.map Cel.pv).length=l.length:=List.length_map ..
   have el3:∀x,((l.map Cel.pv).set k x).length=l.length:=fun x=>by simp
   have g3:∀x,((l.map Cel.pv).set k x)[k]?=some x:=fun x=>by rw[List.getElem?_set_self (by omega)]
   have ss:∀x y,((l.map Cel.pv).set k x).set k y=(l.map Cel.pv).set k y:=fun x y=>List.set_set ..
   have sp0:∀(a b c d x:PV),splice [a,b,c,d] 0 [x]=[x,b,c,d]:=fun _ _ _ _ _=>rfl
   have sp1:∀(a b c d x:PV),splice [a,b,c,d] 1 [x]=[a,x,c,d]:=fun _ _ _ _ _=>rfl
   have sp2:∀(a b c d x:PV),splice [a,b,c,d] 2 [x]=[a,b,x,d]:=fun _ _ _ _ _=>rfl
   have sp3:∀(a b c d x:PV),splice [a,b,c,d] 3 [x]=[a,b,c,x]:=fun _ _ _ _ _=>rfl
   have mp:(l.map Cel.pv).set k (.agg [.int .i64 s1,.str s2,.int .i64 s3,.int .i64 s4])=(l.set k ⟨s1,s2,s3,s4⟩).map Cel.pv:=by rw[List.map_set];rfl
   have ml:=WB m2
   have r2:∀o:Obj,(R.set m o)[m]?=some o:=fun o=>List.getElem?_set_self ml
   have r3:∀o o':Obj,(R.set m o).set m o'=R.set m o':=fun o o'=>List.set_set ..
   have r4:∀o:Obj,(R.set m o).length=R.length:=fun o=>List.length_set
   have tR2:∀o:Obj,(R.set m o).take R.length=R.set m o:=fun o=>List.take_of_length_le (by simp)
   simp (config:={maxSteps:=10000000}) only[uE,go_sem,hid,p0,p1,p2,f0,f1,f2,m0',e4,hi,il,gr,cl,q0',e5,hk,kl,g,el,el3,g3,ss,sp0,sp1,sp2,sp3,↓S1,S1,↓S2,S2,↓S3,S3,↓S4,S4,bl,dD,bh_4,bh_R,bh_sR,m2,r2,r3,r4,tR2,c0,c3,yC,tR,mp];have lc:(l.set k ⟨s1,s2,s3,s4⟩).length=l.length:=List.length_set
   have hE':PartsE (M.set i (M[i].1,⟨M[i].2.key,l.set k ⟨s1,s2,s3,s4⟩⟩)):=by
    refine⟨by rw[List.length_set];exact hE.n,fun e he=>?_⟩
    rcases List.mem_or_eq_of_mem_set he with q|q
    ·exact hE.e e q
    ·subst q
     refine⟨eE.1,by rw[lc];exact eE.2.1,fun x hx=>?_⟩
     rcases List.mem_or_eq_of_mem_set hx with q|q
     ·exact eE.2.2 x q
     ·subst q;exact l10
   refine⟨M.set i (M[i].1,⟨M[i].2.key,l.set k ⟨s1,s2,s3,s4⟩⟩),jl,pl,R.set m (.row (some 4) ((l.set k ⟨s1,s2,s3,s4⟩).map Cel.pv) 0),a+1+1+1+1+1+1+1,⟨MC _,List.length_set,hE',hJ,rfl,rfl,List.length_set,by omega,by omega⟩,?_⟩
   rw[BHJ,sC _ lc,List.length_set]
theorem zkD {id:Nat}(hid:id<h.length){a:Int}(hp:sA 1000 a){M:List (Nat × Prt)}{jl:List Jon}{pl:List Pul}{R:aA}(hM:MI (h.length+8) R M)(hE:PartsE M)(hJ:ZD jl)(hjl:jl.length≤100)(hpl:pl.length≤100) :
 ∃M' jl' pl' R' a2,QH (h.length+8) M jl pl R a M' jl' pl' R' a2∧∀K:mA,kA X wE [.ref id 0,.ref (h.length+7) 0] (h.set id (vA L a)++BHJ h.length M jl pl R) K=K (.tup []) (h.set id (vA L a2)++BHJ h.length M' jl' pl' R') []:=by
 have key:kA X wE [.ref id 0,.ref (h.length+7) 0] (h.set id (vA L a)++BHJ h.length M jl pl R) fun v h1 x1=>∃M' jl' pl' R' a2,QH (h.length+8) M jl pl R a M' jl' pl' R' a2∧v = .tup []∧h1=h.set id (vA L a2)++BHJ h.length M' jl' pl' R'∧x1=[]:=by
  by_cases f0:DA L a 6=0
  ·exact zkE hid hp hM hE hJ f0
  ·by_cases f1:DA L a 6=1
   ·exact zkF hid hp hM hE hJ hjl f1
   ·by_cases f2:DA L a 6=2
    ·exact zkG hid hp hM hE hJ hpl f2
    ·exact zkH hid hp hM hE hJ f0 f1 f2
 obtain⟨v,h1,x1,⟨M',jl',pl',R',a2,q,e1,e2,e3⟩,r⟩:=kA.one cK key;subst e1 e2 e3;exact⟨M',jl',pl',R',a2,q,r⟩
end Go.Am
end
section
/- What is drawn: how many pins there are,and the board that is handed back. -/
open Go
set_option linter.all false
set_option maxRecDepth 100000
namespace Go.Am
variable {h:aA} {K:mA} {L:List Int}
attribute [-go_sem] kB BB YB XB
theorem z2F {α:Type}[DecidableEq α]:∀(l s:List α),l.Nodup→(∀x∈l,x∈s)→l.length≤s.length
 | [],s,_,_=>Nat.zero_le _
 | x::r,s,hd,hs=>by
  rw[List.nodup_cons]at hd;have hx:=hs x (by simp)
  have ih:=z2F r (s.erase x) hd.2 fun y hy=>(List.mem_erase_of_ne fun e=>hd.1 (by rw[←e];exact hy)).2 (hs y (by simp [hy]))
  rw[List.length_erase_of_mem hx]at ih;have:0<s.length:=List.length_pos_of_mem hx
  rw[List.length_cons];omega
def iU:List (Nm2 × Nm2):=fF.flatMap fun k=>[(k,qD 0),(k,qD 1),(k,qD 2),(k,qD 3)]
def PH (P:List (Nm2 × Nm2)):Prop:=P.Nodup∧∀x∈P,x∈iU
theorem z9u {key:Nm2}(hk:key∈fF){P:List (Nm2 × Nm2)}{c:Cel}(hc:TB c)(I:PH P):PH (PB key P c):=by
 unfold PB;by_cases h1:c.pin=[]
 ·rw[if_pos h1];exact I
 ·rw[if_neg h1]
  by_cases h2:(key,c.pin)∈P
  ·rw[if_pos h2];exact I
  ·rw[if_neg h2]
   refine⟨?_,fun x hx=>?_⟩
   ·rw[List.nodup_append]
    refine⟨I.1,by simp,fun a ha b hb=>?_⟩
    rw[List.mem_singleton]at hb;subst hb;intro e;subst e;exact h2 ha
   ·rcases List.mem_append.1 hx with q|q
    ·exact I.2 x q
    ·rw[List.mem_singleton]at q
     subst q;rcases hc with z|⟨i,hi,z⟩
     ·exact absurd z h1
     ·unfold iU
      rw[List.mem_flatMap];refine⟨key,hk,?_⟩;rw[z];have:i=0∨i=1∨i=2∨i=3:=by omega
      rcases this with e|e|e|e <;> subst e <;> simp
theorem TW {key:Nm2}(hk:key∈fF):∀{l:List Cel} {P:List (Nm2×Nm2)},(∀c∈l,TB c)→PH P→PH (l.foldl (PB key) P)
 | [],_,_,I=>I
 | c::r,P,hc,I=>TW hk (l:=r) (fun d hd=>hc d (by simp [hd])) (z9u hk (hc c (by simp)) I)
theorem zjo {M:List (Nat × Prt)}(D:PartsD M 3):(FD M).length≤12:=by
 have key:∀(N:List (Nat×Prt)) (P:List (Nm2×Nm2)),(∀e∈N,e∈M)→PH P→PH (N.foldl (fun Q e=>e.2.cells.foldl (PB e.2.key) Q) P):=by
  intro N;induction N with
  | nil=>intro P _ I;exact I
  | cons e r ih=>
   intro P hN I;have he:=hN e (by simp)
   refine ih _ (fun x hx=>hN x (by simp [hx])) (TW ?_ (D.c e he).2 I)
   have:=D.k.subset (List.mem_map.2 ⟨e,he,rfl⟩);exact this
 have:=key M [] (fun e he=>he) ⟨List.nodup_nil,fun x hx=>(by cases hx)⟩
 exact z2F _ iU this.1 this.2
def OK:List (Nat × Prt)→List PV
 | []=>[]
 | e::r=>.str e.2.key :: .sl (some 4) (e.2.cells.map Cel.pv)::OK r
theorem z3j {b:Nat}{H:aA}:∀(M:List (Nat×Prt)),(∀e∈M,b≤e.1∧H[e.1]?=some (.row (some 4) (e.2.cells.map Cel.pv) 0))→AG b H (sB M)=some (OK M)
 | [],_=>rfl
 | e::r,hM=>by
  obtain⟨h1,h2⟩:=hM e (by simp)
  have ih:=z3j r fun x hx=>hM x (by simp [hx])
  have w:win (e.2.cells.map Cel.pv) 0 e.2.cells.length=e.2.cells.map Cel.pv:=UL (by simp)
  have k:rd0 b H (.own e.1 e.2.cells.length 0 e.2.cells.length)=some (.sl (some 4) (e.2.cells.map Cel.pv)):=by
   simp only[rd0,h1,if_true,rd,h2];simp [w]
  show(match rd0 b H (AS e.2.key) with|some x=>(AG b H (.own e.1 e.2.cells.length 0 e.2.cells.length::sB r)).map (x :: ·)|none=>none)=_
  show((match rd0 b H (.own e.1 e.2.cells.length 0 e.2.cells.length) with|some x=>(AG b H (sB r)).map (x :: ·)|none=>none)).map (PV.str e.2.key :: ·)=_
  rw[k];dsimp only;rw[ih];rfl
theorem WX:∀ (M:List (Nat × Prt)),QD 2 M.length (OK M)=M.map fun e=>e.2.pv
 | []=>rfl
 | e::r=>by
  show PV.agg [.str e.2.key,.sl (some 4) (e.2.cells.map Cel.pv)]::QD 2 r.length (OK r)=_
  rw[WX r];rfl
def XF (M:List (Nat × Prt))(jl:List Jon)(pl:List Pul):Brd:=⟨M.map fun e=>e.2,jl,pl⟩
theorem zjF {b:Nat}{P:mA}{H:aA}{E:Esc}{M:List (Nat × Prt)}{jl:List Jon}{pl:List Pul}(hE:∀ y∈E,b≤y.1)(h4:H[b+4]?=some (.arow (some 2) (sB M)))(hr:∀ e∈M,b≤e.1∧H[e.1]?=some (.row (some 4) (e.2.cells.map Cel.pv) 0))(h5:H[b+5]?=some (.row (some 3) (jl.map Jon.pv) 0))(h6:H[b+6]?=some (.row (some 2) (pl.map Pul.pv) 0)) :
 GD false b P (some [.agg [.bt 3 3 (b+4) M.length,.own (b+5) jl.length 0 jl.length,.own (b+6) pl.length 0 pl.length]]) H E=P (.p (XF M jl pl).pv) (H.take b) []:=by
 have w5:win (jl.map Jon.pv) 0 jl.length=jl.map Jon.pv:=UL (by simp)
 have w6:win (pl.map Pul.pv) 0 pl.length=pl.map Pul.pv:=UL (by simp)
 have r5:SA b H (.own (b+5) jl.length 0 jl.length)=some (.p (.sl (some 3) (jl.map Jon.pv))):=by
  simp only[SA,show b≤b+5 by omega,if_true,rd,h5]
  simp [w5]
 have r6:SA b H (.own (b+6) pl.length 0 pl.length)=some (.p (.sl (some 2) (pl.map Pul.pv))):=by
  simp only[SA,show b≤b+6 by omega,if_true,rd,h6]
  simp [w6]
 have r4:SA b H (.bt 3 3 (b+4) M.length)=some (.p (.sl (some 2) (M.map fun e=>e.2.pv))):=by
  have hb:(Nat.beq 3 3&&decide (b≤b+4))=true:=by simp
  simp only[SA,hb,cond_true,rdA,h4];rw[if_pos (by rw[aI];rfl),z3j M hr]
  show some (AV.p (.sl (some 2) (QD 2 M.length (OK M))))=_
  rw[WX]
 have e:SA b H (bB [.agg [.bt 3 3 (b+4) M.length,.own (b+5) jl.length 0 jl.length,.own (b+6) pl.length 0 pl.length]])=some (.p (XF M jl pl).pv):=by
  show(WD b H [.bt 3 3 (b+4) M.length,.own (b+5) jl.length 0 jl.length,.own (b+6) pl.length 0 pl.length]).map mkA=_
  simp only[WD,r4,r5,r6,Option.map_some];show some (AV.p (PV.agg [.sl (some 2) (M.map fun e=>e.2.pv),.sl (some 3) (jl.map Jon.pv),.sl (some 2) (pl.map Pul.pv)]))=_
  unfold XF Brd.pv;rw[List.map_map];rfl
 have hc:=zbv hE E.length
 unfold GD;dsimp only;rw[e];dsimp only;rw[show(AV.p (XF M jl pl).pv).top=0 from rfl,Nat.max_eq_left (Nat.zero_le _),hc]
 have hcl:VB E b=true:=by
  unfold VB;rw[List.all_eq_true];intro y hy;simp [hE y hy]
 have hf:E.filter (fun y=>decide (y.1<b))=[]:=by
  rw[List.filter_eq_nil_iff];intro y hy;have:=hE y hy;simp;omega
 rw[if_pos hcl,e,hf];dsimp only;rw[show(AV.p (XF M jl pl).pv).top=0 from rfl]
 simp
end Go.Am
end
section
/- What is drawn: a board. -/
open Go
set_option linter.all false
set_option maxRecDepth 100000
namespace Go.Am
variable {h:aA} {K:mA} {L:List Int}
attribute [-go_sem] kB BB YB XB
attribute [-go_sem] HN vK IN UG JN lI KN mI LN nI
theorem bh_s3 {B g:Nat}{cs:List AV}{jr pr o:Obj}{J P:AV}{R:aA}:(BH B cs g jr pr J P R).set 3 o = .arow (some 2) [] :: .row (some 3) [] 0 :: .row (some 2) [] 0::o :: .arow (some 2) cs::jr::pr :: .box [.bt 3 3 (B+4) g,J,P]::R:=rfl
theorem bh_3 {B g:Nat}{cs:List AV}{jr pr:Obj}{J P:AV}{R:aA}:(BH B cs g jr pr J P R)[3]?=some (.box [.bt 3 3 B 0,.own (B+1) 0 0 0,.own (B+2) 0 0 0]):=rfl
theorem z35 {P:mA}{id:Nat}{a:Int}{M:List (Nat × Prt)}{jl:List Jon}{pl:List Pul}{R:aA}{E:Esc}(hM:MI (h.length+8) R M)(hE:∀ y∈E,y.1=h.length+4)(env:List (Nat × AV))(e2:bA env 2 = .ref (h.length+3) 0)(e3:bA env 3 = .ref (h.length+7) 0)
 (fin:P (.p (XF M jl pl).pv) (h.set id (vA L a)) []) :
 NW (kA X) X.gl xO ⟨env,h.set id (vA L a)++BHJ h.length M jl pl R,E⟩ (wA [.cell 2 (some 3)] false h.length P):=by
 rw[HN];have eE:RB (h.length+3) (AV.agg [.bt 3 3 (h.length+4) M.length,.own (h.length+5) jl.length 0 jl.length,.own (h.length+6) pl.length 0 pl.length])=[(h.length+3,h.length+7)]:=by
  simp [RB,AV.top,AV.tops]
 simp only[vK,e2,e3,go_sem,dD,bh_3,bh_s3];rw[eE,zjF (M:=M) (jl:=jl) (pl:=pl) (fun y hy=>?_) (by rw[nF];rfl) (fun e he=>?_) (by rw[nF];rfl) (by rw[nF];rfl)]
 ·rw[z3N];exact fin
 ·rcases List.mem_cons.1 hy with q|q
  ·subst q;exact Nat.le_add_right ..
  ·have:=hE y q;omega
 ·obtain⟨n,e1,e2⟩:=hM.rw e he
  refine⟨by omega,?_⟩
  rw[e1,show h.length+8+n=h.length+(n+8) by omega,nF]
  exact e2
structure BrdE (b:Brd):Prop where
 p:b.parts.length≤3
 e:∀p∈b.parts,p.key.length≤10∧p.cells.length≤7∧∀c∈p.cells,c.pin.length≤10
 j:b.joins.length≤12
 n:∀j∈b.joins,j.net.length≤10
 l:b.pulls.length≤12
theorem xX {M:List (Nat × Prt)}{jl:List Jon}{pl:List Pul}(hE:PartsE M)(hJ:ZD jl)(h1:jl.length≤12)(h2:pl.length≤12):BrdE (XF M jl pl):=by
 refine⟨by simpa [XF] using hE.n,fun p hp=>?_,h1,hJ,h2⟩
 obtain⟨e,he,rfl⟩:=List.mem_map.1 hp;exact hE.e e he
abbrev EndQ (h:aA)(id:Nat)(L:List Int)(a:Int):mA:=fun v1 h1 x1=>∃a2,(∃b,BrdE b∧v1 = .p b.pv∧a≤a2∧a2≤a+400)∧h1=h.set id (vA L a2)∧x1=[]
theorem zjM {id:Nat}(hid:id<h.length){a0 a:Int}(hp:sA 1100 a)(ha:a0≤a)(ha2:a≤a0+300){M:List (Nat × Prt)}{jl:List Jon}{pl:List Pul}{R:aA}{E:Esc}(hM:MI (h.length+8) R M)(hE:∀ y∈E,y.1=h.length+4)(hP:PartsE M)(hJ:ZD jl)(h1:jl.length≤12)(h2:pl.length≤12)
 (env:List (Nat×AV)) (e0:bA env 0 = .ref id 0) (e2:bA env 2 = .ref (h.length+3) 0) (e3:bA env 3 = .ref (h.length+7) 0) :
 NW (kA X) X.gl yO ⟨env,h.set id (vA L a)++BHJ h.length M jl pl R,E⟩ (wA [.cell 2 (some 3)] false h.length (EndQ h id L a0)):=by
 rw[IN];have p0:sA 0 a:=by unfold sA at *;omega
 by_cases f:DA L a 8=0
 ·have f':=eq_true f
  obtain⟨M',jl',pl',R',a2,⟨q1,q2,q3,q4,q5,q6,q7,q8,q9⟩,SP⟩:=zkD (L:=L) (h:=h) (id:=id) hid (a:=a+1) (by unfold sA at *;omega) hM hP hJ (by omega) (pl:=pl) (by omega)
  simp only[UG,e0,e2,e3,go_sem,hid,p0,f',↓SP,SP];exact z35 q1 hE _ rfl rfl ⟨a2,⟨_,xX q3 q4 (by omega) (by omega),rfl,by omega,by omega⟩,rfl,rfl⟩
 ·simp only[UG,e0,e2,e3,go_sem,hid,p0,f]
  exact z35 hM hE _ rfl rfl ⟨a+1,⟨_,xX hP hJ h1 h2,rfl,by omega,by omega⟩,rfl,rfl⟩
theorem zjN {id:Nat}(hid:id<h.length){a0 a:Int}(hp:sA 2000 a)(ha:a0≤a)(ha2:a≤a0+200){M:List (Nat × Prt)}{jl:List Jon}{R:aA}{E:Esc}(hM:MI (h.length+8) R M)(hE:∀ y∈E,y.1=h.length+4)(hP:PartsE M)(hJ:ZD jl)(h1:jl.length≤12)
 (env:List (Nat×AV)) (e0:bA env 0 = .ref id 0) (e2:bA env 2 = .ref (h.length+3) 0) (e3:bA env 3 = .ref (h.length+7) 0) :
 NW (kA X) X.gl zO ⟨env,h.set id (vA L a)++BHJ h.length M jl [] R,E⟩ (wA [.cell 2 (some 3)] false h.length (EndQ h id L a0)):=by
 rw[JN];have js:=zfH jl
 have jlen:(CB (ltO nB) jl).length=jl.length:=zf8 ..
 have SJ:=fun K=>zkl (K:=K) (h:=h.set id (vA L a)++BHJ h.length M jl [] R) (h.length+5) jl h1 (by rw[nF];rfl)
 rw[FU,BHJ,JQ]at SJ;rw[BHJ];simp only[List.map_nil,List.length_nil]at SJ ⊢;have hJ2:ZD (CB (ltO nB) jl):=fun j hj=>hJ j (zf9.1 hj)
 generalize CB (ltO nB) jl=js2 at *;generalize jl.length=n at *;subst jlen;obtain⟨xs,x1,x2,x3,x4,NN⟩:=zkg (h:=h.set id (vA L a)++BHJ h.length M js2 [] R) js2 (jid:=h.length+5) (pid:=h.length+4) (g:=M.length) (t:=3) (qid:=h.length+6) (m:=0) (by rw[nF];rfl) (by omega) js
 simp only[List.length_append,List.length_set,rE,List.append_assoc,UH,BHJ,List.map_nil,List.length_nil]at NN;rw[show h.length+(R.length+8)+1=h.length+((R.length+1)+8) by omega]at NN
 simp only[lI,e0,e2,e3,go_sem,dD,↓SJ,SJ,↓NN,NN];rw[←x1];refine zjL (K:=yA 8 _) hid (a0:=a) (by unfold sA at *;omega) (n:=R.length+1) (xs:=xs) (N:=cJ js2) (by simp [AV.top]) (by omega) (by omega) x2 (by rw[List.getElem?_append_right (by omega)];simp) fun l a3 z l1 l2 l3=>?_
 simp only[go_sem];rw[x1];refine zjM hid (by unfold sA at *;omega) (by omega) (by omega) hM.app hE hP hJ2 (by omega) (by omega) _ rfl rfl rfl
end Go.Am
end
section
/- What is drawn: a board,whole. -/
open Go
set_option linter.all false
set_option maxRecDepth 100000
namespace Go.Am
variable {h:aA} {K:mA} {L:List Int}
attribute [-go_sem] kB BB YB XB
attribute [-go_sem] HN vK IN UG JN lI KN mI LN nI
theorem PartsD.toE {M:List (Nat × Prt)}(D:PartsD M 3):PartsE M:=by
 refine⟨D.len,fun e he=>⟨?_,(D.c e he).1,fun c hc=>?_⟩⟩
 ·have:=D.k.subset (List.mem_map.2 ⟨e,he,rfl⟩)
  simp [fF]at this;rcases this with q|q|q <;> rw[q] <;> simp
 ·rcases(D.c e he).2 c hc with q|⟨i,_,q⟩
  ·rw[q];simp
  ·rw[q];simp [qD]
theorem XL.toE {l:List Jon}(D:XL l):ZD l:=fun j hj=>by
 have:=D j hj;simp [dJ]at this;rcases this with q|q|q <;> rw[q] <;> simp
theorem zjO {id:Nat}(hid:id<h.length){a0 a:Int}(hp:sA 3000 a)(ha:a0≤a)(ha2:a≤a0+120){M:List (Nat × Prt)}{Q:List (Nm2 × Nm2)}{R:aA}{E:Esc}(hM:MI (h.length+8) R M)(hE:∀ y∈E,y.1=h.length+4)(hP:PartsE M)(hQ:Q.length≤12)
 (env:List (Nat×AV)) (e0:bA env 0 = .ref id 0) (e2:bA env 2 = .ref (h.length+3) 0) (e3:bA env 3 = .ref (h.length+7) 0) (e6:bA env 6 = .own (h.length+(R.length+8)) Q.length 0 Q.length) :
 NW (kA X) X.gl BO ⟨env,h.set id (vA L a)++BHJ h.length M [] [] (R++[.row (some 2) (Q.map prV) 0]),E⟩ (wA [.cell 2 (some 3)] false h.length (EndQ h id L a0)):=by
 rw[KN];simp only[mI,e0,e2,e3,e6,go_sem];refine zjT (K:=yA 6 _) hid (a0:=a) (by unfold sA at *;omega) (n:=R.length) (by simp [AV.top]) (by omega) (by simp) fun l a3 z l1 lD l2 l3=>?_
 simp only[go_sem];exact zjN hid (by unfold sA at *;omega) (by omega) (by omega) hM.app hE hP lD.toE (by omega) _ rfl rfl rfl
theorem zjP {id:Nat}(hid:id<h.length){a0 a:Int}(hp:sA 3000 a)(ha:a0≤a)(ha2:a≤a0+120){M:List (Nat × Prt)}{R:aA}{E:Esc}(hM:MI (h.length+8) R M)(hE:∀ y∈E,y.1=h.length+4)(hD:PartsD M 3)
 (env:List (Nat×AV)) (e0:bA env 0 = .ref id 0) (e2:bA env 2 = .ref (h.length+3) 0) (e3:bA env 3 = .ref (h.length+7) 0) :
 NW (kA X) X.gl lL ⟨env,h.set id (vA L a)++BHJ h.length M [] [] R,E⟩ (wA [.cell 2 (some 3)] false h.length (EndQ h id L a0)):=by
 rw[LN];have bl:=fun(cs:List AV) (g:Nat) (jr pr:Obj) (J P:AV)=>rE (B:=h.length) (cs:=cs) (g:=g) (jr:=jr) (pr:=pr) (J:=J) (P:=P) (R:=R)
 have gl:(h.set id (vA L a)++BHJ h.length M [] [] R).length=h.length+(R.length+8):=by rw[List.length_append,List.length_set,BHJ,rE]
 have k6:=fun(K:Ex→St→Prop)=>zjS (K:=K) (E:=E) (G:=h.set id (vA L a)++BHJ h.length M [] [] R) (v0:=.ref id 0) (v2:=.ref (h.length+3) 0) (v3:=.ref (h.length+7) 0) (B:=h.length+4) (M:=M) (by rw[gl];simp [AV.top];omega) (by rw[gl];simp [AV.top];omega) (by rw[gl];simp [AV.top];omega) hD.len (fun e he=>(hD.c e he).1) (by rw[nF];rfl) (fun e he=>by
  obtain⟨n,e1,e2⟩:=hM.rw e he;rw[e1,show h.length+8+n=h.length+(n+8) by omega,nF]
  exact e2)
 rw[gl]at k6;have q12:=zjo hD
 simp only[nI,e0,e2,e3,go_sem,bl,UH,dD];simp only[BHJ,UH,List.append_assoc,List.map_nil,List.length_nil]at k6;refine k6 (yA 2 _) fun z=>?_
 simp only[go_sem];exact zjO hid hp ha ha2 hM hE hD.toE q12 _ rfl rfl rfl rfl
theorem zfe {a:Int}(hp:sA 10000 a):YD BI [] L a fun v a2=>∃b,BrdE b∧v = .p b.pv∧a≤a2∧a2≤a+400:=by
 refine YD.of fun h id hid=>?_
 rw[za6 rfl];simp only[eN,go_sem];simp only[show h.length+4+3=h.length+7 by omega,show h.length+4+1=h.length+5 by omega,show h.length+4+2=h.length+6 by omega]
 refine zjQ (K:=yA 0 _) hid (a0:=a) hp (J:=.own (h.length+5) 0 0 0) (P:=.own (h.length+6) 0 0 0) (jr:=.row (some 3) [] 0) (pr:=.row (some 2) [] 0) fun M R X a2 z hM hD hX h1 h2=>?_
 simp only[go_sem];exact zjP hid (by unfold sA at *;omega) h1 h2 hM hX hD _ rfl rfl rfl
theorem yX {b:Brd}(E:BrdE b):BrdOk b:=by
 refine⟨⟨by have:=E.p;omega,fun p hp=>⟨by have:=(E.e p hp).2.1;omega,fun c hc=>by have:=(E.e p hp).2.2 c hc;omega⟩⟩,⟨E.j,fun j hj=>by have:=E.n j hj;omega⟩,by have:=E.l;omega,fun p hp=>by have:=(E.e p hp).1;omega⟩
end Go.Am
end
section
/- The reference: a board's fault,the joins' order. -/
open Go
set_option linter.all false
set_option maxRecDepth 100000
namespace Go.Am
variable {h:aA} {K:mA}
attribute [-go_sem] kB BB YB XB
attribute [-go_sem] qI cG rI dG sI eG
theorem zjX {K:Ex→St→Prop}(b:Brd)(ho:BrdOk b)(hq:∀ p∈b.parts,∀ c∈p.cells,YC c=GB c)(env:List (Nat × AV))(b1:bA env 1 = .ref h.length 0)(v:Int)
 (hv:(if UD b≠0 then UD b else if(100:Int)<(jB b).length then 2 else DE (jB b) none b.pulls)=v)
 (fin:∀H,K .ret ⟨[(2,AI v)],h++H,[]⟩) :
 NW (kA X) X.gl pL ⟨env,h++[EA b],[]⟩ K:=by
 rw[sI];have ln:(b.joins.map Jon.pv).length=b.joins.length:=List.length_map ..
 have hj:=ho.j
 have hl:=hj.l
 have h1000:¬(1000:Int)<b.joins.length:=by omega
 unfold UD at hv;simp only[if_neg h1000]at hv;unfold EA;simp only[eG,b1,go_sem,ln,h1000];refine UA (fun k:Nat=>⟨[(1,.ref h.length 0),(48,.p (.sl (some 3) (b.joins.map Jon.pv))),(49,AI b.joins.length),(50,AI k)],h++[EA b],[]⟩) (fun k=>k≤b.joins.length∧PC b (b.joins.take k).getLast? (b.joins.drop k)=PC b none b.joins) (fun k=>b.joins.length-k) 0 rfl ⟨by omega,rfl⟩ ?_
 rintro k ⟨hk,hp⟩
 have cT:∀A B:Prop,oA (AB true) A B=A:=fun _ _=>rfl
 have cF:∀A B:Prop,oA (AB false) A B=B:=fun _ _=>rfl
 have eT:oUn .not (AB false)=some (AB true):=rfl
 have eF:oUn .not (AB true)=some (AB false):=rfl
 have stop:∀z,z≠0→z=PC b none b.joins→v=z:=fun z hz e=>by
  subst e;rw[←hv];simp only[hz,ne_eq,not_false_eq_true,if_true]
 rcases Nat.lt_or_ge k b.joins.length with hlt|hge
 ·have g:=dB Jon.pv hlt
  have c1:IA (some 3) 0 b.joins[k].pv=some b.joins[k].pv:=rfl
  have w2:IntKind.i64.wrap ((k:Int)+1)=((k+1:Nat):Int):=FA _ (by omega) (by omega)
  rw[List.drop_eq_getElem_cons hlt,OS]at hp;have lg:(b.joins.take (k+1)).getLast?=some b.joins[k]:=by rw[gF (by omega),List.getElem?_eq_getElem hlt]
  have hx:=hj.n _ (List.getElem_mem hlt)
  have KY:=fun h K=>CU (h:=h) (K:=K) b.joins[k].net (by omega)
  have PN:=fun h K=>zk1 (h:=h) (K:=K) b b.joins[k].part b.joins[k].pin hq ho.c
  have BN:=fun(y:Jon) h K=>z38 (h:=h) (K:=K) y b.joins[k]
  generalize hxx:b.joins[k]=x at *;simp only[Jon.pv]at g c1;simp only[Brd.pv]at PN;unfold EA;have el:eA .lss (.p (.int .i64 (k:Int))) (.p (.int .i64 (b.joins.length:Int)))=some (AB true):=by simp only[go_sem,hlt]
  cases hkey:xB x.net with
  | false=>
   rw[hkey,if_pos rfl]at hp;rw[hkey]at KY;have:=stop 5 (by omega) hp
   subst this;cases k with
   | zero=>
    have ez:eA .gtr (.p (.int .i64 0)) (.p (.int .i64 0))=some (AB false):=rfl
    have hlt0:(0:Int)<b.joins.length:=by omega
    have el0:eA .lss (.p (.int .i64 0)) (.p (.int .i64 (b.joins.length:Int)))=some (AB true):=el
    simp only[go_sem,↓el,↓el0,show((0:Nat):Int)=0 from rfl,hlt,g,c1,↓KY,KY,↓eT,↓eF,↓cT,↓cF,↓ez,ez,Int.lt_irrefl,hlt0]
    exact fin _
   | succ m=>
    have ez:eA .gtr (.p (.int .i64 ((m+1:Nat):Int))) (.p (.int .i64 0))=some (AB true):=by simp only[go_sem,show(0:Int)<((m+1:Nat):Int) by omega]
    simp only[go_sem,↓el,hlt,g,c1,↓KY,KY,↓eT,↓eF,↓cT,↓cF,↓ez,ez,show(0:Int)<((m+1:Nat):Int) by omega]
    exact fin _
  | true=>
   rw[hkey,if_neg (by simp)]at hp
   rw[hkey]at KY;cases hpin:LF b x.part x.pin with
   | false=>
    rw[hpin,if_pos rfl]at hp;rw[hpin]at PN;have:=stop 8 (by omega) hp
    subst this;cases k with
    | zero=>
     have ez:eA .gtr (.p (.int .i64 0)) (.p (.int .i64 0))=some (AB false):=rfl
     have hlt0:(0:Int)<b.joins.length:=by omega
     have el0:eA .lss (.p (.int .i64 0)) (.p (.int .i64 (b.joins.length:Int)))=some (AB true):=el
     simp only[go_sem,↓el,↓el0,show((0:Nat):Int)=0 from rfl,hlt,g,c1,↓KY,KY,↓eT,↓eF,↓cT,↓cF,↓ez,ez,Int.lt_irrefl,hlt0,↓PN,PN]
     exact fin _
    | succ m=>
     have ez:eA .gtr (.p (.int .i64 ((m+1:Nat):Int))) (.p (.int .i64 0))=some (AB true):=by simp only[go_sem,show(0:Int)<((m+1:Nat):Int) by omega]
     simp only[go_sem,↓el,hlt,g,c1,↓KY,KY,↓eT,↓eF,↓cT,↓cF,↓ez,ez,show(0:Int)<((m+1:Nat):Int) by omega,↓PN,PN]
     exact fin _
   | true=>
    rw[hpin,if_neg (by simp)]at hp
    rw[hpin]at PN;cases k with
    | zero=>
     rw[List.take_zero,List.getLast?_nil,if_neg (by simp)]at hp
     have hlt0:(0:Int)<b.joins.length:=by omega
     have ez:eA .gtr (.p (.int .i64 0)) (.p (.int .i64 0))=some (AB false):=rfl
     have el0:eA .lss (.p (.int .i64 0)) (.p (.int .i64 (b.joins.length:Int)))=some (AB true):=el
     simp only[go_sem,↓el,↓el0,show((0:Nat):Int)=0 from rfl,hlt,hlt0,↓ez,ez,g,c1,↓KY,KY,↓eT,↓eF,↓cT,↓cF,↓PN,PN,Int.lt_irrefl,show((0:Nat):Int)=0 from rfl,show IntKind.i64.wrap 1=1 from rfl]
     refine⟨1,rfl,⟨by omega,?_⟩,by omega⟩
     rw[lg];exact hp
    | succ m=>
     have hm:m<b.joins.length:=by omega
     have gm:=dB Jon.pv hm
     have cm:IA (some 3) 0 b.joins[m].pv=some b.joins[m].pv:=rfl
     have wm:IntKind.i64.wrap (((m+1:Nat):Int)-1)=(m:Int):=by rw[FA _ (by omega) (by omega)];omega
     have p1:(0:Int)<((m+1:Nat):Int):=by omega
     have ez:eA .gtr (.p (.int .i64 ((m+1:Nat):Int))) (.p (.int .i64 0))=some (AB true):=by simp only[go_sem,p1]
     rw[gF (by omega),List.getElem?_eq_getElem hm]at hp
     generalize b.joins[m]=y at *;have BN':=BN y
     have c0:IA none 0 y.pv=some (.str y.net):=rfl
     have c01:IA none 1 y.pv=some (.str y.part):=rfl
     have c02:IA none 2 y.pv=some (.str y.pin):=rfl
     simp only[Jon.pv]at gm cm c0 c01 c02;have jn:=zfC x y
     by_cases hc:nB x y≤0
     ·rw[if_pos (by simp [hc])]at hp
      have hc2:(0≤nB y x)=True:=eq_true (jn.1 hc)
      have:=stop 7 (by omega) hp
      subst this;simp only[go_sem,↓el,hlt,g,c1,↓KY,KY,↓eT,↓eF,↓cT,↓cF,↓PN,PN,↓ez,ez,show(0:Int)<((m+1:Nat):Int) by omega,p1,wm,hm,gm,cm,c0,c01,c02,↓BN',BN',hc2]
      exact fin _
     ·rw[if_neg (by simp [hc])]at hp
      have hc2:(0≤nB y x)=False:=eq_false (fun z=>hc (jn.2 z))
      simp only[go_sem,↓el,hlt,g,c1,↓KY,KY,↓eT,↓eF,↓cT,↓cF,↓PN,PN,↓ez,ez,show(0:Int)<((m+1:Nat):Int) by omega,p1,wm,hm,gm,cm,c0,c01,c02,↓BN',BN',hc2,w2]
      refine⟨m+1+1,rfl,⟨by omega,?_⟩,by omega⟩
      rw[lg];exact hp
 ·have e:k=b.joins.length:=by omega
  subst e;rw[List.drop_length]at hp;have z:PC b none b.joins=0:=hp.symm
  simp only[go_sem,Nat.lt_irrefl];refine zjW b ho (zfI z) (zfG z) _ rfl v ?_ fin;rw[←hv];simp only[z,ne_eq,not_true_eq_false,if_false];cases twJ [] b.joins <;> simp
theorem zjZ (b:Brd)(ho:BrdOk b):kA X EI [.p b.pv] h K=K (AI (wD b)) h []:=by
 refine JA ?_;rw[zaG rfl];have ln:(b.parts.map Prt.pv).length=b.parts.length:=List.length_map ..
 unfold wD;by_cases h40:(40:Int)<b.parts.length
 ·rw[if_pos h40]
  simp only[zK,Brd.pv,go_sem,ln,h40]
 rw[if_neg h40];simp only[zK,Brd.pv,go_sem,ln,h40];refine UA (fun k:Nat=>⟨[(1,.ref h.length 0),(3,AS (tH (b.parts.take k))),(19,SC b.parts),(20,AI b.parts.length),(21,AI k)],h++[EA b],[]⟩) (fun k=>k≤b.parts.length∧iC (b.parts.take k).getLast? (b.parts.drop k)=iC none b.parts) (fun k=>b.parts.length-k) 0 rfl ⟨by omega,rfl⟩ ?_
 rintro k ⟨hk,hp⟩
 unfold EA;rcases Nat.lt_or_ge k b.parts.length with hlt|hge
 ·have g:=dB Prt.pv hlt
  have c1:IA (some 2) 0 b.parts[k].pv=some b.parts[k].pv:=rfl
  have w2:IntKind.i64.wrap ((k:Int)+1)=((k+1:Nat):Int):=FA _ (by omega) (by omega)
  rw[List.drop_eq_getElem_cons hlt,bU]at hp;have lg:(b.parts.take (k+1)).getLast?=some b.parts[k]:=by rw[gF (by omega),List.getElem?_eq_getElem hlt]
  have lk2:tH (b.parts.take (k+1))=b.parts[k].key:=by unfold tH;rw[lg];rfl
  have xm:=List.getElem_mem hlt
  generalize hxx:b.parts[k]=x at *;have KY:=fun h K=>CU (h:=h) (K:=K) x.key (by have:=ho.k x xm;omega)
  have CF:=fun h K=>zk6 (h:=h) (K:=K) x (FM ho.c xm).1 (FM ho.c xm).2
  simp only[Prt.pv]at g c1 CF;cases hkey:xB x.key with
  | false=>
   rw[hkey,if_pos rfl]at hp;rw[hkey]at KY;rw[←hp];simp only[go_sem,hlt,g,c1,↓KY,KY]
  | true=>
   have xne:=z2n hkey
   rw[hkey,if_neg (by simp)]at hp
   rw[hkey]at KY;replace hp:(if decide (rA x.key (tH (b.parts.take k))≤0)=true then 7 else if zC x.cells≠0 then zC x.cells else iC (some x) (b.parts.drop (k+1)))=iC none b.parts:=by
    unfold tH;cases hgl:(b.parts.take k).getLast? with
    | none=>
     rw[hgl]at hp;rw[show decide (rA x.key ((Option.map Prt.key none).getD [])≤0)=false from decide_eq_false (cY xne)]
     exact hp
    | some q=>rw[hgl]at hp;exact hp
   have le:=bO x.key (tH (b.parts.take k))
   generalize tH (b.parts.take k)=la at *;by_cases hc:rA x.key la≤0
   ·rw[if_pos (by simp [hc])]at hp
    rw[←hp];simp only[go_sem,hlt,g,c1,↓KY,KY,le,hc]
   ·rw[if_neg (by simp [hc])]at hp
    generalize hz:zC x.cells=z at *;by_cases q:z=0
    ·rw[if_neg (by simp [q])]at hp
     subst q;simp only[go_sem,hlt,g,c1,↓KY,KY,le,hc,↓CF,CF,w2];refine⟨k+1,?_,⟨by omega,?_⟩,by omega⟩
     ·rw[lk2]
     ·rw[lg];exact hp
    ·rw[if_pos q]at hp
     rw[←hp,if_pos q];have e12:eA .neq (.p (.int .i64 z)) (.p (.int .i64 0))=some (AB true):=by simp only[go_sem,q]
     simp only[go_sem,hlt,g,c1,↓KY,KY,le,hc,↓CF,CF,↓e12]
 ·have e:k=b.parts.length:=by omega
  subst e;rw[List.drop_length]at hp;have z:iC none b.parts=0:=hp.symm
  rw[if_neg (by simp [z])]
  simp only[go_sem,Nat.lt_irrefl];refine zjX b ho (zjf z) _ rfl _ rfl (fun H=>?_)
  simp only[go_sem]
end Go.Am
end
section
/- What is drawn: a board that is right. -/
open Go
set_option linter.all false
set_option maxRecDepth 100000
namespace Go.Am
variable {L:List Int} {a:Int} {h l:aA} {id:Nat} {K:mA}
attribute [-go_sem] kB BB YB XB
attribute [-go_sem] gS kN
def brdU:Brd:=⟨[⟨[117],[]⟩],[],[]⟩
theorem z9Z:wD brdU=0:=by decide
theorem zaa:BrdE brdU:=by
 refine⟨by decide,fun p hp=>?_,by decide,fun j hj=>(by cases hj),by decide⟩
 simp [brdU]at hp;subst hp;exact⟨by decide,by decide,fun c hc=>(by cases hc)⟩
theorem z3q {b:Nat}{P:mA}{x:PV}{h:aA}:GD false b P (some [.agg [.p x,.sl0 (some 3),.sl0 (some 2)]]) h []=P (.p (.agg [x,.sl (some 3) [],.sl (some 2) []])) (h.take b) []:=by
 rw[z3p];have e:∀n,SA n h (bB [.agg [.p x,.sl0 (some 3),.sl0 (some 2)]])=some (.p (.agg [x,.sl (some 3) [],.sl (some 2) []])):=fun n=>rfl
 rw[e];dsimp only;rw[e];dsimp only;rw[show(AV.p (.agg [x,.sl (some 3) [],.sl (some 2) []])).top=0 from rfl]
 simp
theorem zeC {n:Nat}{x:PV}:RB n (AV.agg [.p x,.sl0 (some 3),.sl0 (some 2)])=[]:=if_neg (by simp [AV.top,AV.tops])
theorem zff (hp:sA 20000 a):YD DI [] L a (fun v a2=>∃b,BrdE b∧wD b=0∧v = .p b.pv∧a≤a2∧a2≤a+2400):=by
 refine YD.of fun h id hid=>?_
 rw[zaC rfl];simp only[jN,go_sem,hid];have i1:id≤h.length:=by omega
 refine UA (fun t:Nat×Int=>⟨[(0,.ref id 0),(2,.ref h.length 0),(4,AI t.1)],h.set id (vA L t.2)++[.box [.sl0 (some 2),.sl0 (some 3),.sl0 (some 2)]],[]⟩) (fun t=>t.1≤6∧a≤t.2∧t.2≤a+400*t.1) (fun t=>6-t.1) (0,a) rfl ⟨by simp,by simp,by simp⟩ ?_
 rintro⟨k,b⟩ ⟨h1,h2,h3⟩
 dsimp only at h1 h2 h3 ⊢;rcases Nat.lt_or_ge k 6 with hlt|hge
 ·have hk:(k:Int)<6:=by omega
  have w1:IntKind.i64.wrap ((k:Int)+1)=((k+1:Nat):Int):=FA _ (by omega) (by omega)
  obtain⟨_,a2,⟨x,E,rfl,c1,c2⟩,V⟩:=(zfe (L:=L) (a:=b) (zjp hp h2 (by omega))).app (h:=h) (l:=[.box [.sl0 (some 2),.sl0 (some 3),.sl0 (some 2)]]) hid
  have F:=fun h K=>zjZ (h:=h) (K:=K) x (yX E)
  simp only[Brd.pv]at V F;by_cases hf:wD x=0
  ·have hf':=eq_true hf
   simp only[go_sem,hid,hk,↓V,V,↓F,F,hf,i1];exact⟨a2,⟨x,E,hf,rfl,by omega,by omega⟩,rfl⟩
  ·simp only[go_sem,hid,hk,↓V,V,↓F,F,hf,w1,i1]
   exact⟨(k+1,a2),rfl,⟨by dsimp only;omega,by dsimp only;omega,by dsimp only;omega⟩,by dsimp only;omega⟩
 ·have hk:¬(k:Int)<6:=by omega
  simp only[go_sem,hid,hk,i1];rw[gS];simp only[kN,go_sem,zeC,↓z3q,z3q];exact⟨b,⟨brdU,zaa,z9Z,rfl,by omega,by omega⟩,rfl⟩
end Go.Am
end
section
/- A whole number asv a map's value. -/
open Go
namespace Go.Am
def TD (n:Int):AV:=.p (.int .i64 n)
abbrev pF (bits:List (List UInt8)):AV:=.p (.sl none (bits.map PV.str))
end Go.Am
end
section
/- Lists of faults: what is wrong with them,both ways. -/
open Go
set_option linter.all false
namespace Go.Am
variable {h:aA} {K:mA}
end Go.Am
end
section
/- Rows of a test asv numbers. -/
open Go
set_option linter.all false
namespace Go.Am
variable {h:aA} {K:mA}
end Go.Am
end
section
/- Faults on rows: what the program makes of them. -/
open Go
set_option linter.all false
namespace Go.Am
variable {h:aA} {K:mA}
end Go.Am
end
section
/- Rows that are handed tov a function: it sees their values. -/
open Go
namespace Go.Am
end Go.Am
end
section
/- Responses,asv the program computes them. -/
open Go
set_option linter.all false
namespace Go.Am
variable {h:aA} {K:mA}
end Go.Am
end
section
/- Sorting the middle of a row: printed by program. -/
open Go
set_option linter.unusedSimpArgs false
namespace Go.Am
attribute [-go_sem] PV.cells splice
variable {h:aA} {K:mA}
end Go.Am
end
section
/- What is drawn: orders,tests. -/
open Go
set_option linter.all false
namespace Go.Am
variable {L:List Int} {a:Int} {h l:aA} {id:Nat} {K:mA}
def GenK (f:Nat)(args:List AV)(L:List Int)(a:Int)(sh:Sh)(Q:List PV→Int→Prop):Prop:=∀(h:aA) (id:Nat),h[id]?=some (vA L a)→∃xs a2,Q xs a2∧∀K:mA,kA X f (.ref id 0::args) h K=K (.own h.length xs.length 0 xs.length) (h.set id (vA L a2)++[.row sh xs 0]) []
theorem GenK.of {f:Nat}{args:List AV}{L:List Int}{a:Int}{sh:Sh}{Q:List PV→Int→Prop}(H:∀ (h:aA) (id:Nat),id<h.length→kA X f (.ref id 0::args) (h.set id (vA L a)) fun v1 h1 x1=>∃ xs a2,Q xs a2∧v1 = .own h.length xs.length 0 xs.length∧h1=h.set id (vA L a2)++[.row sh xs 0]∧x1=[]):GenK f args L a sh Q:=by
 intro h id hh;have hid:=WB hh
 have k:=H h id hid
 rw[UJ hh]at k;obtain⟨v,h',x,⟨xs,a2,q,e0,e1,e2⟩,r⟩:=kA.one cK k;subst e0;subst e1;subst e2
 exact⟨xs,a2,q,r⟩
theorem zkk (s:List UInt8)(c:Int)(h0:0≤c)(hc:s.length*c.toNat≤1000000)(h1:c≤1000000):kA X TI [AS s,AI c] h K=K (AS (BG s c.toNat)) h []:=by
 refine z2u (X:=X) (by kernel_rfl) ?_
 rw[X_ex2];show vH GRL PRL TI [AS s,AI c] h=some (AS (BG s c.toNat),h,[])
 exact zgL (vs:=[.str s,.int .i64 c]) (by kernel_rfl) (s:=PJ) (by kernel_rfl) rfl (by simp only[PJ];rw[if_pos ⟨h0,hc,h1⟩])
end Go.Am
end
