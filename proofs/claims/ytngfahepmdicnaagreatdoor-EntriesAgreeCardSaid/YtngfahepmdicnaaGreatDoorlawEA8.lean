/- Texts of the proof, laid together: SpMrgC, SpMrgD, PFin, SpTxt, AmL4, AmL5, SpSplit, SpLines, SpNum, SpNums, SpQNum, SpFlt1, SpFlt2, SpWords, SpJoin, SpBld, PBits, SpFlt3, SpFlt4, SpFlt5, SpFlt6, SpFltT, SpSortO, SpGenF, SpChg, SpEnt6, SpEach, SpFltR, SpFltR2, SpFltR3, SpGenA2, SpDelF, SpGenF2, SpInts, SpFltE, SpEnt7, SpEnt8, SpEnt9, PRecT, SpRecT, SpRecT2, SpRecT3, SpRecT4, SpRecT5, SpEnt10, SpEnt11, SpEnt12, SpEnt13, SpFlo2, SpFlo3, SpFlo4, SpFlo5, SpFlo6, SpFlo7, SpFlo8, SpFlo9, SpFlo10, SpFlo11, PUnd, PEMrg, PEMrg2, SpEAg1, SpStnd, SpLawET, SpEAg2, PEntB, AmK, SpRun, SpCts, SpSortN, PBusy, SpBusy, SpWtg, PBoo, PRefQ. -/
import Derived.Shelf.Strings.Repeat
import Derived.Shelf.Strings.SlTrimAscii
import Derived.Shelf.Spec.TrailingZeros
import Derived.Shelf.Strings.Count
import Derived.Shelf.Strings.OnBuilder
import Derived.KernelRfl
import Derived.Test.YtngfahepmdicnaaGreatDoorlawEA7
set_option linter.all false
section
/- Lists of records joined,compared,tB. -/
open Go
set_option linter.unusedSimpArgs false
namespace Go.Am
variable {h:aA} {K:kA}
instance:DecidableEq Rec:=fun a b=>decidable_of_iff (z0y a b=true) (zmz a b)
end Go.Am
end
section
/- Records tB asv the reference does it. -/
open Go
set_option linter.unusedSimpArgs false
namespace Go.Am
variable {h:aA} {K:kA}
end Go.Am
end
section
/- Retests: which record of a unit counts. Plain lists;yD ways yield the same. -/
set_option linter.all false
namespace Go.Am
end Go.Am
end
section
/- Lists of strings. -/
open Go
set_option linter.all false
namespace Go.Am
variable {h:aA} {K:kA}
abbrev tE (us:List (List UInt8)):AV:=.p (.sl none (us.map PV.str))
theorem znf {us:List (List UInt8)}:LC none (us.map PV.str):=fun x hx=>by obtain⟨n,_,rfl⟩:=List.mem_map.1 hx;rfl
end Go.Am
end
section
/- The abstract machine,part L4: strings.Repeat,strings.Trim,math/bits.TrailingZeros64 asv rows. -/
set_option linter.all false
namespace Go.Am
variable {P:Program} {gl:Nat→Option PV}
open Go.Shelf
theorem z9z {w w':World}(h:Go.RowKit.Below w.heap.size w w'):WExt w w':=⟨h.size,fun b hb=>h.block b hb,by unfold zed;rw[h.os,h.tape,h.output]⟩
theorem zhv (s cs:List UInt8):Go.Lib.trimS s cs=z6Q s cs:=rfl
theorem trimRow {ρ:Ren}(L:Go.Proofs.Lays.n160 P ρ)(h116:(P.info? (ρ.t 116)).map (fun i=>(i.zero,i.size))=some (some (.agg (Array.replicate 256 (.bool false))),256))(he:∀ us w,(callFunc (ρ.f 160) us).run P w = .ok (.enter (ρ.f 160) us) w):PureRow P gl (ρ.f 160) trimS where
 enter:=he
 run M w vs r us hc hb hG hl hr hs:=by
  unfold trimS at hs;split at hs
  ·rename_i s cs
   split at hs
   ·rename_i hbd
    match us,hl with
    | [u,v],_=>
     have q:=hr 0 _ u rfl rfl
     cases q;have q2:=hr 1 _ v rfl rfl
     cases q2;simp only[Option.some.injEq]at hs
     subst hs;have hsz:∀l:List UInt8,(⟨l.toArray⟩:ByteArray).size=l.length:=fun l=>by simp [ByteArray.size]
     refine(Go.Proofs.Any.strings_Trim_laid L h116 ⟨s.toArray⟩ ⟨cs.toArray⟩ w (by rw[hsz];omega) (by rw[hsz];omega) (Go.Proofs.ascii_of_all hbd.2.2)).mono fun e w' h=>?_
     obtain⟨rfl,h⟩:=h;exact⟨_,rfl,z9z h,by rw[←zhv];exact .p _ _ (.str _)⟩
   ·cases hs
  ·cases hs
end Go.Am
end
section
/- The abstract machine,part L5: strings.Count at one byte,strings.Join asv rows. -/
set_option linter.all false
namespace Go.Am
variable {P:Program} {gl:Nat→Option PV}
open Go.Shelf
theorem countRow {ρ:Ren}(L:Go.Proofs.Lays.n138 P ρ)(he:∀ us w,(callFunc (ρ.f 138) us).run P w = .ok (.enter (ρ.f 138) us) w):PureRow P gl (ρ.f 138) TI where
 enter:=he
 run M w vs r us hc hb hG hl hr hs:=by
  unfold TI at hs;split at hs
  ·rename_i s c
   match us,hl with
   | [u,v],_=>
    have q:=hr 0 _ u rfl rfl
    cases q;have q2:=hr 1 _ v rfl rfl
    cases q2;simp only[Option.some.injEq]at hs
    subst hs;refine(Go.Proofs.Any.strings_Count_one L ⟨s.toArray⟩ c w).mono fun e w' h=>?_
    obtain⟨rfl,rfl⟩:=h;exact⟨_,rfl,WExt.refl _,.p _ _ (.int _ _)⟩
  ·cases hs
end Go.Am
end
section
/- Texts split at a byte. -/
open Go
set_option linter.all false
namespace Go.Am
variable {h:aA} {K:kA}
theorem zlL (s:List UInt8)(c:UInt8):bA X xM [AS s,AS [c]] h K=K (AI (s.count c)) h []:=by
 refine SM (X:=X) (by kernel_rfl) ?_
 first
  | exact wQ (vs:=[.str s,.str [c]]) (by kernel_rfl) (s:=TI) (by kernel_rfl) rfl rfl
  | (show mE GRL PRL xM [AS s,AS [c]] h=some (AI (s.count c),h,[]);exact wQ (vs:=[.str s,.str [c]]) (by kernel_rfl) (s:=TI) (by kernel_rfl) rfl rfl)
theorem zmu (s:List UInt8)(c:UInt8)(hs:s.length≤1000000):bA X ZL [AS s,AS [c]] h K=K (AI (QC s c)) h []:=by
 refine xA ?_;rw[zai rfl];have q:=fun h K=>zmt (h:=h) (K:=K) s c
 simp only[SO,go_sem,↓q,q,List.length_cons,List.length_nil];split
 ·rename_i h1;subst h1;simp [QC]
 ·trivial
theorem zlX (s:List UInt8)(c:UInt8)(hs:s.length≤1000000):bA X zM [AS s,AS [c]] h K=K (AI (QC s c)) h []:=by
 refine xA ?_;rw[zaZ rfl];have q:=fun h K=>zmu (h:=h) (K:=K) s c hs
 simp only[DP,go_sem,↓q,q]
theorem zm8 {α:Type}(a:List α)(x y:α)(b:List α):(a++x::b).set a.length y=a++y::b:=by simp
def ID (c:UInt8)(s:List UInt8)(k:Nat):List PV:=((CA c s).take k).map PV.str++List.replicate (s.count c+1-k) (.str [])
theorem zmH (c:UInt8)(s:List UInt8)(k:Nat)(hk:k≤s.count c+1):(ID c s k).length=s.count c+1:=by
 unfold ID;have:=mG c s;simp;omega
theorem z6D (c:UInt8)(s:List UInt8)(k:Nat)(hk:k<s.count c+1)(p:List UInt8)(hp:(CA c s)[k]?=some p):(ID c s k).set k (.str p)=ID c s (k+1):=by
 have hl:=mG c s
 have e:((CA c s).take k).map PV.str=((CA c s).take k).map PV.str:=rfl
 have el:(((CA c s).take k).map PV.str).length=k:=by simp;omega
 unfold ID;rw[show s.count c+1-k=(s.count c+1-(k+1))+1 by omega,List.replicate_succ]
 conv=>lhs;arg 2;rw[←el]
 rw[zm8,List.take_succ,hp];simp
theorem z6C (c:UInt8)(s:List UInt8)(k:Nat)(hk:k<s.count c+1):(ID c s k)[k]?=some (.str []):=by
 have hl:=mG c s
 unfold ID;rw[List.getElem?_append_right (by simp;omega)]
 rw[List.getElem?_replicate,if_pos (by simp;omega)]
theorem zmG (c:UInt8)(s:List UInt8):ID c s (s.count c+1)=(CA c s).map PV.str:=by
 have hl:=mG c s
 unfold ID;rw[List.take_of_length_le (by omega),Nat.sub_self]
 simp
attribute [-go_sem] sX
theorem zmj (s:List UInt8)(c:UInt8)(hs:s.length≤1000000):bA X CM [AS s,AS [c],AI 0,AI (-1)] h K=K (tE (CA c s)) h []:=by
 refine xA ?_;rw[zbd rfl];have ec:=fun h K=>zlL (h:=h) (K:=K) s c
 have hcl:s.count c≤s.length:=List.count_le_length
 have w1:IntKind.i64.wrap ((s.count c:Int)+1)=((s.count c+1:Nat):Int):=nA _ (by omega) (by omega)
 simp only[HP,go_sem,↓ec,ec,w1];rw[sX];have w2:IntKind.i64.wrap ((s.length:Int)+1)=((s.length+1:Nat):Int):=nA _ (by omega) (by omega)
 have w3:min ((s.count c+1:Nat):Int) ((s.length+1:Nat):Int)=((s.count c+1:Nat):Int):=by omega
 have w4:IntKind.i64.wrap (((s.count c+1:Nat):Int)-1)=(s.count c:Int):=by rw[nA _ (by omega) (by omega)];omega
 have hm:s.count c+1≤UA:=by unfold UA;omega
 simp only[IP,go_sem,w2,w3,w4,hm];have row0:List.replicate (s.count c+1) (PV.str [])=ID c s 0:=by simp [ID]
 rw[row0];refine NA (fun k:Nat=>⟨[(0,AS (oC c k s)),(1,AS [c]),(2,AI 0),(3,AI (s.count c)),(9,.own h.length (s.count c+1) 0 (s.count c+1)),(10,AI k)],h++[.row none (ID c s k) 0],[]⟩) (fun k=>k≤s.count c) (fun k=>s.count c-k) 0 rfl (by omega) ?_
 intro k hk;obtain⟨r1,r2,r3⟩:=z5P c k s hk;have hrl:=zmH c s k (by omega)
 have hsl:=mG c s
 rcases Nat.lt_or_ge k (s.count c) with hlt|hge
 ·obtain⟨a,b,hab,ha⟩:=z2e (c:=c) (s:=oC c k s) (List.count_pos_iff.1 (by omega))
  have hi:=fun h K=>zlX (h:=h) (K:=K) (oC c k s) c (by omega)
  have hix:QC (oC c k s) c=(a.length:Int):=by rw[hab];exact zfX a b c ha
  rw[hix]at hi;have hnext:oC c (k+1) s=b:=by rw[z5Q,hab,z2x ha]
  have hrl2:(oC c k s).length=a.length+(b.length+1):=by rw[hab];simp
  have g1:(CA c s)[k]?=some a:=by
   have:=congrArg (fun l=>l[0]?) r1
   simp only[List.getElem?_drop,Nat.add_zero]at this;rw[←this,hab,IF ha];rfl
  have W1:win (oC c k s) 0 a.length=a:=by rw[hab];unfold win;simp
  have W2:win (oC c k s) (a.length+1) ((oC c k s).length-(a.length+1))=b:=by
   rw[hab];unfold win
   rw[show a++c::b=(a++[c])++b by simp,List.drop_left' (by simp)]
   exact List.take_of_length_le (by simp;omega)
  have hp:¬(a.length:Int)<0:=by omega
  have wa:IntKind.i64.wrap ((a.length:Int)+0)=(a.length:Int):=by rw[Int.add_zero];exact nA _ (by omega) (by omega)
  have wb:IntKind.i64.wrap ((a.length:Int)+1)=((a.length+1:Nat):Int):=nA _ (by omega) (by omega)
  have wk:IntKind.i64.wrap ((k:Int)+1)=((k+1:Nat):Int):=nA _ (by omega) (by omega)
  have hlt':(k:Int)<(s.count c:Int):=by omega
  have hse:=z6D c s k (by omega) a g1
  have st:=fun h1=>rE (sh:=none) (x:=.str a) (y:=.str []) rfl rfl h.length k 0 (ID c s k) h1
  have c1:a.length≤(oC c k s).length:=by omega
  have c2:a.length+1≤(oC c k s).length:=by omega
  have c3:k<s.count c+1:=by omega
  simp only[go_sem,hlt',hi,↓hi,hp,wa,wb,wk,hrl,W1,W2,z6C c s k c3,st,hse,c1,c2,c3];exact⟨k+1,by rw[hnext],by omega,by omega⟩
 ·have hk':k=s.count c:=by omega
  have hlt':¬(k:Int)<(s.count c:Int):=by omega
  have st:=fun h1=>rE (sh:=none) (x:=.str (oC c k s)) (y:=.str []) rfl rfl h.length k 0 (ID c s k) h1
  have c3:k<s.count c+1:=by omega
  have wk:IntKind.i64.wrap ((k:Int)+1)=((k+1:Nat):Int):=nA _ (by omega) (by omega)
  have g1:(CA c s)[k]?=some (oC c k s):=by
   have:=congrArg (fun l=>l[0]?) r1
   simp only[List.getElem?_drop,Nat.add_zero]at this;rw[←this,LN (List.count_eq_zero.1 (by omega))]
   rfl
  have hse:(ID c s k).set k (.str (oC c k s))=(CA c s).map PV.str:=by
   rw[z6D c s k c3 _ g1,hk',zmG]
  have c4:k+1=s.count c+1:=by omega
  have hwin:win ((CA c s).map PV.str) 0 (s.count c+1)=(CA c s).map PV.str:=by unfold win;rw[List.drop_zero,List.take_of_length_le (by simp;omega)]
  have hml:((CA c s).map PV.str).length=s.count c+1:=by simp [hsl]
  simp only[go_sem,hlt',hrl,z6C c s k c3,st,hse,c3,wk,hml,c4,hwin]
theorem z6u (s:List UInt8)(c:UInt8)(hs:s.length≤1000000):bA X xJ [AS s,AS [c]] h K=K (tE (CA c s)) h []:=by
 refine xA ?_;rw[zbb rfl];have q:=fun h K=>zmj (h:=h) (K:=K) s c hs
 simp only[FP,go_sem,↓q,q]
theorem zmr (s p:List UInt8)(hs:s.length≤1000000)(hp:p.length≤1000000):bA X XL [AS s,AS p] h K=K (AB (decide (s.take p.length=p))) h []:=by
 refine xA ?_;rw[zag rfl];by_cases h1:p.length≤s.length
 ·have h1':(p.length:Int)≤(s.length:Int):=by omega
  have W:win s 0 p.length=s.take p.length:=by unfold win;simp
  simp only[pL,go_sem,h1',h1,W]
 ·have h1':¬(p.length:Int)≤(s.length:Int):=by omega
  have e:decide (s.take p.length=p)=false:=by
   simp only[decide_eq_false_iff_not];intro e;have:=congrArg List.length e;simp at this;omega
  simp only[pL,go_sem,h1',h1,e]
theorem zma (s p:List UInt8)(hs:s.length≤1000000)(hp:p.length≤1000000):bA X BM [AS s,AS p] h K=K (AS (if s.take p.length=p then s.drop p.length else s)) h []:=by
 refine xA ?_;rw[zbc rfl];have key:∀(h:aA) (K:kA),bA X aM [AS s,AS p] h K=K (AS (if s.take p.length=p then s.drop p.length else s)) h []:=by
  intro h K;refine xA ?_;rw[zaj rfl];have q:=fun h K=>zmr (h:=h) (K:=K) s p hs hp
  by_cases e:s.take p.length=p
  ·have hl:p.length≤s.length:=by
    have:=congrArg List.length e;simp at this;omega
   have W:win s p.length (s.length-p.length)=s.drop p.length:=by unfold win;rw[List.take_of_length_le (by simp)]
   simp only[sL,go_sem,↓q,q,e,decide_true,hl,W]
  ·simp only[sL,go_sem,↓q,q,e,decide_false]
 simp only[GP,go_sem,↓key,key]
end Go.Am
end
section
/- Lines of a text. -/
open Go
set_option linter.all false
namespace Go.Am
variable {h:aA} {K:kA}
theorem zms (s p:List UInt8)(hs:s.length≤1000000)(hp:p.length≤1000000):bA X YL [AS s,AS p] h K=K (AB (decide (p.length≤s.length∧s.drop (s.length-p.length)=p))) h []:=by
 refine xA ?_;rw[zah rfl];by_cases h1:p.length≤s.length
 ·have h1':(p.length:Int)≤(s.length:Int):=by omega
  have w:IntKind.i64.wrap ((s.length:Int)-(p.length:Int))=((s.length-p.length:Nat):Int):=by rw[nA _ (by omega) (by omega)];omega
  have W:win s (s.length-p.length) (s.length-(s.length-p.length))=s.drop (s.length-p.length):=by unfold win;rw[List.take_of_length_le (by simp)]
  have h2:s.length-p.length≤s.length:=by omega
  simp only[qL,go_sem,h1',h1,w,W,h2]
 ·have h1':¬(p.length:Int)≤(s.length:Int):=by omega
  simp only[qL,go_sem,h1',h1]
def fE (s:List UInt8):Bool:=decide (s.getLast?=some 10)
def cE (s:List UInt8):List UInt8:=if fE s then s.dropLast else s
theorem zeY (s:List UInt8):decide (([10]:List UInt8).length≤s.length∧s.drop (s.length-([10]:List UInt8).length)=[10])=fE s:=by
 unfold fE;rw[decide_eq_decide];rcases List.eq_nil_or_concat s with rfl|⟨r,x,rfl⟩
 ·simp
 ·simp
theorem zlN (s:List UInt8)(hs:s.length≤1000000):bA X yM [AS s,AS [10]] h K=K (.tup [AS (cE s),AB (fE s)]) h []:=by
 refine xA ?_;rw[zaY rfl];have key:∀(h:aA) (K:kA),bA X WL [AS s,AS [10]] h K=K (.tup [AS (cE s),AB (fE s)]) h []:=by
  intro h K;refine xA ?_;rw[zaf rfl];have q:=fun h K=>zms (h:=h) (K:=K) s [10] hs (by simp)
  rw[zeY]at q;cases e:fE s with
  | false=>
   have eb:cE s=s:=by unfold cE;rw[e];rfl
   rw[e]at q;simp only[oL,go_sem,↓q,q,eb]
  | true=>
   have eb:cE s=s.dropLast:=by unfold cE;rw[e];rfl
   rw[e]at q;have h1:1≤s.length:=by
    cases s with
    | nil=>simp [fE]at e
    | cons a r=>simp
   have w:IntKind.i64.wrap ((s.length:Int)-1)=((s.length-1:Nat):Int):=by rw[nA _ (by omega) (by omega)];omega
   have W:win s 0 (s.length-1)=s.dropLast:=by unfold win;rw[List.drop_zero,List.dropLast_eq_take]
   have h2:s.length-1≤s.length:=by omega
   simp only[oL,go_sem,↓q,q,eb,List.length_cons,List.length_nil,w,W,h2]
 simp only[CP,go_sem,↓key,key]
def SB (s:List UInt8):List (List UInt8):=if s=[] then [] else CA 10 (cE s)
def IG (s:List UInt8):Bool:=decide (s=[])||fE s
theorem zlY (s:List UInt8)(hs:s.length≤1000000):bA X TL [AS s] h K=K (.tup [tE (SB s),AB (IG s)]) h []:=by
 refine xA ?_;rw[z9W rfl];by_cases h0:s=[]
 ·subst h0
  simp only[mL,go_sem];rfl
 ·have q:=fun h K=>zlN (h:=h) (K:=K) s hs
  have hb:(cE s).length≤1000000:=by
   unfold cE;split
   ·simp;omega
   ·exact hs
  have q2:=fun h K=>z6u (h:=h) (K:=K) (cE s) 10 hb
  have e1:SB s=CA 10 (cE s):=by unfold SB;rw[if_neg h0]
  have e2:IG s=fE s:=by unfold IG;simp [h0]
  simp only[mL,go_sem,h0,↓q,q,↓q2,q2,e1,e2]
end Go.Am
end
section
/- Numbers read. -/
open Go
set_option linter.all false
namespace Go.Am
variable {h:aA} {K:kA}
theorem zlH {s:List UInt8}(h1:OB s≠[])(h2:(OB s).length≤17)(h3:(OB s).all lC=true):bA X uM [AS s] h K=K (.tup [AI (IC s),.nili]) h []:=by
 refine SM (X:=X) (by kernel_rfl) ?_
 first|rw[show X.ex2=mE GRL PRL from rfl]|skip
 exact wQ (vs:=[.str s]) (by kernel_rfl) (s:=uH) rfl rfl (z9v h1 h2 h3)
theorem z5d {K':Ex→St→Prop}(s d:List UInt8)(hd:d.length≤1000000)(h1:d.all lC=false→K' .ret ⟨[(4,AI 0),(5,AB false)],h,[]⟩)
 (h2:d.all lC=true→K' (.exit 0) ⟨[(0,AS s),(6,AS d),(38,AI d.length),(39,AI d.length),(40,AB false)],h,[]⟩) :
 GA (bA X) X.gl tI K' [(0,AS s),(6,AS d),(38,AI d.length),(39,AI 0)] h []:=by
 refine NA (fun k:Nat=>⟨[(0,AS s),(6,AS d),(38,AI d.length),(39,AI k)],h,[]⟩) (fun k=>k≤d.length∧(d.take k).all lC=true) (fun k=>d.length-k) 0 rfl ⟨by omega,by simp⟩ ?_
 rintro k ⟨hk,hp⟩
 rcases Nat.lt_or_ge k d.length with hlt|hge
 ·have hlt':(k:Int)<(d.length:Int):=by omega
  have hg:d[k]?=some d[k]:=List.getElem?_eq_getElem hlt
  have wk:IntKind.i64.wrap ((k:Int)+1)=((k+1:Nat):Int):=nA _ (by omega) (by omega)
  have hnot:lC d[k]=false→d.all lC=false:=fun e=>by
   rw[←Bool.not_eq_true,List.all_eq_true];intro ha;have:=ha d[k] (List.getElem_mem hlt);rw[e]at this;cases this
  by_cases c1:d[k].toNat<48
  ·have c1':(d[k].toNat:Int)<48:=by omega
   have:=h1 (hnot (by simp [lC];omega))
   simp only[go_sem,hlt',hg,c1',this]
  ·have c1':¬(d[k].toNat:Int)<48:=by omega
   by_cases c2:57<d[k].toNat
   ·have c2':(57:Int)<(d[k].toNat:Int):=by omega
    have:=h1 (hnot (by simp [lC];omega))
    simp only[go_sem,hlt',hg,c1',c2',this]
   ·have c2':¬(57:Int)<(d[k].toNat:Int):=by omega
    simp only[go_sem,hlt',hg,c1',c2',wk];refine⟨k+1,rfl,⟨by omega,?_⟩,by omega⟩
    rw[List.take_succ,hg,List.all_append,hp];simp [lC];omega
 ·have hk':k=d.length:=by omega
  have hlt':¬(k:Int)<(d.length:Int):=by omega
  have:=h2 (by rw[←hp,hk',List.take_length])
  subst hk';simp only[go_sem,Nat.lt_irrefl,decide_false,this]
attribute [-go_sem] QP
theorem z6n (s:List UInt8)(dg:Nat)(hd:dg≤17)(hs:s.length≤1000000):bA X jJ [AS s,AI dg] h K=K (.tup [AI (if PB dg s then IC s else 0),AB (PB dg s)]) h []:=by
 refine xA ?_;rw[z9Y rfl];have q:=fun h K=>zma (h:=h) (K:=K) s [45] hs (by simp)
 have eq:(if s.take ([45]:List UInt8).length=[45] then s.drop ([45]:List UInt8).length else s)=OB s:=rfl
 rw[eq]at q;obtain⟨d,hdd⟩:∃d,OB s=d:=⟨_,rfl⟩;have hsl:d.length≤s.length:=by rw[←hdd];unfold OB;split <;> simp
 have nF:PB dg s=(!d.isEmpty&&decide (d.length≤dg) && !(decide (d.head?=some 48)&&(decide (1<d.length)||decide (d.length<s.length)))&&d.all lC):=by unfold PB;rw[hdd]
 rw[hdd]at q;by_cases h0:d=[]
 ·subst h0
  have e:PB dg s=false:=by rw[nF];rfl
  simp only[UF,go_sem,↓q,q,e]
 by_cases h1:dg<d.length
 ·have h1':(dg:Int)<(d.length:Int):=by omega
  have e:PB dg s=false:=by
   have a3:decide (d.length≤dg)=false:=by simpa using h1
   rw[nF,a3];simp
  simp only[UF,go_sem,↓q,q,e,h0,h1']
 have h1':¬(dg:Int)<(d.length:Int):=by omega
 obtain⟨c,r,rfl⟩:∃c r,d=c::r:=by cases d with|nil=>exact absurd rfl h0|cons c r=>exact⟨c,r,rfl⟩
 have h1n:¬dg<r.length+1:=h1
 have h1i:¬(dg:Int)<((r.length+1:Nat):Int):=by omega
 have hl6:(c::r).length≤1000000:=by omega
 have fin:∀(e:PB dg s=(c::r).all lC) (hb:(c::r).all lC=true) (h:aA) (K:kA),bA X uM [AS s] h K=K (.tup [AI (IC s),.nili]) h []:=fun e hb h K=>zlH (by rw[hdd];simp) (by rw[hdd];omega) (by rw[hdd];exact hb)
 by_cases hc:c=48
 ·have hc':(c.toNat:Int)=48:=by subst hc;rfl
  by_cases h3:1<r.length+1
  ·have h3':(1:Int)<((r.length+1:Nat):Int):=by omega
   have e:PB dg s=false:=by
    have a1:decide (1<(c::r).length)=true:=by simpa using h3
    have a4:decide ((c::r).head?=some 48)=true:=by simp [hc]
    rw[nF,a1,a4];simp
   simp only[UF,go_sem,↓q,q,h0,h1',h1n,h1i,hc',h3',e]
  have h3':¬(1:Int)<((r.length+1:Nat):Int):=by omega
  by_cases h4:r.length+1<s.length
  ·have h4':((r.length+1:Nat):Int)<(s.length:Int):=by omega
   have e:PB dg s=false:=by
    have a1:decide ((c::r).length<s.length)=true:=by simpa using h4
    have a4:decide ((c::r).head?=some 48)=true:=by simp [hc]
    rw[nF,a1,a4];simp
   simp only[UF,go_sem,↓q,q,h0,h1',h1n,h1i,hc',h3',h4',e]
  have h4':¬((r.length+1:Nat):Int)<(s.length:Int):=by omega
  have e:PB dg s=(c::r).all lC:=by
   rw[nF];have a1:decide (1<(c::r).length)=false:=by simpa using h3
   have a2:decide ((c::r).length<s.length)=false:=by simpa using h4
   have a3:decide ((c::r).length≤dg)=true:=by simpa using h1n
   rw[a1,a2,a3];simp
  simp only[UF,go_sem,↓q,q,h0,h1',h1n,h1i,hc',h3',h4'];refine z5d s (c::r) hl6 (fun hb=>?_) (fun hb=>?_)
  ·rw[hb]at e
   simp only[go_sem,e]
  ·have ea:=fin e hb
   rw[hb]at e;rw[fL,FN,QP];simp only[nL,go_sem,↓ea,ea,e]
 ·have hc':¬(c.toNat:Int)=48:=by
   intro q;apply hc
   apply UInt8.toNat_inj.1
   exact Int.ofNat_inj.1 q
  have e:PB dg s=(c::r).all lC:=by
   rw[nF];have a3:decide ((c::r).length≤dg)=true:=by simpa using h1n
   rw[a3];simp [hc]
  simp only[UF,go_sem,↓q,q,h0,h1',h1n,h1i,hc'];refine z5d s (c::r) hl6 (fun hb=>?_) (fun hb=>?_)
  ·rw[hb]at e
   simp only[go_sem,e]
  ·have ea:=fin e hb
   rw[hb]at e;rw[fL,FN,QP];simp only[nL,go_sem,↓ea,ea,e]
end Go.Am
end
section
/- Several numbers read. -/
open Go
set_option linter.all false
namespace Go.Am
variable {h:aA} {K:kA}
attribute [-go_sem] lX
theorem zlZ (ws:List (List UInt8))(dg:Nat)(hd:dg≤17)(hs:∀ s∈ws,s.length≤1000000)(hl:ws.length≤1000000):bA X UL [tE ws,AI dg] h K=K (.tup [AL (if ws.all (PB dg) then ws.map IC else []),AB (ws.all (PB dg))]) h []:=by
 refine xA ?_;rw[z9Z rfl];simp only[MO,go_sem];refine NA (fun k:Nat=>⟨[(1,AI dg),(6,.own h.length k 0 k),(11,tE ws),(12,AI ws.length),(13,AI k)],h++[.row none ((ws.take k).map fun s=>eI (IC s)) 0],[]⟩) (fun k=>k≤ws.length∧(ws.take k).all (PB dg)=true) (fun k=>ws.length-k) 0 (by simp) ⟨by omega,by simp⟩ ?_
 rintro k ⟨hk,hp⟩
 have hrl:((ws.take k).map fun s=>eI (IC s)).length=k:=by simp;omega
 rcases Nat.lt_or_ge k ws.length with hlt|hge
 ·have hlt':(k:Int)<(ws.length:Int):=by omega
  have hg:=TB PV.str hlt
  have cz:iB none 0 (PV.str ws[k])=some (PV.str ws[k]):=rfl
  have wk:IntKind.i64.wrap ((k:Int)+1)=((k+1:Nat):Int):=nA _ (by omega) (by omega)
  have q:=fun h K=>z6n (h:=h) (K:=K) ws[k] dg hd (hs _ (List.getElem_mem hlt))
  cases e:PB dg ws[k]with
  | false=>
   have ea:ws.all (PB dg)=false:=by
    rw[←Bool.not_eq_true,List.all_eq_true];intro ha;have:=ha _ (List.getElem_mem hlt);rw[e]at this;cases this
   rw[e]at q;simp only[go_sem,hlt',hlt,hg,cz,↓q,q,ea];rfl
  | true=>
   rw[e]at q;have hm:k+1≤UA:=by unfold UA;omega
   simp only[go_sem,hlt',hlt,hg,cz,↓q,q,hrl,hm,wk];refine⟨k+1,?_,⟨by omega,?_⟩,by omega⟩
   ·rw[List.take_succ,List.getElem?_eq_getElem hlt,List.map_append]
    rfl
   ·rw[List.take_succ,List.getElem?_eq_getElem hlt,List.all_append,hp]
    simp [e]
 ·have hk':k=ws.length:=by omega
  subst hk';rw[List.take_length]at hp hrl;rw[List.take_length];have hlt':¬(ws.length:Int)<(ws.length:Int):=by omega
  simp only[go_sem,Nat.lt_irrefl,decide_false,hrl,hp];rw[lX];simp only[NO,go_sem,hrl];rw[show win (ws.map fun s=>eI (IC s)) 0 ws.length=(ws.map IC).map eI from by unfold win;rw[List.drop_zero,List.take_of_length_le (by simp),List.map_map];rfl]
end Go.Am
end
section
/- Numbers read,the reference's way. -/
open Go
set_option linter.all false
namespace Go.Am
variable {h:aA} {K:kA}
theorem z0u (n:Int)(h1 : -1000000000000000000≤n)(h2:n≤1000000000000000000):bA X dI [AI n] h K=K (AS (itoa n)) h []:=by
 refine SM (X:=X) (by kernel_rfl) ?_
 first|rw[show X.ex2=mE GRL PRL from rfl]|skip
 show mE GRL PRL dI [AI n] h=some (AS (itoa n),h,[])
 exact wQ (vs:=[.int .i64 n]) (by kernel_rfl) (s:=GJ) (by kernel_rfl) rfl (by
  unfold GJ;have a1:decide (-9223372036854775808≤n)=true:=by simp;omega
  have a2:decide (n≤9223372036854775807)=true:=by simp;omega
  show(bif decide (-9223372036854775808≤n)&&decide (n≤9223372036854775807) then some (AV.p (PV.str (itoa n))) else none)=_
  rw[a1,a2];rfl)
end Go.Am
end
section
/- Tests and faults: what is wrong with them,yD ways. -/
open Go
set_option linter.all false
namespace Go.Am
variable {h:aA} {K:kA}
end Go.Am
end
section
/- Faults: what is wrong with them,yD ways. -/
open Go
set_option linter.all false
namespace Go.Am
variable {h:aA} {K:kA}
def Flt.pv (f:Flt):PV:=.agg [eI f.kind,.sl none (f.nets.map eI)]
end Go.Am
end
section
/- Where a string stands among strings;words. -/
open Go
set_option linter.all false
namespace Go.Am
variable {h:aA} {K:kA}
theorem z7C {v:AV}(l:List (List UInt8))(hv:Shows none v (l.map PV.str) h)(x:List UInt8)(hl:l.length≤1000000):bA X XH [v,AS x] h K=K (AI (if l.findIdx (fun y=>decide (y=x))<l.length then(l.findIdx (fun y=>decide (y=x)):Int) else -1)) h []:=by
 refine xA ?_;rw[zaA];have vl:=hv.len
 rw[List.length_map]at vl;simp only[pP,go_sem,vl];refine NA (fun k:Nat=>⟨[(0,v),(1,AS x),(7,AI l.length),(8,AI k)],h,[]⟩) (fun k=>k≤l.length∧∀y∈l.take k,decide (y=x)=false) (fun k=>l.length-k) 0 rfl (by simp) ?_
 rintro k ⟨hk,hn⟩
 rcases Nat.lt_or_ge k l.length with hlt|hge
 ·obtain⟨a,ha,hb⟩:=hv.get k (by simpa using hlt)
  rw[List.getElem_map]at hb;have w2:IntKind.i64.wrap ((k:Int)+1)=((k+1:Nat):Int):=nA _ (by omega) (by omega)
  by_cases hpk:x=l[k]
  ·have hf:l.findIdx (fun y=>decide (y=x))=k:=by
    rw[List.findIdx_eq hlt];refine⟨by simp [hpk],fun j hj=>?_⟩
    have:=hn l[j] (by rw[List.mem_take_iff_getElem];exact⟨j,by omega,rfl⟩)
    simpa using this
   simp only[go_sem,hlt,ha,hb,hpk.symm,w2];simp only[hf,hlt,if_true]
  ·simp only[go_sem,hlt,ha,hb,hpk,w2]
   refine⟨k+1,rfl,⟨by omega,fun y hy=>?_⟩,by omega⟩
   rw[List.take_succ_eq_append_getElem hlt,List.mem_append,List.mem_singleton]at hy;rcases hy with hy|hy
   ·exact hn y hy
   ·rw[hy];simp;exact fun e=>hpk e.symm
 ·have e1:k=l.length:=by omega
  subst e1;simp only[go_sem,Nat.lt_irrefl];rw[List.take_length]at hn;have:¬l.findIdx (fun y=>decide (y=x))<l.length:=by
   rw[Nat.not_lt,Nat.le_iff_lt_or_eq];right
   exact(List.findIdx_eq_length.2 (fun y hy=>by simp [hn y hy])).symm
  rw[if_neg this]
theorem z7z {v:AV}(l:List (List UInt8))(hv:∀ h':aA,h'=h→Shows none v (l.map PV.str) h')(x:List UInt8)(hl:l.length≤1000000):bA X LG [v,AS x] h K=K (AB (l.contains x)) h []:=by
 refine xA ?_;rw[za7];have e:=fun K=>z7C (h:=h) (K:=K) l (hv h rfl) x hl
 have hd:decide (0≤(if l.findIdx (fun y=>decide (y=x))<l.length then(l.findIdx (fun y=>decide (y=x)):Int) else -1))=l.contains x:=by
  rw[Bool.eq_iff_iff,decide_eq_true_eq,List.contains_iff_mem];constructor
  ·intro hq
   split at hq
   ·rename_i hlt
    have:=List.findIdx_getElem (w:=hlt);simp only[decide_eq_true_eq]at this;exact this ▸ List.getElem_mem hlt
   ·omega
  ·intro hm
   rw[if_pos (List.findIdx_lt_length_of_exists ⟨x,hm,by simp⟩)];omega
 simp only[nP,go_sem,e,hd]
theorem strS (ws:List (List UInt8)){h:aA}:Shows none (tE ws) (ws.map PV.str) h:=z6A znf
theorem JN {c:UInt8}:∀{s p:List UInt8},p∈CA c s→p.length≤s.length
 | [],p,h=>by simp [CA]at h;subst h;simp
 | b::r,p,h=>by
  rw[CA.eq_2]at h;split at h
  ·rcases List.mem_cons.1 h with rfl|h
   ·simp
   ·have:=JN h;simp;omega
  ·split at h
   ·rename_i hq;exact absurd hq (KN c r)
   ·rename_i p0 q hq
    rcases List.mem_cons.1 h with rfl|h
    ·have:=JN (s:=r) (p:=p0) (by rw[hq];simp);simp;omega
    ·have:=JN (s:=r) (p:=p) (by rw[hq];simp [h]);simp;omega
end Go.Am
end
section
/- Numbers written,joined. -/
open Go
set_option linter.all false
namespace Go.Am
variable {h:aA} {K:kA}
end Go.Am
end
section
/- A builder of strings. -/
open Go
set_option linter.all false
namespace Go.Am
variable {h:aA} {K:kA}
theorem zlw {b:Nat}:TA b h .nili=some .nili:=by simp only[TA]
attribute [local go_sem] zlw
def yE (u:Bool)(id n:Nat):Obj:=.box [bif u then .ref id 0 else .bt 0 bldT id 0,.bt 1 vG (id+1) n]
theorem qU (id n:Nat):yE true id n = .box [.ref id 0,.bt 1 vG (id+1) n]:=rfl
theorem z9K (id n:Nat):yE false id n = .box [.bt 0 bldT id 0,.bt 1 vG (id+1) n]:=rfl
theorem zm7 {o:Obj}{id:Nat}(hh:h[id]?=some o):h.set id o=h:=by
 apply List.ext_getElem?
 intro j;by_cases e:id=j
 ·subst e;rw[List.getElem?_set_self (mD hh),hh]
 ·rw[List.getElem?_set_ne e]
theorem zmf (u:Bool)(id n:Nat)(hh:h[id]?=some (yE u id n)):bA X wM [.ref id 0] h K=K (.tup []) (h.set id (yE true id n)) []:=by
 refine xA ?_;rw[zaW rfl];cases u with
 | true=>
  rw[zm7 hh];rw[qU]at hh;simp only[HL,go_sem,hh]
 | false=>
  rw[z9K]at hh;rw[qU];simp only[bldT]at hh;simp only[HL,go_sem,hh]
theorem zm6 {h:aA}{i j:Nat}{a b:Obj}(e:i≠j):(h.set i a).set j b=(h.set j b).set i a:=List.set_comm a b e
def QN (h:aA)(u:Bool)(id:Nat)(s:List UInt8):Prop:=h[id]?=some (yE u id s.length)∧h[id+1]?=some (.row none (bB s) 0)
def held (h:aA)(id:Nat)(s:List UInt8):aA:=(h.set id (yE true id s.length)).set (id+1) (.row none (bB s) 0)
theorem sU (s:List UInt8):(bB s).length=s.length:=by simp [bB]
theorem z9R (s t:List UInt8):bB s++bB t=bB (s++t):=by simp [bB]
theorem zmb {u:Bool}{id:Nat}{s t:List UInt8}(H:QN h u id s)(hm:s.length+t.length≤200000000000):bA X wJ [.ref id 0,AS t] h K=K (.tup [AI t.length,.nili]) (held h id (s++t)) []:=by
 refine xA ?_;rw[zaV rfl];have l:=mD H.1
 have l2:=mD H.2
 have e:=fun K=>zmf (K:=K) u id s.length H.1
 have g1:(h.set id (yE true id s.length))[id]?=some (.box [.ref id 0,.bt 1 vG (id+1) s.length]):=by rw[List.getElem?_set_self l,qU]
 have g2:(h.set id (yE true id s.length))[id+1]?=some (.row none (bB s) 0):=by rw[List.getElem?_set_ne (by omega)];exact H.2
 have g3:∀o,((h.set id (yE true id s.length)).set (id+1) o)[id]?=some (.box [.ref id 0,.bt 1 vG (id+1) s.length]):=fun o=>by rw[List.getElem?_set_ne (by omega)];exact g1
 have hl:s.length+t.length≤UA:=by unfold UA;omega
 simp only[vG]at g1 g3;simp only[AP,go_sem,e,g1,g2,g3,sU,hl];rw[List.take_of_length_le (by simp)]
 unfold held;rw[zm6 (i:=id+1) (j:=id) (by omega),List.set_set,z9R,List.length_append]
 rfl
theorem zlI {u:Bool}{id:Nat}{s:List UInt8}(H:QN h u id s):bA X vJ [.ref id 0] h K=K (AI s.length) h []:=by
 refine xA ?_;rw[zaT rfl];have g1:=H.1
 unfold yE at g1;simp only[zP,go_sem,g1]
def z00 (h:aA)(id:Nat)(s:List UInt8):aA:=if s=[] then h else h.set (id+1) (.row none (bB s) (s.length+1))
theorem znv (s:List UInt8):oG (bB s)=some s:=by
 induction s with
 | nil=>rfl
 | cons a r ih=>
  have h1:(0:Int)≤(a.toNat:Int)∧(a.toNat:Int)<256:=⟨by omega,by have:=a.toNat_lt;omega⟩
  have e:bB (a::r) = .int .u8 a.toNat::bB r:=rfl
  rw[e];unfold oG;rw[if_pos h1,ih];simp
theorem zlJ {u:Bool}{id:Nat}{s:List UInt8}(H:QN h u id s)(hm:s.length≤200000000000):bA X vM [.ref id 0] h K=K (AS s) (z00 h id s) []:=by
 refine xA ?_;rw[zaU rfl];have l:=mD H.1
 have l2:=mD H.2
 have g1:=H.1
 have g2:=H.2
 unfold yE at g1;have hl:s.length≤UA:=by unfold UA;omega
 unfold z00;by_cases h0:s=[]
 ·subst h0
  simp only[vG,List.length_nil]at g1;simp only[FL,go_sem,g1,g2,sU,hl];exact if_pos rfl ▸ trivial
 ·have h0':¬s.length=0:=by simpa using h0
  have h1:1≤s.length:=by omega
  simp only[vG]at g1;have e0:(0:Int)≤(s.length:Int):=by omega
  simp only[FL,go_sem,g1,g2,sU,hl,h0',h1,znv,e0,Int.toNat_natCast,h0]
def bh (h:aA)(u:Bool)(s:List UInt8)(l:aA):aA:=h++yE u h.length s.length :: .row none (bB s) 0::l
theorem pU {u:Bool}{s:List UInt8}{l:aA}:QN (bh h u s l) u h.length s:=by
 unfold bh;exact⟨by simp,by rw[List.getElem?_append_right (by omega)];simp⟩
theorem z95 {u:Bool}{s t:List UInt8}{l:aA}:held (bh h u s l) h.length t=bh h true t l:=by
 unfold held bh;rw[List.set_append_right _ _ (by omega),List.set_append_right _ _ (by omega),Nat.sub_self,show h.length+1-h.length=1 by omega]
 rfl
theorem s_WS {u:Bool}{s t:List UInt8}{l:aA}(hm:s.length+t.length≤200000000000):bA X wJ [.ref h.length 0,AS t] (bh h u s l) K=K (.tup [AI t.length,.nili]) (bh h true (s++t) l) []:=by
 rw[zmb pU hm,z95]
theorem s_BL {u:Bool}{s:List UInt8}{l:aA}:bA X vJ [.ref h.length 0] (bh h u s l) K=K (AI s.length) (bh h u s l) []:=zlI pU
theorem z15 {u:Bool}{s:List UInt8}{l:aA}:(bh h u s l).length=h.length+(l.length+2):=by
 unfold bh;simp
theorem z93 {u:Bool}{s:List UInt8}{l l2:aA}:bh h u s l++l2=bh h u s (l++l2):=by
 unfold bh;simp
theorem z94 {u:Bool}{s:List UInt8}{l:aA}{n:Nat}:(bh h u s l)[h.length+(n+2)]?=l[n]?:=by
 unfold bh;rw[List.getElem?_append_right (by omega),show h.length+(n+2)-h.length=n+2 by omega]
 rfl
theorem z96 {u:Bool}{s:List UInt8}{l:aA}{n:Nat}{o:Obj}:(bh h u s l).set (h.length+(n+2)) o=bh h u s (l.set n o):=by
 unfold bh;rw[List.set_append_right _ _ (by omega),show h.length+(n+2)-h.length=n+2 by omega]
 rfl
theorem z16 {u:Bool}{s:List UInt8}{l:aA}{n:Nat}:(bh h u s l).take (h.length+(n+2))=bh h u s (l.take n):=by
 unfold bh;rw[List.take_length_add_append];rfl
end Go.Am
end
section
/- Numbers asv sets of bits;rows of a test asv numbers. -/
set_option linter.all false
namespace Go.Am
end Go.Am
end
section
/- Lists of faults: what is wrong with them,yD ways. -/
open Go
set_option linter.all false
namespace Go.Am
variable {h:aA} {K:kA}
end Go.Am
end
section
/- Rows of a test asv numbers. -/
open Go
set_option linter.all false
namespace Go.Am
variable {h:aA} {K:kA}
end Go.Am
end
section
/- Faults on rows: what the program makes of them. -/
open Go
set_option linter.all false
namespace Go.Am
variable {h:aA} {K:kA}
end Go.Am
end
section
/- Responses,asv the program computes them. -/
open Go
set_option linter.all false
namespace Go.Am
variable {h:aA} {K:kA}
end Go.Am
end
section
/- Faults written. -/
open Go
set_option linter.all false
namespace Go.Am
variable {h:aA} {K:kA}
theorem zlA {b:Nat}{P:kA}{s:List UInt8}{n:Int}{g:aA}(k:P (.tup [AS s,AI n]) (g.take b) []):VD false b P (some [AS s,AI n]) g [(b,b+2)]:=by
 have e1:∀m,TA m g (.tup [AS s,AI n])=some (.tup [AS s,AI n]):=fun m=>by simp [TA,LE]
 have e2:AV.top (.tup [AS s,AI n])=0:=by simp [AV.top,AV.tops]
 have e3:close 1 [(b,b+2)] b=b:=by simp [close,bump]
 have e4:XB [(b,b+2)] b=true:=by simp [XB]
 simp only[VD,XA,e1,e2,Nat.max_zero,List.length_cons,List.length_nil,Nat.zero_add,e3,e4,if_true];refine⟨Nat.zero_le _,?_⟩;simpa using k
end Go.Am
end
section
/- Sorting the middle of a row: printed by program. -/
open Go
set_option linter.unusedSimpArgs false
namespace Go.Am
attribute [-go_sem] PV.cells splice
variable {h:aA} {K:kA}
end Go.Am
end
section
/- What is drawn: orders,tests. -/
open Go
set_option linter.all false
namespace Go.Am
variable {L:List Int} {a:Int} {h l:aA} {id:Nat} {K:kA}
def GenK (f:Nat)(args:List AV)(L:List Int)(a:Int)(sh:Sh)(Q:List PV→Int→Prop):Prop:=∀(h:aA) (id:Nat),h[id]?=some (BA L a)→∃xs a2,Q xs a2∧∀K:kA,bA X f (.ref id 0::args) h K=K (.own h.length xs.length 0 xs.length) (h.set id (BA L a2)++[.row sh xs 0]) []
theorem GenK.of {f:Nat}{args:List AV}{L:List Int}{a:Int}{sh:Sh}{Q:List PV→Int→Prop}(H:∀ (h:aA) (id:Nat),id<h.length→bA X f (.ref id 0::args) (h.set id (BA L a)) fun v1 h1 x1=>∃ xs a2,Q xs a2∧v1 = .own h.length xs.length 0 xs.length∧h1=h.set id (BA L a2)++[.row sh xs 0]∧x1=[]):GenK f args L a sh Q:=by
 intro h id hh;have hid:=mD hh
 have k:=H h id hid
 rw[fH hh]at k;obtain⟨v,h',x,⟨xs,a2,q,e0,e1,e2⟩,r⟩:=bA.one z1n k;subst e0;subst e1;subst e2
 exact⟨xs,a2,q,r⟩
end Go.Am
end
section
/- A text changed at random. -/
open Go
set_option linter.all false
namespace Go.Am
variable {L:List Int} {a:Int} {h l:aA} {id:Nat} {K:kA}
theorem zbE {n:Nat}(h:n≤9000000000000000000):(xB n).length≤19:=(IL 18 n (by omega)).2
theorem HJ {n:Int}(h1 : -9000000000000000000≤n)(h2:n≤9000000000000000000):(itoa n).length≤20:=by
 unfold itoa;have:=zbE (n:=n.natAbs) (by omega)
 split
 ·simp;omega
 ·omega
end Go.Am
end
section
/- Entries written. -/
open Go
set_option linter.all false
set_option maxRecDepth 100000
namespace Go.Am
variable {h:aA} {K:kA}
structure EntR (x:Ent):Prop where
 s:x.site.length≤40
 b:x.board.length≤40
 p:x.step.length≤40
 o:x.of.length≤40
 n:1≤x.no∧x.no≤1000000
 t:0≤x.time∧x.time≤345686399999
 k:1≤x.kind∧x.kind≤7
 r:0≤x.other∧x.other≤1000000
theorem PM {s:List UInt8}(h:kB s=true):s.length≤40:=by
 cases s with
 | nil=>simp
 | cons c r=>
  unfold kB at h;simp only[Bool.and_eq_true,decide_eq_true_eq]at h;simp only[List.length_cons];omega
theorem z25 {x:Ent}(hf:mB x=0):EntR x:=by
 have hb:=TP hf
 unfold mB at hf;split at hf
 ·cases hf
 rename_i h1;split at hf
 ·cases hf
 split at hf
 ·cases hf
 rename_i h3;split at hf
 ·cases hf
 rename_i h4;split at hf
 ·cases hf
 rename_i h5;split at hf
 ·cases hf
 rename_i h6;have e:x=mH x:=by simpa using h6
 have hn:fF x=true:=by simpa using h4
 have h1':kB x.site=true:=by simpa using h1
 have h3':1≤x.kind∧x.kind≤7:=by
  have:inB 1 x.kind 7=true:=by simpa using h3
  unfold inB at this;simpa using this
 have hs:=PM h1'
 unfold fF at hn;unfold mH at e;by_cases k7:x.kind=7
 ·rw[if_pos k7]at hn e
  have e1:=congrArg Ent.board e
  have e2:=congrArg Ent.step e
  dsimp only at e1 e2;have ho:noB x.other=true:=by
   rw[not_and]at h5;simpa using h5 k7
  unfold noB inB at ho;simp at ho;exact⟨hs,by rw[e1];simp,by rw[e2];simp,PM hn,hb.n,hb.t,h3',by omega⟩
 ·rw[if_neg k7]at hn e
  by_cases k2:x.kind=2
  ·rw[if_pos k2]at hn e
   have e1:=congrArg Ent.of e
   have e2:=congrArg Ent.other e
   dsimp only at e1 e2;rw[Bool.and_eq_true]at hn;exact⟨hs,PM hn.1,PM hn.2,by rw[e1];simp,hb.n,hb.t,h3',by omega⟩
  ·rw[if_neg k2]at hn e
   have e1:=congrArg Ent.of e
   have e2:=congrArg Ent.other e
   have e3:=congrArg Ent.step e
   dsimp only at e1 e2 e3;exact⟨hs,PM hn,by rw[e3];simp,by rw[e1];simp,hb.n,hb.t,h3',by omega⟩
theorem z7e (k:Int):(EC k).length≤6:=by
 unfold EC;cases h:sE[k.toNat]? with
 | none=>simp
 | some w=>
  have:∀w∈sE,w.length≤6:=by decide
  exact this _ (List.mem_of_getElem? h)
theorem z4U {x:Ent}(R:EntR x):(nD x).length≤200:=by
 have i1:=HJ (n:=x.no) (by have:=R.n;omega) (by have:=R.n;omega)
 have i2:=HJ (n:=x.time) (by have:=R.t;omega) (by have:=R.t;omega)
 have i3:=HJ (n:=x.other) (by have:=R.r;omega) (by have:=R.r;omega)
 have w:=z7e x.kind
 have:=R.s;have:=R.b;have:=R.p;have:=R.o;unfold nD;simp only[List.length_append,List.length_cons];split
 ·simp only[List.length_append,List.length_cons];omega
 ·split
  ·simp only[List.length_append,List.length_cons];omega
  ·omega
theorem zhx {l:List Ent}{k:Nat}(hk:k<l.length):aC (l.take (k+1))=aC (l.take k)++(nD l[k]++[10]):=by
 unfold aC;rw[List.take_succ_eq_append_getElem hk,List.map_append,List.flatten_append];simp
theorem xQ:∀ {l:List Ent},(∀x∈l,EntR x)→(aC l).length≤201*l.length
 | [],_=>by simp [aC]
 | x::r,h=>by
  have e:aC (x::r)=(nD x++[10])++aC r:=by simp [aC]
  have h1:=z4U (h x (by simp))
  have h2:=xQ (l:=r) (fun y hy=>h y (by simp [hy]))
  have e2:(x::r).length=r.length+1:=rfl
  rw[e,List.length_append,List.length_append,e2,Nat.mul_succ];simp only[List.length_cons,List.length_nil];omega
theorem z6z (k:Int)(h1:1≤k)(h2:k≤7):bA X uJ [AI k] h K=K (AS (EC k)) h []:=by
 refine xA ?_;rw[zaS rfl];obtain⟨n,rfl⟩:=Int.eq_ofNat_of_zero_le (show 0≤k by omega)
 have hn:1≤n∧n≤7:=by omega
 match n,hn with
 | 1,_=>
  have w:IntKind.i64.wrap 0=0:=rfl
  simp only[xF,go_sem,w];first|rfl|trivial
 | 2,_=>
  have w:IntKind.i64.wrap 1=1:=rfl
  simp only[xF,go_sem,w];first|rfl|trivial
 | 3,_=>
  have w:IntKind.i64.wrap 2=2:=rfl
  simp only[xF,go_sem,w];first|rfl|trivial
 | 4,_=>
  have w:IntKind.i64.wrap 3=3:=rfl
  simp only[xF,go_sem,w];first|rfl|trivial
 | 5,_=>
  have w:IntKind.i64.wrap 4=4:=rfl
  simp only[xF,go_sem,w];first|rfl|trivial
 | 6,_=>
  have w:IntKind.i64.wrap 5=5:=rfl
  simp only[xF,go_sem,w];first|rfl|trivial
 | 7,_=>
  have w:IntKind.i64.wrap 6=6:=rfl
  simp only[xF,go_sem,w];first|rfl|trivial
theorem zmm (x:Ent)(R:EntR x):bA X sM [.p x.pv] h K=K (AS (nD x)) h []:=by
 refine xA ?_;rw[zaN rfl];have i1:=HJ (n:=x.no) (by have:=R.n;omega) (by have:=R.n;omega)
 have i2:=HJ (n:=x.time) (by have:=R.t;omega) (by have:=R.t;omega)
 have i3:=HJ (n:=x.other) (by have:=R.r;omega) (by have:=R.r;omega)
 have q1:=fun h K=>z0u (h:=h) (K:=K) x.no (by have:=R.n;omega) (by have:=R.n;omega)
 have q2:=fun h K=>z0u (h:=h) (K:=K) x.time (by have:=R.t;omega) (by have:=R.t;omega)
 have q3:=fun h K=>z0u (h:=h) (K:=K) x.other (by have:=R.r;omega) (by have:=R.r;omega)
 have qw:=fun h K=>z6z (h:=h) (K:=K) x.kind R.k.1 R.k.2
 have w:=z7e x.kind
 have l1:=R.s
 have l2:=R.b
 have l3:=R.p
 have l4:=R.o
 have m0:1000000000≤AF:=by unfold AF;omega
 unfold nD;by_cases k2:x.kind=2
 ·simp only[cJ,Ent.pv,go_sem,↓q1,q1,↓q2,q2,↓qw,qw,eq_true k2]
  repeat rw[if_pos (by omega)]
  first|done|simp
 ·by_cases k7:x.kind=7
  ·simp only[cJ,Ent.pv,go_sem,↓q1,q1,↓q2,q2,↓q3,q3,↓qw,qw,k2,eq_true k7]
   repeat rw[if_pos (by omega)]
   first|done|simp
  ·simp only[cJ,Ent.pv,go_sem,↓q1,q1,↓q2,q2,↓qw,qw,k2,k7]
   repeat rw[if_pos (by omega)]
   first|done|simp
attribute [-go_sem] rX
theorem zh6 {K':Ex→St→Prop}{x:Esc}(es:List Ent)(hb:∀ r∈es,EntR r)(hl:es.length≤100)
 (hK:∀u,K' (.exit 0) ⟨[(5,.ref h.length 0),(13,lB es),(14,AI es.length),(15,AI es.length),(16,AB false)],bh h u (aC es) [],x⟩) :
 GA (bA X) X.gl (.scope vI) K' [(5,.ref h.length 0),(13,lB es),(14,AI es.length),(15,AI 0)] (bh h false [] []) x:=by
 refine NA (fun k:Nat=>⟨[(5,.ref h.length 0),(13,lB es),(14,AI es.length),(15,AI k)],bh h (decide (0<k)) (aC (es.take k)) [],x⟩) (fun k=>k≤es.length) (fun k=>es.length-k) 0 (by simp [aC]) (by omega) ?_
 intro k hkl;rcases Nat.lt_or_ge k es.length with hlt|hge
 ·have hg:=TB Ent.pv hlt
  have wk:IntKind.i64.wrap ((k:Int)+1)=((k+1:Nat):Int):=nA _ (by omega) (by omega)
  have b:=hb _ (List.getElem_mem hlt)
  have bl:=z4U b
  have hs:=zhx hlt
  have ht2:=xQ (l:=es.take k) (fun r hr=>hb r (List.mem_of_mem_take hr))
  rw[List.length_take]at ht2;have q:=fun h K=>zmm (h:=h) (K:=K) es[k] b
  have cz:=AE (x:=es[k])
  have m0:1000000000≤AF:=by unfold AF;omega
  simp only[Ent.pv]at q hg cz;generalize nD es[k]=ln at *;generalize aC (es.take k)=acc at *;have m1:ln.length+1≤AF:=by omega
  have q1:=fun l K=>s_WS (h:=h) (K:=K) (u:=decide (0<k)) (s:=acc) (t:=ln++[10]) (l:=l) (by simp;omega)
  simp only[go_sem,hlt,hg,cz,z15,z93,z94,z96,z16,↓q,q,splice,m1,↓q1,q1,wk];refine⟨k+1,?_,by omega,by omega⟩
  rw[hs,show decide (0<k+1)=true by simp]
 ·have hk':k=es.length:=by omega
  subst hk';rw[List.take_length];have:=hK (decide (0<es.length));simp only[go_sem,Nat.lt_irrefl,decide_false,z15,z16,this]
theorem z28:∀ {rs:List Ent}{p:Option Ent},BC p rs=0→∀r∈rs,mB r=0
 | [],p,_,r,hr=>by cases hr
 | x::rs,p,hf,r,hr=>by
  have e:BC p (x::rs)=(if mB x≠0 then mB x else if(p.elim false fun q=>decide (EA x q≤0))=true then 7 else BC (some x) rs):=by cases p <;> rfl
  have hf':=hf
  rw[e]at hf';by_cases h1:mB x=0
  ·rw[if_neg (by simp [h1])]at hf'
   by_cases h2:(p.elim false fun q=>decide (EA x q≤0))=true
   ·rw[if_pos h2]at hf';exact absurd hf' (by decide)
   ·rw[if_neg h2]at hf'
    rcases List.mem_cons.1 hr with e|e
    ·rw[e];exact h1
    ·exact z28 hf' r e
  ·rw[if_pos h1]at hf';exact absurd hf' h1
theorem vX {rs:List Ent}(hf:WA rs=0):∀r∈rs,mB r=0:=by
 unfold WA at hf;split at hf
 ·cases hf
 split at hf
 ·rename_i h;exact absurd hf h
 ·rename_i h
  exact z28 (by simpa using h)
theorem zlP (es:List Ent)(hr:∀ x∈es,EntOk x)(hn:es.length≤100):bA X qM [lB es] h K=K (.tup [AS (if WA es=0 then aC es else []),AI (WA es)]) h []:=by
 refine xA ?_;rw[zaI rfl];have q0:=fun h K=>CN (h:=h) (K:=K) es hr (by omega)
 by_cases h0:WA es=0
 ·have hb:∀x∈es,EntR x:=fun x hx=>z25 (vX h0 x hx)
  have ll:=xQ hb
  simp only[DL,go_sem,↓q0,q0,h0];refine zh6 es hb hn (fun u=>?_)
  rw[fL,FN,rX];have q1:=fun K=>s_BL (h:=h) (K:=K) (u:=u) (s:=aC es) (l:=[])
  have q2:=fun K=>zlJ (K:=K) (pU (h:=h) (u:=u) (s:=aC es) (l:=[])) (by omega)
  have h3':¬(200000:Int)<((aC es).length:Int):=by omega
  simp only[tP,go_sem,↓q1,q1,↓q2,q2,h3'];refine zlA ?_;refine⟨rfl,?_,rfl⟩;unfold z00 bh;split
  ·simp
  ·rw[List.set_append_right _ _ (by omega)];simp
 ·simp only[DL,go_sem,↓q0,q0,h0]
  first|done|rfl
end Go.Am
end
section
/- A text taken line by line: base.Each,scanref2.Lines. -/
open Go
set_option linter.all false
namespace Go.Am
variable {h:aA} {K:kA}
attribute [-go_sem] kX
theorem AQ (s:List UInt8):(IG s=true∧SB s=aB s∧cD s=false)∨(IG s=false∧(∃t,SB s=aB s++[t])∧cD s=true):=by
 by_cases h0:s=[]
 ·subst h0
  exact .inl ⟨rfl,rfl,rfl⟩
 ·by_cases h1:s.getLast?=some 10
  ·left
   obtain⟨e1,e2⟩:=zhy h1;refine⟨by simp [IG,fE,h1],?_,e2⟩
   unfold SB cE fE;rw[if_neg h0,if_pos (by simpa using h1),e1]
  ·right
   obtain⟨t,e1,e2⟩:=zhz h0 h1;refine⟨by simp [IG,fE,h0,h1],⟨t,?_⟩,e2⟩
   unfold SB cE fE;rw[if_neg h0,if_neg (by simpa using h1),e1]
theorem z4X {s l:List UInt8}(h:l∈aB s):l.length≤s.length:=JN (List.dropLast_subset _ h)
theorem z4W (s:List UInt8):(aB s).length≤s.length:=by
 unfold aB;rw[List.length_dropLast,mG];have:s.count 10≤s.length:=List.count_le_length
 omega
theorem zlQ {σ:Type}(c:Nat)(caps:List AV)(take:σ→List UInt8→Bool × σ)(H:σ→aA)(I:Nat→σ→Prop)(s:List UInt8)(hs:s.length≤900000)(n:Nat)(hn:∀ t,(H t).length=n)
 (hc:∀(k:Nat) (t:σ) (l:List UInt8) (K:kA),I k t→k≤900000→l.length≤s.length→bA X c (AS l::caps) (H t) K=K (AB (take t l).1) (H (take t l).2) [])
 (hI:∀(k:Nat) (t:σ) (l:List UInt8),I k t→l.length≤s.length→(take t l).1=true→I (k+1) (take t l).2) (t0:σ) (h0:I 0 t0) {K:kA} :
 bA X SL [AS s,.fn c caps] (H t0) K=K (.tup [AI (oD take (cD s) 0 (aB s) t0).1.1,AB (oD take (cD s) 0 (aB s) t0).1.2]) (H (oD take (cD s) 0 (aB s) t0).2) []:=by
 refine xA ?_;rw[z9T rfl];have q:=fun h K=>zlY (h:=h) (K:=K) s (by omega)
 have hD:=z4W s
 simp only[HO,go_sem,↓q,q];have hT:∀t,List.take (List.length (H t0)) (H t)=H t:=fun t=>List.take_of_length_le (by rw[hn,hn];exact Nat.le_refl _)
 have hLl:(SB s).length≤(aB s).length+1∧(aB s).length≤(SB s).length:=by
  rcases AQ s with⟨e1,e2,e3⟩|⟨e1,⟨t,e2⟩,e3⟩ <;> rw[e2] <;> simp
 refine NA (fun y:Nat×σ=>⟨[(1,.fn c caps),(6,tE (SB s)),(7,AB (IG s)),(15,tE (SB s)),(16,AI (SB s).length),(17,AI y.1)],H y.2,[]⟩) (fun y=>I y.1 y.2∧y.1≤(aB s).length∧oD take (cD s) 0 (aB s) t0=oD take (cD s) y.1 ((aB s).drop y.1) y.2) (fun y=>(aB s).length-y.1) (0,t0) (by simp) ⟨h0,by omega,rfl⟩ ?_
 rintro⟨k,t⟩ ⟨hi,hk,hF⟩
 dsimp only at hi hk hF ⊢;rw[hF];rcases Nat.lt_or_ge k (aB s).length with hlt|hge
 ·have hL:k<(SB s).length:=by omega
  have hg:(SB s)[k]=(aB s)[k]:=by
   rcases AQ s with⟨e1,e2,e3⟩|⟨e1,⟨t,e2⟩,e3⟩
   ·simp only[e2]
   ·simp only[e2]
    rw[List.getElem_append_left hlt]
  have hL':(k:Int)<((SB s).length:Int):=by omega
  have hgm:=TB PV.str hL
  rw[hg]at hgm;have cz:iB none 0 (PV.str (aB s)[k])=some (PV.str (aB s)[k]):=rfl
  have hll:((aB s)[k]).length≤s.length:=z4X (List.getElem_mem hlt)
  have wk:IntKind.i64.wrap ((k:Int)+1)=((k+1:Nat):Int):=nA _ (by omega) (by omega)
  have wl:IntKind.i64.wrap (((SB s).length:Int)-1)=(((SB s).length-1:Nat):Int):=by rw[nA _ (by omega) (by omega)];omega
  have hq:=fun K=>hc k t (aB s)[k] K hi (by omega) hll
  rw[List.drop_eq_getElem_cons hlt,gY];rcases AQ s with⟨e1,e2,e3⟩|⟨e1,⟨t1,e2⟩,e3⟩
  ·cases hb:(take t (aB s)[k]).1 with
   | true=>
    rw[hb]at hq;simp only[go_sem,hL',hL,hgm,cz,e1,↓hq,hq,wk,cond_true];exact⟨(k+1,(take t (aB s)[k]).2),rfl,⟨hI k t _ hi hll hb,by omega,rfl⟩,by simp;omega⟩
   | false=>
    rw[hb]at hq;simp only[go_sem,hL',hL,hgm,cz,e1,↓hq,hq,wk,cond_false,hT]
  ·have hne:¬(k:Int)=(((SB s).length-1:Nat):Int):=by
    rw[e2];simp;omega
   cases hb:(take t (aB s)[k]).1 with
   | true=>
    rw[hb]at hq;simp only[go_sem,hL',hL,hgm,cz,e1,wl,hne,↓hq,hq,wk,cond_true];exact⟨(k+1,(take t (aB s)[k]).2),rfl,⟨hI k t _ hi hll hb,by omega,rfl⟩,by simp;omega⟩
   | false=>
    rw[hb]at hq;simp only[go_sem,hL',hL,hgm,cz,e1,wl,hne,↓hq,hq,wk,cond_false,hT]
 ·have hk':k=(aB s).length:=by omega
  subst hk';rw[List.drop_length,iY];rcases AQ s with⟨e1,e2,e3⟩|⟨e1,⟨t1,e2⟩,e3⟩
  ·have hL':¬((aB s).length:Int)<((SB s).length:Int):=by rw[e2];omega
   have hL:¬(aB s).length<(SB s).length:=by rw[e2];omega
   simp only[go_sem,hL',hL,decide_false,e3,cond_false];rw[kX];simp only[JO,go_sem,hT]
  ·have hL:(aB s).length<(SB s).length:=by rw[e2];simp
   have hL':((aB s).length:Int)<((SB s).length:Int):=by omega
   have hgm:=TB PV.str hL
   have cz:iB none 0 (PV.str (SB s)[(aB s).length])=some (PV.str (SB s)[(aB s).length]):=rfl
   have wl:IntKind.i64.wrap (((SB s).length:Int)-1)=((aB s).length:Int):=by rw[nA _ (by omega) (by omega),e2];simp
   simp only[go_sem,hL',hL,hgm,cz,e1,wl,e3,cond_true,hT]
end Go.Am
end
section
/- Faults read. -/
open Go
set_option linter.all false
namespace Go.Am
variable {h:aA} {K:kA}
end Go.Am
end
section
/- Lists of faults read. -/
open Go
set_option linter.all false
namespace Go.Am
variable {h:aA} {K:kA}
end Go.Am
end
section
/- fault.Read,scanref2.FaultsRead. -/
open Go
set_option linter.all false
namespace Go.Am
variable {h:aA} {K:kA}
theorem frzA {h:aA}{sh:Sh}{xs:List PV}{o:Obj}{k:Nat}:frz (h++[.row sh xs 0,o]) h.length k=h++[.row sh xs k,o]:=by
 unfold frz;rw[List.getElem?_append_right (Nat.le_refl _),Nat.sub_self];simp
end Go.Am
end
section
/- What is drawn: faults. -/
open Go
set_option linter.all false
namespace Go.Am
variable {L:List Int} {a:Int} {h l:aA} {id:Nat} {K:kA}
end Go.Am
end
section
/- Deleting faults: printed by program. -/
open Go
set_option linter.unusedSimpArgs false
namespace Go.Am
attribute [-go_sem] PV.cells splice
variable {h:aA} {K:kA}
attribute [-go_sem] AV.cells cut
attribute [go_sem] AV.cells cut
end Go.Am
end
section
/- What is drawn: lists of faults. -/
open Go
set_option linter.all false
namespace Go.Am
variable {L:List Int} {a:Int} {h l:aA} {id:Nat} {K:kA}
end Go.Am
end
section
/- Stable sorts of numbers: printed by program. -/
open Go
set_option linter.unusedSimpArgs false
namespace Go.Am
attribute [-go_sem] PV.cells splice
variable {h:aA} {K:kA}
end Go.Am
end
section
/- Faults compared;texts of faults drawn. -/
open Go
set_option linter.all false
namespace Go.Am
variable {L:List Int} {a:Int} {h:aA} {K:kA}
theorem zij {f:Nat}{F:AFun}{id fz:Nat}{sh:Sh}{xs:List PV}(hf:X.fn f=some F)(hr:F.byref=false)(hl:F.nparams=1)(hh:h[id]?=some (.row sh xs fz)):bA X f [.own id xs.length 0 xs.length] h K=bA X f [.p (.sl sh xs)] (frz h id xs.length) K:=
 oU (X:=X) (a:=[.own id xs.length 0 xs.length]) (vs:=[.sl sh xs]) hf hr (by
  have:win xs 0 xs.length=xs:=oH rfl
  simp [mA,pur,rd,hh,this]) rfl (by simp [hl]) RX
end Go.Am
end
section
/- Entries written,the reference;kinds read. -/
open Go
set_option linter.all false
set_option maxRecDepth 100000
namespace Go.Am
variable {h:aA} {K:kA}
theorem zmk (w:List UInt8)(hw:w≠[]):bA X rM [AS w] h K=K (AI (kEP w)) h []:=by
 refine xA ?_;rw[zaM rfl];simp only[wP,go_sem];have hE:kE w≤8:=z4P w
 have h0:kE w≠0:=by
  intro e;unfold kE at e;rw[List.findIdx_eq (by decide)]at e
  simp only[decide_eq_true_eq]at e;exact hw e.1.symm
 refine NA (fun k:Nat=>⟨[(0,AS w),(3,AI k)],h,[]⟩) (fun k=>1≤k∧k≤8∧k≤kE w) (fun k=>8-k) 1 rfl ⟨by omega,by omega,by omega⟩ ?_
 rintro k ⟨h1,h2,h3⟩
 rcases Nat.lt_or_ge k 8 with hlt|hge
 ·have hk:(k:Int)≤7:=by omega
  have wk:IntKind.i64.wrap ((k:Int)+1)=((k+1:Nat):Int):=nA _ (by omega) (by omega)
  have q:=fun h K=>z6z (h:=h) (K:=K) (k:Int) (by omega) hk
  have ew:EC (k:Int)=sE[k]'hlt:=by
   unfold EC;rw[Int.toNat_natCast,List.getElem?_eq_getElem (show k<sE.length from hlt)]
   rfl
  by_cases e:EC (k:Int)=w
  ·have ek:kE w=k:=by
    refine Nat.le_antisymm ?_ h3;rcases Nat.lt_or_ge k (kE w) with h|h
    ·exfalso
     have:=List.not_of_lt_findIdx (xs:=sE) (p:=fun y=>decide (y=w)) h
     have h5:¬sE[k]'hlt=w:=of_decide_eq_false this
     exact h5 (ew ▸ e)
    ·exact h
   have e2:kEP w=(k:Int):=by unfold kEP;rw[if_pos (by omega),ek]
   simp only[go_sem,hk,↓q,q,e];rw[e2]
  ·have ek:k+1≤kE w:=by
    rcases Nat.lt_or_ge k (kE w) with h|h
    ·exact h
    ·exfalso
     have hk':kE w=k:=Nat.le_antisymm h h3
     have hl:kE w<sE.length:=by rw[hk'];exact hlt
     have:=List.findIdx_getElem (xs:=sE) (p:=fun y=>decide (y=w)) (w:=hl)
     have h5:(sE[kE w]'hl)=w:=of_decide_eq_true this
     apply e
     rw[ew];rw[←h5];congr 1
     exact hk'.symm
   simp only[go_sem,hk,↓q,q,e,wk];exact⟨k+1,rfl,⟨by omega,by omega,ek⟩,by omega⟩
 ·have hk:¬(k:Int)≤7:=by omega
  have e2:kEP w=0:=by unfold kEP;rw[if_neg (by omega)]
  simp only[go_sem,hk,e2]
end Go.Am
end
section
/- A line of an entry read: the program. -/
open Go
set_option linter.all false
set_option maxRecDepth 100000
namespace Go.Am
variable {h:aA} {K:kA}
theorem ON {ws:List (List UInt8)}{i:Nat}(hi:i<ws.length):(ws.map PV.str)[i]?=some (.str (we ws i)):=by
 unfold we;rw[List.getElem?_map,List.getElem?_eq_getElem hi];rfl
theorem VK (s:List UInt8)(i:Nat):(we (CA 32 s) i).length≤s.length:=by
 unfold we;cases hx:(CA 32 s)[i]? with
 | none=>simp
 | some x=>exact JN (List.mem_of_getElem? hx)
theorem we_ne {ws:List (List UInt8)}{i:Nat}(hi:i<ws.length)(hc:ws.contains []=false):we ws i≠[]:=by
 unfold we;rw[List.getElem?_eq_getElem hi];intro e;have e':ws[i]=[]:=e
 have:([]:List UInt8)∈ws:=e' ▸ List.getElem_mem hi
 have h2:ws.contains []=true:=by simpa using this
 rw[h2]at hc;cases hc
theorem win12 {ws:List (List UInt8)}(h:3≤ws.length):win (ws.map PV.str) 1 2=[we ws 1,we ws 2].map PV.str:=by
 obtain⟨a,b,c,r,rfl⟩:∃a b c r,ws=a::b::c::r:=by
  match ws,h with
  | a::b::c::r,_=>exact⟨a,b,c,r,rfl⟩
 rfl
set_option maxHeartbeats 4000000 in
theorem zmo (s:List UInt8)(hs:s.length≤900000):bA X tM [AS s] h K=K (.tup [.p (jF (CA 32 s)).1.pv,AB (jF (CA 32 s)).2]) h []:=by
 refine xA ?_;rw[zaP rfl];have q:=fun h K=>z6u (h:=h) (K:=K) s 32 (by omega)
 have hlw:(CA 32 s).length≤1000000:=by
  rw[mG];have:s.count 32≤s.length:=List.count_le_length
  omega
 have qc:=fun h K=>z7z (h:=h) (K:=K) (CA 32 s) (fun h' _=>strS _) [] hlw
 have l1:=VK s 1
 have l2:=VK s 2
 have l5:=VK s 5
 have qn:=fun h K=>z6n (h:=h) (K:=K) (we (CA 32 s) 5) 15 (by omega) (by omega)
 have qs:=fun h K=>zlZ (h:=h) (K:=K) [we (CA 32 s) 1,we (CA 32 s) 2] 15 (by omega) (fun w hw=>by simp only[List.mem_cons,List.not_mem_nil,or_false]at hw;rcases hw with e|e <;> rw[e] <;> omega) (by simp)
 have e15:((15:Nat):Int)=15:=rfl
 rw[e15]at qn qs;simp only[tE,List.all_cons,List.all_nil,Bool.and_true,List.map_cons,List.map_nil]at qs;generalize CA 32 s=ws at *;have cw:∀w:List UInt8,iB none 0 (PV.str w)=some (PV.str w):=fun _=>rfl
 have ci:∀n:Int,iB none 0 (eI n)=some (eI n):=fun _=>rfl
 unfold jF;by_cases h4:ws.length<5
 ·have h4':(ws.length:Int)<5:=by omega
  rw[if_pos (.inl h4)];simp only[PD,go_sem,↓q,q,h4',splice,OC,Ent.pv]
 ·have h4':¬(ws.length:Int)<5:=by omega
  cases hc:ws.contains []with
  | true=>
   rw[hc]at qc;rw[if_pos (.inr rfl)];simp only[PD,go_sem,↓q,q,↓qc,qc,h4',splice,OC,Ent.pv]
  | false=>
   rw[hc]at qc;rw[if_neg (by rintro (z|z);exact h4 z;cases z)]
   have i0:0<ws.length:=by omega
   have i1:1<ws.length:=by omega
   have i3:3<ws.length:=by omega
   have i3':3≤ws.length:=by omega
   have i4:4<ws.length:=by omega
   have g0:=ON i0
   have g3:=ON i3
   have g4:=ON i4
   have w12:=win12 i3'
   have qk:=fun h K=>zmk (h:=h) (K:=K) (we ws 3) (we_ne i3 hc)
   simp only[List.map_cons,List.map_nil]at w12;have hk:=z4P (we ws 3)
   have hk0:0≤kEP (we ws 3)∧kEP (we ws 3)≤7:=by unfold kEP;split <;> omega
   cases hn:(PB 15 (we ws 1)&&PB 15 (we ws 2)) with
   | false=>
    rw[hn]at qs;simp only[Bool.false_eq_true,if_false,AL,List.map_nil]at qs;rw[if_pos (.inl rfl)];simp only[PD,go_sem,↓q,q,↓qc,qc,h4',i0,i3,i3',g0,g3,w12,cw,↓qs,qs,↓qk,qk,splice,OC,Ent.pv,Bool.false_eq_true]
   | true=>
    rw[hn,if_pos rfl]at qs;simp only[AL,List.map_cons,List.map_nil]at qs;by_cases k0:kEP (we ws 3)=0
    ·rw[if_pos (.inr k0)]
     simp only[PD,go_sem,↓q,q,↓qc,qc,h4',i0,i3,i3',g0,g3,w12,cw,↓qs,qs,↓qk,qk,splice,OC,Ent.pv,eq_true k0]
    rw[if_neg (by rintro (z|z);cases z;exact k0 z)]
    generalize kEP (we ws 3)=kd at *;by_cases k2:kd=2
    ·by_cases h6:ws.length=6
     ·have h6':(ws.length:Int)=6:=by omega
      have h66:¬(6:Int)<(ws.length:Int):=by omega
      have i5:5<ws.length:=by omega
      have g5:=ON i5
      rw[if_pos k2,if_pos h6];subst k2;simp only[PD,go_sem,↓q,q,↓qc,qc,h4',i0,i3,i3',i4,i5,g0,g3,g4,g5,w12,cw,ci,↓qs,qs,↓qk,qk,splice,OC,Ent.pv,k0,eq_true h6',h66]
     ·have h6':¬(ws.length:Int)=6:=by omega
      rw[if_pos k2,if_neg h6];subst k2;simp only[PD,go_sem,↓q,q,↓qc,qc,h4',i0,i3,i3',g0,g3,w12,cw,ci,↓qs,qs,↓qk,qk,splice,OC,Ent.pv,k0,h6']
    by_cases k7:kd=7
    ·by_cases h6:ws.length=6
     ·have h6':(ws.length:Int)=6:=by omega
      have h66:¬(6:Int)<(ws.length:Int):=by omega
      have i5:5<ws.length:=by omega
      have g5:=ON i5
      rw[if_neg k2,if_pos k7,if_pos h6];subst k7;simp only[PD,go_sem,↓q,q,↓qc,qc,h4',i0,i3,i3',i4,i5,g0,g3,g4,g5,w12,cw,ci,↓qs,qs,↓qk,qk,↓qn,qn,splice,OC,Ent.pv,k0,eq_true h6',h66]
     ·have h6':¬(ws.length:Int)=6:=by omega
      rw[if_neg k2,if_pos k7,if_neg h6];subst k7;simp only[PD,go_sem,↓q,q,↓qc,qc,h4',i0,i3,i3',g0,g3,w12,cw,ci,↓qs,qs,↓qk,qk,splice,OC,Ent.pv,k0,h6']
    by_cases h5:ws.length=5
    ·have h6':¬(ws.length:Int)=6:=by omega
     have h66:¬(6:Int)<(ws.length:Int):=by omega
     rw[if_neg k2,if_neg k7,if_pos h5];simp only[PD,go_sem,↓q,q,↓qc,qc,h4',i0,i3,i3',i4,g0,g3,g4,w12,cw,ci,↓qs,qs,↓qk,qk,splice,OC,Ent.pv,k0,k2,k7,h6',h66]
    ·rw[if_neg k2,if_neg k7,if_neg h5]
     by_cases h6:ws.length=6
     ·have h6':(ws.length:Int)=6:=by omega
      simp only[PD,go_sem,↓q,q,↓qc,qc,h4',i0,i3,i3',i4,g0,g3,g4,w12,cw,ci,↓qs,qs,↓qk,qk,splice,OC,Ent.pv,k0,k2,k7,eq_true h6']
     ·have h6':¬(ws.length:Int)=6:=by omega
      have h66:(6:Int)<(ws.length:Int):=by omega
      simp only[PD,go_sem,↓q,q,↓qc,qc,h4',i0,i3,i3',i4,g0,g3,g4,w12,cw,ci,↓qs,qs,↓qk,qk,splice,OC,Ent.pv,k0,k2,k7,h6',h66]
end Go.Am
end
section
/- A line of an entry read: the reference. -/
open Go
set_option linter.all false
set_option maxRecDepth 100000
namespace Go.Am
variable {h:aA} {K:kA}
end Go.Am
end
section
/- Records asv texts,plainly: read yD ways. -/
set_option linter.all false
namespace Go.Am
end Go.Am
end
section
/- Records read: a line,yD ways. -/
open Go
set_option linter.all false
set_option maxRecDepth 100000
namespace Go.Am
variable {h:aA} {K:kA}
end Go.Am
end
section
/- Records read: the program's line. -/
open Go
set_option linter.all false
set_option maxRecDepth 100000
namespace Go.Am
variable {h:aA} {K:kA}
end Go.Am
end
section
/- Records read: all lines. -/
open Go
set_option linter.all false
set_option maxRecDepth 100000
namespace Go.Am
variable {h:aA} {K:kA}
end Go.Am
end
section
/- lot.Read,scanref2.RecordsRead. -/
open Go
set_option linter.all false
set_option maxRecDepth 100000
namespace Go.Am
variable {h:aA} {K:kA}
end Go.Am
end
section
/- scanref2.RecordsRead. -/
open Go
set_option linter.all false
set_option maxRecDepth 100000
namespace Go.Am
variable {h:aA} {K:kA}
end Go.Am
end
section
/- Entries read,yD ways. -/
open Go
set_option linter.all false
set_option maxRecDepth 100000
namespace Go.Am
variable {h:aA} {K:kA}
def HE (h:aA)(rs:List Ent):aA:=h++[.row (some 8) (rs.map Ent.pv) 0,.box [.own h.length rs.length 0 rs.length]]
theorem z7A (h:aA)(rs:List Ent):(HE h rs).length=h.length+2:=by simp [HE]
theorem s_ER1 (rs:List Ent)(s:List UInt8)(hs:s.length≤900000)(hf:rs.length≤1000000):bA X sJ [AS s,.ref (h.length+1) 0] (HE h rs) K=K (AB (dD rs s).1) (HE h (dD rs s).2) []:=by
 refine xA ?_;rw[zaH rfl];have q:=fun h K=>zmo (h:=h) (K:=K) s hs
 have hm:rs.length+1≤UA:=by unfold UA;omega
 have hl:(rs.map Ent.pv).length=rs.length:=List.length_map ..
 have fp:∀x:Ent,Ent.pv x = .agg [.str x.site,eI x.no,eI x.time,eI x.kind,.str x.board,.str x.step,.str x.of,eI x.other]:=fun _=>rfl
 unfold HE dD;generalize (jF (CA 32 s)).1=c at *;generalize (jF (CA 32 s)).2=ok at *;simp only[fp]at q;simp only[sP,go_sem,↓q,q,hm,hl,PC,AV.top,Nat.lt_irrefl,Nat.not_lt_zero,List.map_append,splice,fp]
theorem zil {f:Nat}{F:AFun}{h:aA}{o:Obj}{xs:List PV}{K:kA}(hf:X.fn f=some F)(hr:F.byref=false)(hl:F.nparams=1):bA X f [.own h.length xs.length 0 xs.length] (h++[.row (some 8) xs 0,o]) K=bA X f [.p (.sl (some 8) xs)] (h++[.row (some 8) xs xs.length,o]) K:=by
 have:=zij (K:=K) (f:=f) (F:=F) (id:=h.length) (fz:=0) (sh:=some 8) (xs:=xs) (h:=h++[.row (some 8) xs 0,o]) hf hr hl (by simp)
 rw[this,frzA]
abbrev yI (tk:List Ent→List UInt8→Bool × List Ent)(s:List UInt8):(Nat×Bool)×List Ent:=oD tk (cD s) 0 (aB s) []
def NK (tk:List Ent→List UInt8→Bool × List Ent)(s:List UInt8):List Ent×Int×Int:=
 if(yI tk s).1.2=false then([],((yI tk s).1.1:Nat),9) else if WA (yI tk s).2≠0 then([],0,WA (yI tk s).2) else((yI tk s).2,0,0)
theorem JL:EntOk OC:=⟨Nat.zero_le _,Nat.zero_le _,Nat.zero_le _,Nat.zero_le _⟩
theorem zlt {s:List UInt8}(hs:s.length≤100000):EntOk (jF (CA 32 s)).1:=by
 have a0:=VK s 0
 have a4:=VK s 4
 have a5:=VK s 5
 unfold jF;split
 ·exact JL
 split
 ·exact JL
 split
 ·split
  ·exact⟨by dsimp only;omega,by dsimp only;omega,by dsimp only;omega,by dsimp only;simp⟩
  ·exact JL
 split
 ·split
  ·exact⟨by dsimp only;omega,by dsimp only;simp,by dsimp only;simp,by dsimp only;omega⟩
  ·exact JL
 split
 ·exact⟨by dsimp only;omega,by dsimp only;omega,by dsimp only;simp,by dsimp only;simp⟩
 ·exact JL
theorem z6K (tk:List Ent→List UInt8→Bool × List Ent)(P:Ent→Prop)(tail:Bool)(ls0:List (List UInt8))(ht:∀ rs,∀ l∈ls0,∃ r,P r∧(tk rs l).2=rs++[r]):∀(ls:List (List UInt8)) (i:Nat) (rs:List Ent),(∀l∈ls,l∈ls0)→(∀r∈rs,P r) →
 (∀r∈(oD tk tail i ls rs).2,P r)∧(oD tk tail i ls rs).2.length≤rs.length+ls.length
 | [],i,rs,_,h=>by
  rw[iY];cases tail <;> exact⟨h,by simp⟩
 | l::r,i,rs,hl,h=>by
  rw[gY];have h1:(∀x∈(tk rs l).2,P x)∧(tk rs l).2.length≤rs.length+1:=by
   obtain⟨r,hr,e⟩:=ht rs l (hl l (by simp))
   rw[e];refine⟨fun x hx=>?_,by simp⟩
   rcases List.mem_append.1 hx with hx|hx
   ·exact h x hx
   ·rw[List.mem_singleton.1 hx];exact hr
  cases (tk rs l).1 with
  | true=>
   obtain⟨q1,q2⟩:=z6K tk P tail ls0 ht r (i+1) (tk rs l).2 (fun x hx=>hl x (by simp [hx])) h1.1
   refine⟨q1,?_⟩;simp only[cond_true,List.length_cons];omega
  | false=>
   refine⟨h1.1,?_⟩;simp only[cond_false,List.length_cons];omega
set_option maxHeartbeats 4000000 in
theorem zlO (s:List UInt8)(hs:s.length≤100000):bA X pM [AS s] h K=K (.tup [lB (NK dD s).1,AI (NK dD s).2.1,AI (NK dD s).2.2]) h []:=by
 refine xA ?_;rw[zaG rfl];have h2':¬(200000:Int)<(s.length:Int):=by omega
 have hL:=fun K=>zlQ (K:=K) sJ [.ref (h.length+1) 0] dD (HE h) (fun k rs=>rs.length=k) s (by omega) (h.length+2) (z7A h)
  (fun k t l K hi hk hll=>s_ER1 t l (by omega) (by omega)) (fun k t l hi hll _=>by simp [dD,hi]) [] rfl
 obtain⟨i1,i2⟩:=z6K dD EntOk (cD s) (aB s) (fun rs l hm=>⟨_,zlt (Nat.le_trans (z4X hm) hs),rfl⟩) (aB s) 0 [] (fun _ h=>h) (by simp)
 have hD:=z4W s
 unfold NK yI;generalize oD dD (cD s) 0 (aB s) []=R at *;obtain⟨⟨i,ok⟩,rs⟩:=R;dsimp only at i1 i2 hL ⊢;rw[List.length_nil,Nat.zero_add]at i2;have q3:=fun o K=>(zil (f:=FE) (F:=ZK) (h:=h) (o:=o) (xs:=rs.map Ent.pv) (K:=K) z7h rfl rfl).trans (CN rs i1 (by omega))
 simp only[List.length_map]at q3;simp only[HE,List.map_nil,List.length_nil]at hL;have hw:win (rs.map Ent.pv) 0 rs.length=rs.map Ent.pv:=oH (by simp)
 have hll:(rs.map Ent.pv).length=rs.length:=List.length_map ..
 cases ok with
 | false=>
  simp only[bJ,go_sem,↓hL,hL,h2'];first|done|rfl
 | true=>
  by_cases h4:WA rs=0
  ·simp only[bJ,go_sem,↓hL,hL,h2',↓q3,q3,h4,hw,hll]
   first|done|rfl
  ·simp only[bJ,go_sem,↓hL,hL,h2',↓q3,q3,h4]
   first|done|rfl
end Go.Am
end
section
/- Entries drawn: their pieces. -/
open Go
set_option linter.all false
set_option maxRecDepth 100000
namespace Go.Am
variable {L:List Int} {a:Int} {h l:aA} {id:Nat} {K:kA}
attribute [-go_sem] ZA
def TE:List (List UInt8):=[[],[65],[98,49],[98,50],[98,51],[98,52]]
structure EntV (x:Ent):Prop where
 s:x.site.length≤1000
 b:x.board.length≤1000
 p:x.step.length≤1000
 o:x.of.length≤1000
 n : -100000000000000000≤x.no∧x.no≤100000000000000000
 t : -100000000000000000≤x.time∧x.time≤100000000000000000
 z:x.site≠[122,122]∧(x.time≤1000∨345686399999<x.time)
 w:x.board∈TE
theorem zfE (hp:QA 14 a)(u v:Int)(huv:u≤v)(hu : -1000000000000≤u)(hv:v≤1000000000000):∃k a2:Int,a≤a2∧a2≤a+2 ∧ -1099511627776≤k∧k≤1099511627776∧(k≤v+1∨k=1099511627776) ∧
 Gen iE [AI u,AI v] L a a2 (AI k):=by
 have w1:IntKind.i64.wrap (u-1)=u-1:=nA _ (by omega) (by omega)
 have w2:IntKind.i64.wrap (v+1)=v+1:=nA _ (by omega) (by omega)
 by_cases hf:CB L a 12=0
 ·have hm:=z0h (L:=L) (a:=a+1) (l:=[u-1,v+1,u,v,-1099511627776,1099511627776]) (by simp) (by simp)
  simp only[List.mem_cons,List.not_mem_nil,or_false]at hm;refine⟨FD [u-1,v+1,u,v,-1099511627776,1099511627776] L (a+1),a+1+1,by omega,by omega,by omega,by omega,by omega,Gen.of fun h id hid=>?_⟩
  rw[qO rfl];simp only[LH,go_sem,hid,DF hp,hf,w1,w2]
 ·have hm:=yN L (a+1) huv (by omega)
  refine⟨KC u v L (a+1),a+1+1,by omega,by omega,by omega,by omega,by omega,Gen.of fun h id hid=>?_⟩
  rw[qO rfl];simp only[LH,go_sem,hid,DF hp,hf,w1,w2,huv,show -1152921504606846976≤u by omega,show v≤1152921504606846976 by omega]
theorem EntV.ok {x:Ent}(v:EntV x):EntOk x:=⟨by have:=v.s;omega,by have:=v.b;omega,by have:=v.p;omega,by have:=v.o;omega⟩
theorem zlU (a b:Ent)(ha:EntV a)(hb:EntV b):bA X bG [.p a.pv,.p b.pv] h K=K (AI (EA a b)) h []:=by
 refine xA ?_;rw[z1D rfl];have a1:=ha.t
 have a2:=hb.t
 have a3:=ha.n
 have a4:=hb.n
 have w:IntKind.i64.wrap (a.time-b.time)=a.time-b.time:=nA _ (by omega) (by omega)
 have w2:IntKind.i64.wrap (a.no-b.no)=a.no-b.no:=nA _ (by omega) (by omega)
 unfold EA;by_cases he:a.time=b.time
 ·have:uB a.time b.time=0:=by rw[he];unfold uB;simp
  rw[if_neg (by simp [this])]
  by_cases hs:a.site=b.site
  ·have hc:OA a.site b.site=0:=by rw[hs];exact CO _
   rw[if_neg (by simp [hc]),BO]
   simp only[VF,Ent.pv,go_sem,he,hs,w2,yS]
  ·have hc:OA a.site b.site≠0:=fun e=>hs (GH e)
   rw[if_pos hc];simp only[VF,Ent.pv,go_sem,he,hs,z0w]
 ·have hc:uB a.time b.time≠0:=by unfold uB;split <;> (try split) <;> omega
  rw[if_pos hc];rw[BO];simp only[VF,Ent.pv,go_sem,he,w,yS]
theorem zlV (l m:List Ent)(hl:l.length≤1000000000):bA X WH [lB l,lB m] h K=K (AB (decide (l=m))) h []:=by
 refine xA ?_;rw[za8 rfl];by_cases he:l.length=m.length
 ·have he':(l.length:Int)=(m.length:Int):=by omega
  simp only[xL,go_sem,he'];refine NA (fun k:Nat=>⟨[(0,lB l),(1,lB m),(12,AI m.length),(13,AI k)],h,[]⟩) (fun k=>k≤l.length∧l.take k=m.take k) (fun k=>l.length-k) 0 rfl (by simp) ?_
  rintro k ⟨hk,hp⟩
  rcases Nat.lt_or_ge k l.length with hlt|hge
  ·have hlt2:k<m.length:=by omega
   have hlt3:(k:Int)<(m.length:Int):=by omega
   have g1:=TB Ent.pv hlt
   have g2:=TB Ent.pv hlt2
   have c1:=AE (x:=l[k])
   have c2:=AE (x:=m[k])
   have w2:IntKind.i64.wrap ((k:Int)+1)=((k+1:Nat):Int):=nA _ (by omega) (by omega)
   have hq:=xX l[k] m[k]
   by_cases h1:l[k]=m[k]
   ·rw[decide_eq_true h1]at hq
    simp only[go_sem,hlt,hlt2,hlt3,g1,g2,c1,c2,↓hq,hq,w2];refine⟨k+1,rfl,⟨by omega,?_⟩,by omega⟩
    rw[List.take_succ_eq_append_getElem hlt,List.take_succ_eq_append_getElem hlt2,hp,h1]
   ·rw[decide_eq_false h1]at hq
    have hne:¬l=m:=fun e=>h1 (by subst e;rfl)
    simp only[go_sem,hlt,hlt2,hlt3,g1,g2,c1,c2,↓hq,hq,hne]
  ·obtain rfl:k=l.length:=by omega
   rw[List.take_length,he,List.take_length]at hp;subst hp;simp only[go_sem,Nat.lt_irrefl,Int.lt_irrefl,decide_true]
 ·have he':¬(l.length:Int)=(m.length:Int):=by omega
  have hne:¬l=m:=fun e=>he (by rw[e])
  simp only[xL,go_sem,he',hne]
theorem gH {l:List (List UInt8)}(hl:0<l.length)(hl2:l.length<100)(m:Nat)(h:∀ s∈l,s.length≤m):(JB l L a).length≤m:=h _ (vN hl (by omega))
set_option maxHeartbeats 4000000 in
theorem uX (hid:id<h.length)(hp:QA 60 a)(es:List Ent)(hes:es.length≤1000)(x:Ent)(hx:EntV x)(M:Obj)(v6 v11 v12:AV)(K:Ex→St→Prop)
 (hK:∀(x':Ent) (a':Int) (J:aA),EntV x'→a≤a'→a'≤a+10 →
  K .normal ⟨[(0,.ref id 0),(5,.own h.length (es.length+1) 0 (es.length+1)),(6,v6),(7,.mp (h.length+1)),(11,v11),(12,v12)],h.set id (BA L a') ++ .row (some 8) (es.map Ent.pv++[x'.pv]) 0::M::J,[]⟩) :
 vF (bA X) X.gl jR (.ref id 0) (.own h.length es.length 0 es.length) v6 (.mp (h.length+1)) (.ref (h.length+2) 0) v11 v12
  (h.set id (BA L a)++[.row (some 8) (es.map Ent.pv) 0,M,x.box]) [] K:=by
 have P:=DF (DC hp (Int.le_refl a) (by omega))
 have hmx:es.length+1≤UA:=by unfold UA;omega
 have e1:h.length+1<h.length+3+1:=by omega
 obtain⟨site,no,time,kind,board,step,of,other⟩:=x;obtain⟨xs,xb,xp,xo,xn,xt,xz,xw⟩:=hx;dsimp only at xs xb xp xo xn xt xz xw;unfold Ent.box;dsimp only;by_cases hf:CB L a 100=0
 ·by_cases h0:CB L (a+1) 3=0
  ·obtain⟨kv,a3,c1,c2,c3,c4,O⟩:=TX (L:=L) (a:=a+1+1+1) (DC hp (by omega) (by omega)) 1 9 (by omega) (by omega) (by omega)
   have O':=fun l K=>O.app (h:=h) (id:=id) (l:=l) (K:=K) hid
   obtain⟨kv2,a4,d1,d2,d3,d4,d5,O2⟩:=zfE (L:=L) (a:=a3) (DC hp (by omega) (by omega)) 0 100 (by omega) (by omega) (by omega)
   have O2':=fun l K=>O2.app (h:=h) (id:=id) (l:=l) (K:=K) hid
   have p1:(JB [[],site] L (a+1+1)).length≤1000:=gH (by simp) (by simp) 1000 (fun s hs=>by simp only[List.mem_cons,List.not_mem_nil,or_false]at hs;rcases hs with e|e <;> rw[e] <;> first|omega|simp)
   have p9:JB [[],site] L (a+1+1)≠[122,122]:=fun e=>by
    have:=vN (l:=[[],site]) (L:=L) (a:=a+1+1) (by simp) (by simp)
    simp only[List.mem_cons,List.not_mem_nil,or_false]at this;rw[e]at this;rcases this with h|h
    ·cases h
    ·exact xz.1 h.symm
   simp only[vF,go_sem,hid,P,hf,h0,↓O',O',↓O2',O2',hmx];exact hK ⟨JB [[],site] L (a+1+1),kv,kv2,kind,board,step,of,other⟩ a4 _ ⟨p1,xb,xp,xo,by dsimp only;omega,by dsimp only;omega,⟨p9,by dsimp only;omega⟩,xw⟩ (by omega) (by omega)
  ·by_cases h1:CB L (a+1) 3=1
   ·obtain⟨kv,a3,c1,c2,c3,c4,O⟩:=TX (L:=L) (a:=a+1+1) (DC hp (by omega) (by omega)) 1 7 (by omega) (by omega) (by omega)
    have O':=fun l K=>O.app (h:=h) (id:=id) (l:=l) (K:=K) hid
    have P2:=DF (DC hp (show a≤a3 by omega) (show a3+14≤a+60 by omega))
    have p1:(JB [[],[65],board] L a3).length≤1000:=gH (by simp) (by simp) 1000 (fun s hs=>by simp only[List.mem_cons,List.not_mem_nil,or_false]at hs;rcases hs with e|e|e <;> rw[e] <;> first|omega|simp)
    have p2:(JB [[],[115,99,97,110]] L (a3+1)).length≤1000:=gH (by simp) (by simp) 1000 (fun s hs=>by simp only[List.mem_cons,List.not_mem_nil,or_false]at hs;rcases hs with e|e <;> rw[e] <;> simp)
    have pw:JB [[],[65],board] L a3∈TE:=by
     have:=vN (l:=[[],[65],board]) (L:=L) (a:=a3) (by simp) (by simp)
     simp only[List.mem_cons,List.not_mem_nil,or_false]at this;rcases this with h|h|h
     ·rw[h];simp [TE]
     ·rw[h];simp [TE]
     ·rw[h];exact xw
    simp only[vF,go_sem,hid,P,P2,hf,h0,h1,↓O',O',hmx];exact hK ⟨site,no,time,kv,JB [[],[65],board] L a3,JB [[],[115,99,97,110]] L (a3+1),of,other⟩ (a3+1+1) _ ⟨xs,p1,p2,xo,xn,xt,xz,pw⟩ (by omega) (by omega)
   ·obtain⟨kv,a3,c1,c2,c3,c4,O⟩:=TX (L:=L) (a:=a+1+1+1) (DC hp (by omega) (by omega)) 0 5 (by omega) (by omega) (by omega)
    have O':=fun l K=>O.app (h:=h) (id:=id) (l:=l) (K:=K) hid
    have p1:(JB [[],[115,97]] L (a+1+1)).length≤1000:=gH (by simp) (by simp) 1000 (fun s hs=>by simp only[List.mem_cons,List.not_mem_nil,or_false]at hs;rcases hs with e|e <;> rw[e] <;> simp)
    simp only[vF,go_sem,hid,P,hf,h0,h1,↓O',O',hmx];exact hK ⟨site,no,time,kind,board,step,JB [[],[115,97]] L (a+1+1),kv⟩ a3 _ ⟨xs,xb,xp,p1,xn,xt,xz,xw⟩ (by omega) (by omega)
 ·simp only[vF,go_sem,hid,P,hf,hmx]
  exact hK ⟨site,no,time,kind,board,step,of,other⟩ (a+1) _ ⟨xs,xb,xp,xo,xn,xt,xz,xw⟩ (by omega) (by omega)
end Go.Am
end
section
/- Entries drawn. -/
open Go
set_option linter.all false
set_option maxRecDepth 100000
namespace Go.Am
variable {L:List Int} {a:Int} {h l:aA} {id:Nat} {K:kA}
attribute [-go_sem] ZA vB EB vF fJ
def ZB (n:Int):AV:=.p (.int .i64 n)
def MB (m:Int)(l:List (List UInt8 × Int)):Prop:=∀s v,RA s l=some v→0≤v∧v≤m
theorem MB.upd {m:Int}{l:List (List UInt8 × Int)}(H:MB m l)(s:List UInt8){c:Int}(h0:0≤c)(h1:c≤m+1):MB (m+1) (VB s c l):=fun s' v hv=>by
 rw[nQ]at hv;split at hv
 ·cases hv;exact⟨h0,h1⟩
 ·have:=H s' v hv;omega
abbrev EH (h:aA)(id:Nat)(L:List Int)(a:Int)(es:List Ent)(M:List (List UInt8 × Int))(x:Ent):aA:=h.set id (BA L a)++[.row (some 8) (es.map Ent.pv) 0,JA PV.str ZB M,x.box]
set_option maxHeartbeats 4000000 in
theorem z27 (hid:id<h.length)(hp:QA 80 a)(es:List Ent)(hes:es.length≤1000)(x:Ent)(hx:EntV x)(M:List (List UInt8 × Int))(v6 v11 v12:AV)(K:Ex→St→Prop)
 (hK:∀(x':Ent) (a':Int) (J:aA),EntV x'→a≤a'→a'≤a+12 →
  K .normal ⟨[(0,.ref id 0),(5,.own h.length (es.length+1) 0 (es.length+1)),(6,v6),(7,.mp (h.length+1)),(11,v11),(12,v12)],h.set id (BA L a') ++ .row (some 8) (es.map Ent.pv++[x'.pv]) 0::JA PV.str ZB M::J,[]⟩) :
 NW (bA X) X.gl kN ⟨[(0,.ref id 0),(5,.own h.length es.length 0 es.length),(6,v6),(7,.mp (h.length+1)),(9,.ref (h.length+2) 0),(11,v11),(12,v12)],EH h id L a es M x,[]⟩ (AC 2 (rD (bA X) X.gl mN K)):=by
 have P:=DF (DC hp (Int.le_refl a) (by omega))
 obtain⟨site,no,time,kind,board,step,of,other⟩:=x;obtain⟨xs,xb,xp,xo,xn,xt,xz,xw⟩:=hx;dsimp only at xs xb xp xo xn xt xz xw;unfold EH Ent.box;dsimp only;by_cases k2:kind=2
 ·have p1:(JB [[115,99,97,110],[115,99,97,110],[102,108,97,115,104],[98,117,114,110]] L a).length≤1000:=gH (by simp) (by simp) 1000 (fun s hs=>by simp only[List.mem_cons,List.not_mem_nil,or_false]at hs;rcases hs with e|e|e|e <;> rw[e] <;> simp)
  simp only[go_sem,hid,P,eq_true k2];rw[fJ];refine uX hid (DC hp (by omega) (by omega)) es hes ⟨site,no,time,kind,board,JB [[115,99,97,110],[115,99,97,110],[102,108,97,115,104],[98,117,114,110]] L a,of,other⟩ ⟨xs,xb,p1,xo,xn,xt,xz,xw⟩ (JA PV.str ZB M) v6 v11 v12 K (fun x' a' J h1 h2 h3=>hK x' a' J h1 (by omega) (by omega))
 ·simp only[go_sem,hid,P,k2]
  rw[fJ];refine uX hid (DC hp (by omega) (by omega)) es hes ⟨site,no,time,kind,board,step,of,other⟩ ⟨xs,xb,xp,xo,xn,xt,xz,xw⟩ (JA PV.str ZB M) v6 v11 v12 K (fun x' a' J h1 h2 h3=>hK x' a' J h1 (by omega) (by omega))
attribute [-go_sem] mX
set_option maxHeartbeats 4000000 in
theorem zfb (hid:id<h.length)(hp:QA 120 a)(es:List Ent)(hes:es.length≤1000)(x:Ent)(hx:EntV x)(M:List (List UInt8 × Int))(m:Int)(hm:0≤m∧m≤1000)(hM:MB m M)(k:Nat)(v6 v11 v12:AV)(K:Ex→St→Prop)
 (hK:∀(x':Ent) (a':Int) (M':List (List UInt8×Int)) (J:aA),EntV x'→a≤a'→a'≤a+15→MB (m+1) M' →
  K .normal ⟨[(0,.ref id 0),(5,.own h.length (es.length+1) 0 (es.length+1)),(6,v6),(7,.mp (h.length+1)),(11,v11),(12,v12)],h.set id (BA L a') ++ .row (some 8) (es.map Ent.pv++[x'.pv]) 0::JA PV.str ZB M'::J,[]⟩) :
 KH (bA X) X.gl kN mN (.ref id 0) (.own h.length es.length 0 es.length) v6 (.mp (h.length+1)) (AI k) (.ref (h.length+2) 0) v11 v12 (EH h id L a es M x) [] K:=by
 have P:=DF (DC hp (Int.le_refl a) (by omega))
 obtain⟨site,no,time,kind,board,step,of,other⟩:=x;obtain⟨xs,xb,xp,xo,xn,xt,xz,xw⟩:=hx;dsimp only at xs xb xp xo xn xt xz xw;obtain⟨c,hc,c0,c1⟩:∃c,(RA site M).getD 0=c∧0≤c∧c≤m:=by
  cases hg:RA site M with
  | none=>exact⟨0,rfl,by omega,hm.1⟩
  | some v=>exact⟨v,rfl,hM site v hg⟩
 have wc:IntKind.i64.wrap (c+1)=c+1:=nA _ (by omega) (by omega)
 have hM':=hM.upd site (c:=c+1) (by omega) (by omega)
 have gu:RA site (VB site (c+1) M)=some (c+1):=by rw[nQ,if_pos rfl]
 have lk:=fun(hp:aA) (M:List (List UInt8×Int)) (e:hp[h.length+1]?=some (JA PV.str ZB M))=>TM (kk:=(none,[2])) (k:=site) z4Q e z4R (ok:=false) (z:=ZB 0)
 have up:=fun(hp:aA) (e:hp[h.length+1]?=some (JA PV.str ZB M))=>EQ (kk:=(none,[2])) (k:=site) z4Q e z4R (v:=c+1) rfl
 have gt:∀(R:Obj) (M:List (List UInt8×Int)) (t:aA),(h.set id (BA L a)++R::JA PV.str ZB M::t)[h.length+1]?=some (JA PV.str ZB M):=fun R M t=>by
  rw[List.getElem?_append_right (by simp)];simp
 have l1:=fun R t=>lk (h.set id (BA L a)++R::JA PV.str ZB M::t) M (gt R M t)
 have l2:=fun R t=>lk (h.set id (BA L a)++R::JA PV.str ZB (VB site (c+1) M)::t) _ (gt R _ t)
 have u1:=fun R t=>up (h.set id (BA L a)++R::JA PV.str ZB M::t) (gt R M t)
 have eo:(Option.map ZB (RA site M)).getD (ZB 0)=AI c:=by
  rw[←hc];cases RA site M <;> rfl
 have es0:∀(R:Obj) (t:aA) (o:Obj),(h.set id (BA L a)++R::JA PV.str ZB M::t).set (h.length+1) o=h.set id (BA L a)++R::o::t:=fun R t o=>by
  rw[List.set_append_right _ _ (by simp)];simp
 simp only[cond_false,eo]at l1;simp only[cond_false,gu,Option.map_some,Option.getD_some,ZB,PC,AV.top,Nat.not_lt_zero,if_false,es0]at l1 l2 u1;unfold EH Ent.box;dsimp only;by_cases k7:kind=7
 ·have p1:(JB [[115,97],[115,98]] L a).length≤1000:=gH (by simp) (by simp) 1000 (fun s hs=>by simp only[List.mem_cons,List.not_mem_nil,or_false]at hs;rcases hs with e|e <;> rw[e] <;> simp)
  simp only[KH,go_sem,hid,P,eq_true k7,l1,l2,u1,wc];rw[fJ];refine uX hid (DC hp (by omega) (by omega)) es hes ⟨site,c+1,time,kind,board,step,JB [[115,97],[115,98]] L a,KC 1 8 L (a+1)⟩ ⟨xs,xb,xp,p1,by dsimp only;omega,xt,xz,xw⟩ (JA PV.str ZB (VB site (c+1) M)) v6 v11 v12 K (fun x' a' J h1 h2 h3=>hK x' a' _ J h1 (by omega) (by omega) hM')
 ·obtain⟨bb,gb,lb,wb⟩:∃bb:List UInt8,([.str [98,49],.str [98,50],.str [98,51]]:List PV)[k%3]?=some (.str bb)∧bb.length≤1000∧bb∈TE:=by
   have h3:k%3<3:=Nat.mod_lt _ (by omega)
   generalize k%3=j at h3;match j,h3 with
   | 0,_=>exact⟨_,rfl,by simp,by simp [TE]⟩
   | 1,_=>exact⟨_,rfl,by simp,by simp [TE]⟩
   | 2,_=>exact⟨_,rfl,by simp,by simp [TE]⟩
  have tm:(k:Int).tmod 3=((k%3:Nat):Int):=by
   rw[Int.tmod_eq_emod_of_nonneg (by omega)];omega
  have hk3:k%3<3:=Nat.mod_lt _ (by omega)
  have cw:∀v:List UInt8,iB none 0 (PV.str v)=some (PV.str v):=fun _=>rfl
  by_cases k3:(3:Int)≤(k:Int)
  ·have p1:(JB [[98,49],[98,49],[98,50],[98,51],[98,52]] L a).length≤1000:=gH (by simp) (by simp) 1000 (fun s hs=>by simp only[List.mem_cons,List.not_mem_nil,or_false]at hs;rcases hs with e|e|e|e|e <;> rw[e] <;> simp)
   have pw:JB [[98,49],[98,49],[98,50],[98,51],[98,52]] L a∈TE:=by
    have:=vN (l:=[[98,49],[98,49],[98,50],[98,51],[98,52]]) (L:=L) (a:=a) (by simp) (by simp)
    simp only[List.mem_cons,List.not_mem_nil,or_false]at this;rcases this with e|e|e|e|e <;> rw[e] <;> simp [TE]
   simp only[KH,go_sem,hid,P,k7,l1,l2,u1,wc,tm,gb,hk3,cw,k3];exact z27 hid (DC hp (by omega) (by omega)) es hes ⟨site,c+1,time,kind,JB [[98,49],[98,49],[98,50],[98,51],[98,52]] L a,step,of,other⟩ ⟨xs,p1,xp,xo,by dsimp only;omega,xt,xz,pw⟩ (VB site (c+1) M) v6 v11 v12 K (fun x' a' J h1 h2 h3=>hK x' a' _ J h1 (by omega) (by omega) hM')
  ·simp only[KH,go_sem,hid,P,k7,l1,l2,u1,wc,tm,gb,hk3,cw,k3]
   exact z27 hid (DC hp (by omega) (by omega)) es hes ⟨site,c+1,time,kind,bb,step,of,other⟩ ⟨xs,lb,xp,xo,by dsimp only;omega,xt,xz,wb⟩ (VB site (c+1) M) v6 v11 v12 K (fun x' a' J h1 h2 h3=>hK x' a' _ J h1 (by omega) (by omega) hM')
end Go.Am
end
section
/- Entries drawn: all,right ones,texts. -/
open Go
set_option linter.all false
set_option maxRecDepth 100000
namespace Go.Am
variable {L:List Int} {a:Int} {h l:aA} {id:Nat} {K:kA}
attribute [-go_sem] ZA vB EB vF fJ mX nX
theorem z2B {P:Ent→Prop}:∀{xs:List PV},(∀x∈xs,∃r,P r∧x=Ent.pv r)→∃rs:List Ent,(∀r∈rs,P r)∧xs=rs.map Ent.pv
 | [],_=>⟨[],by simp,rfl⟩
 | x::xs,h=>by
  obtain⟨r,h1,h2⟩:=h x (by simp)
  obtain⟨rs,h3,h4⟩:=z2B (xs:=xs) (fun y hy=>h y (List.mem_cons_of_mem _ hy))
  refine⟨r::rs,fun z hz=>?_,by rw[h2,h4];rfl⟩
  rcases List.mem_cons.1 hz with rfl|hz
  ·exact h1
  ·exact h3 z hz
set_option maxHeartbeats 4000000 in
theorem zfD (hp:QA 4000 a)(n:Nat)(hn:n≤20) :
 KD cM [AI n] L a (fun v a2=>a≤a2∧a2≤a+1000∧∃rs:List Ent,rs.length≤n∧(∀r∈rs,EntV r)∧v=lB rs):=by
 refine KD.of fun h id hid=>?_
 rw[zao rfl];simp only[YO,go_sem,hid];refine NA (fun t:List Ent×Int×Int×List (List UInt8×Int)=>⟨[(0,.ref id 0),(5,.own h.length t.1.length 0 t.1.length),(6,AI t.2.1),(7,.mp (h.length+1)),(11,AI n),(12,AI t.1.length)],h.set id (BA L t.2.2.1)++[.row (some 8) (t.1.map Ent.pv) 0,JA PV.str ZB t.2.2.2],[]⟩)
  (fun t=>t.1.length≤n∧(∀r∈t.1,EntV r)∧(a≤t.2.2.1∧t.2.2.1≤a+40*t.1.length)∧(0≤t.2.1∧t.2.1≤10*t.1.length)∧MB t.1.length t.2.2.2) (fun t=>n-t.1.length) ([],0,a,[]) rfl ⟨by simp,by simp,by simp,by simp,fun s v h=>by simp [RA]at h⟩ ?_
 rintro⟨es,t,b,M⟩ ⟨q1,q2,⟨q3,q4⟩,⟨q5,q6⟩,q7⟩
 dsimp only at q1 q2 q3 q4 q5 q6 q7;rcases Nat.lt_or_ge es.length n with hlt|hge
 ·have P:=DF (DC hp q3 (show b+14≤a+4000 by omega))
  have w1:IntKind.i64.wrap ((es.length:Int)+1)=((es.length+1:Nat):Int):=nA _ (by omega) (by omega)
  have m1:=z0h (L:=L) (a:=b) (l:=[0,1,1,3,10]) (by simp) (by simp)
  have b1:0≤FD [0,1,1,3,10] L b∧FD [0,1,1,3,10] L b≤10:=by
   simp only[List.mem_cons,List.not_mem_nil,or_false]at m1;omega
  have w2:IntKind.i64.wrap (t+FD [0,1,1,3,10] L b)=t+FD [0,1,1,3,10] L b:=nA _ (by omega) (by omega)
  have ps:(JB [[115,97],[115,97],[115,98]] L (b+1)).length≤1000:=gH (by simp) (by simp) 1000 (fun s hs=>by simp only[List.mem_cons,List.not_mem_nil,or_false]at hs;rcases hs with e|e|e <;> rw[e] <;> simp)
  have pz:JB [[115,97],[115,97],[115,98]] L (b+1)≠[122,122]:=fun e=>by
   have:=vN (l:=[[115,97],[115,97],[115,98]]) (L:=L) (a:=b+1) (by simp) (by simp)
   rw[e]at this;revert this;decide
  obtain⟨t',ht'⟩:∃t',t+FD [0,1,1,3,10] L b=t':=⟨_,rfl⟩;have ht2:0≤t'∧t'≤10*(es.length+1):=by omega
  rw[ht']at w2;have fin:∀(kd:Int),NW (bA X) X.gl kR ⟨[(0,.ref id 0),(5,.own h.length es.length 0 es.length),(6,AI t'),(7,.mp (h.length+1)),(8,AI es.length),(9,.ref (h.length+2) 0),(11,AI n),(12,AI es.length)],EH h id L (b+1+1+1) es M ⟨JB [[115,97],[115,97],[115,98]] L (b+1),0,t',kd,[],[],[],0⟩,[]⟩
   (AC 1 (rD (bA X) X.gl lR (z0z (h.length+2) [] (UM
    (fun t:List Ent×Int×Int×List (List UInt8×Int)=>⟨[(0,.ref id 0),(5,.own h.length t.1.length 0 t.1.length),(6,AI t.2.1),(7,.mp (h.length+1)),(11,AI n),(12,AI t.1.length)],h.set id (BA L t.2.2.1)++[.row (some 8) (t.1.map Ent.pv) 0,JA PV.str ZB t.2.2.2],[]⟩)
    (fun t=>t.1.length≤n∧(∀r∈t.1,EntV r)∧(a≤t.2.2.1∧t.2.2.1≤a+40*t.1.length)∧(0≤t.2.1∧t.2.1≤10*t.1.length)∧MB t.1.length t.2.2.2) (fun t=>n-t.1.length)
    (AC 0 (rD (bA X) X.gl nN (oA [.t 4] false h.length (fun v1 h1 x1=>∃a2,(a≤a2∧a2≤a+1000∧∃rs:List Ent,rs.length≤n∧(∀r∈rs,EntV r)∧v1=lB rs)∧h1=h.set id (BA L a2)∧x1=[])))) (es,t,b,M))))):=by
   intro kd;rw[nX];refine zfb hid (DC hp (by omega) (by omega)) es (by omega) ⟨JB [[115,97],[115,97],[115,98]] L (b+1),0,t',kd,[],[],[],0⟩ ⟨ps,by simp,by simp,by simp,by dsimp only;omega,by dsimp only;omega,⟨pz,by dsimp only;omega⟩,by simp [TE]⟩ M es.length ⟨by omega,by omega⟩ q7 es.length (AI t') (AI n) (AI es.length) _ (fun x' a' M' J r1 r2 r3 r4=>?_)
   have f1:id+1≤h.length+2:=by omega
   have f2:h.length+1≤h.length+2:=by omega
   have f3:h.length+1+1≤h.length+2:=by omega
   simp only[go_sem,w1,f1,f2,f3];refine⟨(es++[x'],t',a',M'),?_,⟨by simp;omega,fun r hr=>?_,⟨by dsimp only;omega,by simp;omega⟩,⟨by dsimp only;omega,by simp;omega⟩,by simpa using r4⟩,by simp;omega⟩
   ·simp only[List.length_append,List.length_cons,List.length_nil,List.map_append,List.map_cons,List.map_nil]
   ·rcases List.mem_append.1 hr with hr|hr
    ·exact q2 r hr
    ·rw[List.mem_singleton]at hr;rw[hr];exact r1
  unfold EH Ent.box at fin;dsimp only at fin;by_cases k3:(es.length:Int)<3
  ·have:=fin 1
   simp only[go_sem,hid,P,hlt,w2,ht',k3,splice];exact this
  ·have:=fin (FD [2,2,2,3,3,4,4,5,5,6,7,1] L (b+1+1))
   simp only[go_sem,hid,P,hlt,w2,ht',k3,splice];exact this
 ·have en:es.length=n:=by omega
  have hb2:¬(es.length<n):=by omega
  have hh:(h.set id (BA L b)++[Obj.row (some 8) (es.map Ent.pv) 0,JA PV.str ZB M])[h.length]?=some (.row (some 8) (es.map Ent.pv) 0):=by rw[List.getElem?_append_right (by simp)];simp
  have st:=fun K=>z6G (h:=h.set id (BA L b)++[Obj.row (some 8) (es.map Ent.pv) 0,JA PV.str ZB M]) (K:=K) h.length (es.map Ent.pv) KL (by simp;omega) hh (g:=bG) (caps:=[]) (c:=fun x y=>EA (TC x) (TC y))
   (fun o x hx y hy K=>by
    obtain⟨p,hp,rfl⟩:=List.mem_map.1 hx;obtain⟨q,hq,rfl⟩:=List.mem_map.1 hy;dsimp only;rw[z0E,z0E];exact zlU p q (q2 p hp) (q2 q hq))
  have hsm:∀x∈FA (ltC fun x y=>EA (TC x) (TC y)) (es.map Ent.pv),∃r,EntV r∧x=Ent.pv r:=fun x hx=>by
   obtain⟨r,hr,rfl⟩:=List.mem_map.1 (EJ.1 hx);exact⟨r,q2 r hr,rfl⟩
  obtain⟨ss,s1,s2⟩:=z2B hsm;have hsl:ss.length=es.length:=by have:=congrArg List.length s2;simp [sQ]at this;omega
  simp only[List.length_map,s2]at st;have e0:∀o,(h.set id (BA L b)++[Obj.row (some 8) (es.map Ent.pv) 0,JA PV.str ZB M]).set h.length o=h.set id (BA L b)++[o,JA PV.str ZB M]:=fun o=>by rw[List.set_append_right _ _ (by simp)];simp
  simp only[e0]at st;have hw:win (ss.map Ent.pv) 0 es.length=ss.map Ent.pv:=oH (by simp [hsl])
  have hcr:es.length≤es.length:=Nat.le_refl _
  have hll:(ss.map Ent.pv).length=es.length:=by simp [hsl]
  simp only[go_sem,hb2,↓st,st,hll,hw,hsl];exact⟨b,⟨q3,by omega,ss,by omega,s1,rfl⟩,rfl⟩
end Go.Am
end
section
/- The floor: its state;a board leaves its site. -/
open Go
set_option linter.all false
set_option maxRecDepth 100000
namespace Go.Am
variable {h:aA} {K:kA}
attribute [-go_sem] ZA vB EB splice
structure Flo where
 bs:uE
 sm:tG
 ck:Nat
 ends:List EndP
 runs:List RunP
 ref:List Int
 why:List Int
def Flo.P (S:Flo):FlP:=⟨asA S.bs,asS S.sm,S.ends,S.runs⟩
def EndP.pv (e:EndP):PV:=.agg [.str e.board,.str e.step,eI e.frm,eI e.til,.bool e.pass]
def RunP.pv (r:RunP):PV:=.agg [.str r.site,eI r.frm,eI r.til]
def eJ (m:tG)(k:Nm):tG:=match iQ k m with
 | some i=>m.eraseIdx i
 | none=>m
theorem z2m {m:tG}{k:Nm}(hu:(m.map fun e=>e.1.1).Nodup):asS (eJ m k)=WF (asS m) k∧((eJ m k).map fun e=>e.1.1).Nodup:=by
 have main:eJ m k=m.filter fun e=>!decide (e.1.1=k):=by
  unfold eJ;induction m with
  | nil=>rfl
  | cons y r ih=>
   rw[List.map_cons,List.nodup_cons]at hu;have q:=ih hu.2
   unfold iQ;rw[List.filter_cons];by_cases h:k=y.1.1
   ·rw[if_pos h]
    have:r.filter (fun e=>!decide (e.1.1=k))=r:=by
     rw[List.filter_eq_self];intro z hz;have:¬z.1.1=k:=fun e=>hu.1 (by rw[←h,←e];exact List.mem_map_of_mem hz)
     simp [this]
    rw[if_neg (by simp [h.symm]),this]
    rfl
   ·have hn:¬y.1.1=k:=fun z=>h z.symm
    rw[if_neg h,if_pos (by simp [hn]),←q]
    cases iQ k r with
    | none=>rfl
    | some i=>rfl
 rw[main];constructor
 ·unfold asS WF
  rw[List.filter_map];rfl
 ·exact List.Nodup.sublist (List.Sublist.map _ List.filter_sublist) hu
attribute [-go_sem] JC
end Go.Am
end
section
/- The floor: a start,a finish. -/
open Go
set_option linter.all false
set_option maxRecDepth 100000
namespace Go.Am
variable {h:aA} {K:kA}
attribute [-go_sem] ZA vB EB JC
def Flo.start (S:Flo)(i:Nat)(x0:Ent)(st:Sta)(x:Ent):Flo:=
 { S with bs:=S.bs.set i (x0,⟨2,x.time,st.step,x.site,st.failed⟩),sm:=S.sm++[((x.site,x.board),S.ck)],ck:=S.ck+1,runs:=S.runs++[⟨x.site,x.time,-1⟩] }
def Flo.startR (S:Flo)(i:Nat)(x0:Ent)(st:Sta)(x:Ent):Int×Flo:=
 if st.state≠1 then(11,S) else if x.step≠st.step then(3,S) else if(qA (asS S.sm) x.site).isSome=true then(12,S) else(0,S.start i x0 st x)
end Go.Am
end
section
/- The floor: a run that ends. -/
open Go
set_option linter.all false
set_option maxRecDepth 100000
namespace Go.Am
variable {h:aA} {K:kA}
attribute [-go_sem] ZA vB EB JC
def Flo.finish (S:Flo)(steps:List Nm)(tries:Int)(i:Nat)(x0:Ent)(st:Sta)(x:Ent):Flo:=
 { S with bs:=S.bs.set i (x0,JF steps tries st x.time (decide (x.kind=3))),sm:=eJ S.sm st.site,ends:=S.ends++[⟨x.board,st.step,st.since,x.time,decide (x.kind=3)⟩],runs:=DG S.runs st.site x.time }
def Flo.finishR (S:Flo)(steps:List Nm)(tries:Int)(i:Nat)(x0:Ent)(st:Sta)(x:Ent):Int×Flo:=
 if st.state≠2 then(11,S) else if st.site≠x.site then(13,S) else(0,S.finish steps tries i x0 st x)
end Go.Am
end
section
/- The floor: an entry taken. -/
open Go
set_option linter.all false
set_option maxRecDepth 100000
namespace Go.Am
variable {h:aA} {K:kA}
attribute [-go_sem] ZA vB EB JC
def Flo.put (S:Flo)(i:Nat)(x0:Ent)(st:Sta):Flo:={ S with bs:=S.bs.set i (x0,st) }
def Flo.old (S:Flo)(steps:List Nm)(tries:Int)(x:Ent)(i:Nat)(x0:Ent)(st:Sta):Int×Flo:=
 if x.kind=2 then S.startR i x0 st x
 else if x.kind=3∨x.kind=4 then S.finishR steps tries i x0 st x
 else if x.kind=5 then(if st.state≠3 then(11,S) else(0,S.put i x0 ⟨1,x.time,st.step,st.site,st.failed⟩))
 else if st.state=4∨st.state=5 then(11,S)
 else if st.state=2 then(0,{ S with bs:=S.bs.set i (x0,⟨5,x.time,st.step,[],st.failed⟩),sm:=eJ S.sm st.site,runs:=DG S.runs st.site x.time })
 else(0,S.put i x0 ⟨5,x.time,st.step,st.site,st.failed⟩)
end Go.Am
end
section
/- The floor: a board that UP;what an entry does,plainly. -/
open Go
set_option linter.all false
set_option maxRecDepth 100000
namespace Go.Am
variable {h:aA} {K:kA}
attribute [-go_sem] ZA vB EB JC
def Flo.enter (S:Flo)(steps:List Nm)(x:Ent):Flo:={ S with bs:=S.bs++[(x,⟨1,x.time,steps.headD [],[],0⟩)] }
end Go.Am
end
section
/- Entries that count;entries up tov a moment. -/
open Go
set_option linter.all false
set_option maxRecDepth 100000
namespace Go.Am
variable {h:aA} {K:kA}
attribute [-go_sem] ZA vB EB JC
theorem zbt {l:List Ent}{k:Nat}(hk:k<l.length):YA (l.drop k)=(!decide ((l[k].site,l[k].no)∈pC (l.drop (k+1))))::YA (l.drop (k+1)):=by
 rw[List.drop_eq_getElem_cons hk,zbr]
theorem znG {l:List Ent}{k:Nat}(hk:k<l.length):pC (l.drop k)=if decide ((l[k].site,l[k].no)∈pC (l.drop (k+1)))=false∧l[k].kind=7 then(l[k].of,l[k].other)::pC (l.drop (k+1)) else pC (l.drop (k+1)):=by
 rw[List.drop_eq_getElem_cons hk,pC]
abbrev zB (b:Bool):PV:=.bool b
def UndM (m:List ((List UInt8 × Int) × Bool))(u:List (Nm × Int)):Prop:=∀k,RA k m=if k∈u then some true else none
set_option maxHeartbeats 4000000 in
theorem zmg (l:List Ent)(hl:l.length≤100000):bA X ZH [lB l] h K=K (.p (.sl none ((YA l).map zB))) h []:=by
 refine xA ?_;rw[zaK rfl];have mx:l.length≤UA:=by unfold UA;omega
 have w0:IntKind.i64.wrap ((l.length:Int)-1)=(l.length:Int)-1:=nA _ (by omega) (by omega)
 simp only[vP,go_sem,mx,w0];refine NA (fun t:Nat×List ((List UInt8×Int)×Bool)=>⟨[(0,lB l),(3,.mp h.length),(4,.own (h.length+1) l.length 0 l.length),(5,AI ((t.1:Int)-1))],h++[JA sD NC t.2,.row none (List.replicate t.1 (zB false)++(YA (l.drop t.1)).map zB) 0],[]⟩)
  (fun t=>t.1≤l.length∧UndM t.2 (pC (l.drop t.1))) (fun t=>t.1) (l.length,[]) ?_ ⟨Nat.le_refl _,fun k=>by simp [pC,RA]⟩ ?_
 ·simp only[List.drop_length,YA,List.map_nil,List.append_nil]
  rfl
 rintro⟨k,m⟩ ⟨hk,hm⟩
 dsimp only at hk hm ⊢;cases k with
 | zero=>
  have c0:¬(0:Int)≤((0:Nat):Int)-1:=by omega
  have cl:=JH l
  simp only[go_sem,c0,List.drop_zero,List.replicate_zero,List.nil_append];have hw:win ((YA l).map zB) 0 l.length=(YA l).map zB:=oH (by simp [cl])
  simp only[List.length_map,cl,hw,if_true];rw[if_pos ⟨trivial,Nat.le_refl _⟩];simp [AV.top]
 | succ k=>
  have hlt:k<l.length:=by omega
  have c0:(0:Int)≤((k+1:Nat):Int)-1:=by omega
  have ek:(((k+1:Nat):Int)-1)=(k:Int):=by omega
  have w1:IntKind.i64.wrap ((k:Int)-1)=(k:Int)-1:=nA _ (by omega) (by omega)
  have hk0:(0:Int)≤(k:Int):=by omega
  have hg:=TB Ent.pv hlt
  have cx:=AE (x:=l[k])
  have cs:=zbt hlt
  have us:=znG hlt
  have lrow:(List.replicate (k+1) (zB false)++(YA (l.drop (k+1))).map zB).length=l.length:=by
   rw[List.length_append,List.length_replicate,List.length_map,JH,List.length_drop];omega
  have grow:(List.replicate (k+1) (zB false)++(YA (l.drop (k+1))).map zB)[k]?=some (zB false):=by
   rw[List.getElem?_append_left (by simp),List.getElem?_replicate];simp
  have srow:∀b:Bool,(List.replicate (k+1) (zB false)++(YA (l.drop (k+1))).map zB).set k (zB b)=List.replicate k (zB false)++(b::YA (l.drop (k+1))).map zB:=fun b=>by
   rw[List.replicate_succ',List.append_assoc,List.set_append_right _ _ (by simp)]
   simp
  have grow2:∀b:Bool,(List.replicate k (zB false)++(b::YA (l.drop (k+1))).map zB)[k]?=some (zB b):=fun b=>by
   rw[List.getElem?_append_right (by simp)];simp
  have lrow2:∀b:Bool,(List.replicate k (zB false)++(b::YA (l.drop (k+1))).map zB).length=l.length:=fun b=>by
   rw[List.length_append,List.length_replicate,List.length_map,List.length_cons,JH,List.length_drop];omega
  obtain⟨R2,hR2⟩:∃R2:Bool→List PV,∀b,List.replicate k (zB false)++(b::YA (l.drop (k+1))).map zB=R2 b:=⟨_,fun _=>rfl⟩
  simp only[hR2]at srow grow2 lrow2;have cb:∀b:Bool,iB none 0 (zB b)=some (zB b):=fun _=>rfl
  generalize hx:l[k]=x at *;have lk:=fun(hp:aA) (e:hp[h.length]?=some (JA sD NC m))=>TM (kk:=(some 2,[2,0])) (k:=(x.site,x.no)) tQ e uQ (ok:=false) (z:=NC false)
  have up:=fun(hp:aA) (e:hp[h.length]?=some (JA sD NC m))=>EQ (kk:=(some 2,[2,0])) (k:=(x.of,x.other)) tQ e uQ (v:=true) rfl
  have l1:=fun t=>lk (h++JA sD NC m::t) (by simp)
  have u1:=fun t=>up (h++JA sD NC m::t) (by simp)
  have es:(Option.map NC (RA (x.site,x.no) m)).getD (NC false)=AB (decide ((x.site,x.no)∈pC (l.drop (k+1)))):=by
   rw[hm];by_cases e:(x.site,x.no)∈pC (l.drop (k+1)) <;> simp [e,NC]
  simp only[cond_false,es]at l1;have nl0:¬h.length<0:=by omega
  simp only[NC,sD,PC,AV.top,nl0,if_false]at l1 u1;generalize hb:decide ((x.site,x.no)∈pC (l.drop (k+1)))=b at *;generalize hrow:List.replicate (k+1) (zB false)++(YA (l.drop (k+1))).map zB=row at *;cases b with
  | true=>
   rw[if_neg (by simp)]at us
   simp only[go_sem,c0,ek,hk0,hlt,hg,cx,Ent.pv,splice,l1,lrow,grow,srow,grow2,lrow2,cb,w1];refine⟨(k,m),?_,⟨by dsimp only;omega,by rw[us];exact hm⟩,by dsimp only;omega⟩
   dsimp only;rw[cs,hR2];rfl
  | false=>
   by_cases k7:x.kind=7
   ·rw[if_pos ⟨rfl,k7⟩]at us
    simp only[go_sem,c0,ek,hk0,hlt,hg,cx,Ent.pv,splice,l1,u1,lrow,grow,srow,grow2,lrow2,cb,w1,eq_true k7];refine⟨(k,VB (x.of,x.other) true m),?_,⟨by dsimp only;omega,?_⟩,by dsimp only;omega⟩
    ·dsimp only
     rw[cs,hR2];rfl
    ·rw[us]
     intro j;rw[nQ,hm j];by_cases e:j=(x.of,x.other)
     ·simp [e]
     ·rw[if_neg e];simp [e]
   ·rw[if_neg (by simp [k7])]at us
    simp only[go_sem,c0,ek,hk0,hlt,hg,cx,Ent.pv,splice,l1,lrow,grow,srow,grow2,lrow2,cb,w1,k7];refine⟨(k,m),?_,⟨by dsimp only;omega,by rw[us];exact hm⟩,by dsimp only;omega⟩
    dsimp only;rw[cs,hR2];rfl
end Go.Am
end
section
/- Entries followed. -/
open Go
set_option linter.all false
set_option maxRecDepth 100000
namespace Go.Am
variable {h:aA} {K:kA}
attribute [-go_sem] ZA vB EB JC
def Flo.act (S:Flo)(steps:List Nm)(tries:Int)(x:Ent):Int×Flo:=match ixB x.board S.bs with
 | none=>if x.kind=1 then(0,S.enter steps x) else(8,S)
 | some i=>match S.bs[i]? with
  | none=>(8,S)
  | some e=>if x.kind=1 then(6,S) else S.old steps tries x i e.1 e.2
structure FlI (S:Flo) (steps:List Nm) (n:Nat):Prop where
 st:∀e∈S.bs,(e.2.state=1∨e.2.state=2∨e.2.state=3)→e.2.step∈steps
 fl:∀e∈S.bs,0≤e.2.failed∧e.2.failed≤n
 nb:(S.bs.map fun e=>e.1.board).Nodup
 ns:(S.sm.map fun e=>e.1.1).Nodup
 bl:S.bs.length≤n
 rl:S.runs.length≤n
 el:S.ends.length≤n
 fr:S.ref.length≤n
 fw:S.why.length≤n
theorem BQ {α:Type}{l:List α}{i:Nat}{a y:α}(h:y∈l.set i a):y∈l∨y=a:=by
 rw[List.mem_iff_getElem?]at h;obtain⟨j,hj⟩:=h;rw[List.getElem?_set]at hj;split at hj
 ·split at hj
  ·right;exact(Option.some.inj hj).symm
  ·cases hj
 ·left;exact List.mem_of_getElem? hj
theorem zm9 {bs:uE}{i:Nat}{e:Ent × Sta}(he:bs[i]?=some e)(s:Sta):(bs.set i (e.1,s)).map (fun e=>e.1.board)=bs.map fun e=>e.1.board:=by
 rw[List.map_set];apply List.ext_getElem?
 intro j;rw[List.getElem?_set];split
 ·rename_i h;subst h
  rw[List.getElem?_map,he];have:i<(bs.map fun e=>e.1.board).length:=by
   rw[List.length_map];rcases Nat.lt_or_ge i bs.length with h|h
   ·exact h
   ·rw[List.getElem?_eq_none h]at he;cases he
  rw[if_pos this];rfl
 ·rfl
theorem FlI.set {S:Flo}{steps:List Nm}{n:Nat}(I:FlI S steps n){i:Nat}{e:Ent × Sta}(he:S.bs[i]?=some e)(s:Sta)(h1:(s.state=1∨s.state=2∨s.state=3)→s.step∈steps)(h2:0≤s.failed∧s.failed≤n+1)
 (S':Flo) (hb:S'.bs=S.bs.set i (e.1,s)) (hn:(S'.sm.map fun e=>e.1.1).Nodup) (hr:S'.runs.length≤n+1) (hl:S'.ends.length≤n+1) (hf:S'.ref=S.ref) (hw:S'.why=S.why):FlI S' steps (n+1) where
 st y hy:=by
  rw[hb]at hy;rcases BQ hy with h|h
  ·exact I.st y h
  ·rw[h];exact h1
 fl y hy:=by
  rw[hb]at hy;rcases BQ hy with h|h
  ·have:=I.fl y h;omega
  ·rw[h];dsimp only;omega
 nb:=by rw[hb,zm9 he];exact I.nb
 ns:=hn
 bl:=by rw[hb,List.length_set];have:=I.bl;omega
 rl:=hr
 el:=hl
 fr:=by rw[hf];have:=I.fr;omega
 fw:=by rw[hw];have:=I.fw;omega
theorem FlI.up {S:Flo}{steps:List Nm}{n:Nat}(I:FlI S steps n):FlI S steps (n+1):=
 ⟨I.st,fun e he=>by have:=I.fl e he;omega,I.nb,I.ns,by have:=I.bl;omega,by have:=I.rl;omega,by have:=I.el;omega,by have:=I.fr;omega,by have:=I.fw;omega⟩
theorem z9s {m:tG}{k v:Nm}{c:Nat}(hn:qA (asS m) k=none):asS (m++[((k,v),c)])=PA (asS m) k v∧((m.map fun e=>e.1.1).Nodup→((m++[((k,v),c)]).map fun e=>e.1.1).Nodup):=by
 have ha:(asS m).any (fun e=>decide (e.1=k))=false:=by
  cases h:(asS m).any (fun e=>decide (e.1=k)) with
  | false=>rfl
  | true=>
   exfalso;obtain⟨e,he,hk⟩:=List.any_eq_true.1 h;unfold qA at hn;rw[Option.map_eq_none_iff,List.find?_eq_none]at hn;exact hn e he hk
 constructor
 ·unfold PA
  rw[if_neg (by simp [ha])]
  unfold asS;simp
 ·intro hu
  rw[List.map_append,List.nodup_append];refine⟨hu,by simp,fun a ha2 b hb2 e=>?_⟩
  have hb3:b=k:=by simpa using hb2
  subst hb3;subst e;obtain⟨y,hy,e2⟩:=List.mem_map.1 ha2;have:(asS m).any (fun e=>decide (e.1=a))=true:=List.any_eq_true.2 ⟨y.1,List.mem_map_of_mem hy,by simpa using e2⟩
  rw[ha]at this;cases this
theorem z4O {k:Nm}:∀{bs:uE},ixB k bs=none→k∉bs.map fun e=>e.1.board
 | [],_=>by simp
 | e::r,h=>by
  unfold ixB at h;by_cases hk:k=e.1.board
  ·rw[if_pos hk]at h;cases h
  ·rw[if_neg hk]at h
   have:=z4O (bs:=r) (by simpa using h)
   simp only[List.map_cons,List.mem_cons,not_or];exact⟨hk,this⟩
theorem act_P {S:Flo}{steps:List Nm}{tries:Int}{n:Nat}(I:FlI S steps n)(hst:steps≠[])(x:Ent) :
 (S.act steps tries x).1=(ZC steps tries S.P x).2∧(S.act steps tries x).2.P=(ZC steps tries S.P x).1∧FlI (S.act steps tries x).2 steps (n+1)∧(S.act steps tries x).2.ref=S.ref∧(S.act steps tries x).2.why=S.why:=by
 obtain⟨g1,g2⟩:=z4N x.board S.bs;unfold Flo.act;cases hx:ixB x.board S.bs with
 | none=>
  have hg:qA S.P.bs x.board=none:=g1 hx
  dsimp only;by_cases k1:x.kind=1
  ·rw[if_pos k1]
   unfold ZC;rw[if_pos k1,hg];refine⟨rfl,?_,?_,rfl,rfl⟩
   ·unfold Flo.enter Flo.P
    dsimp only;rw[z9q hx x rfl]
   ·obtain⟨a,r,rfl⟩:∃a r,steps=a::r:=by
     cases steps with
     | nil=>exact absurd rfl hst
     | cons a r=>exact⟨a,r,rfl⟩
    unfold Flo.enter;refine⟨fun e he=>?_,fun e he=>?_,?_,I.ns,?_,by have:=I.rl;dsimp only;omega,by have:=I.el;dsimp only;omega,by have:=I.fr;dsimp only;omega,by have:=I.fw;dsimp only;omega⟩
    ·rcases List.mem_append.1 he with h|h
     ·exact I.st e h
     ·rw[List.mem_singleton.1 h];intro _;simp
    ·rcases List.mem_append.1 he with h|h
     ·have:=I.fl e h;omega
     ·rw[List.mem_singleton.1 h];dsimp only;omega
    ·dsimp only
     rw[List.map_append,List.nodup_append];refine⟨I.nb,by simp,fun a ha b hb e=>?_⟩
     have hb2:b=x.board:=by simpa using hb
     subst hb2;subst e
     exact z4O hx ha
    ·dsimp only;rw[List.length_append];have:=I.bl;simp;omega
  ·rw[if_neg k1]
   unfold ZC;rw[if_neg k1,hg];exact⟨rfl,rfl,I.up,rfl,rfl⟩
 | some i=>
  obtain⟨e,he,hk,hg⟩:=g2 i hx;have hg':qA S.P.bs x.board=some e.2:=hg
  have pu:=fun s=>z9r hx he I.nb s
  have hm:e∈S.bs:=List.mem_of_getElem? he
  have hfl:=I.fl e hm
  have hse:=I.st e hm
  dsimp only;rw[he];dsimp only;unfold ZC;by_cases k1:x.kind=1
  ·rw[if_pos k1,if_pos k1,hg']
   exact⟨rfl,rfl,I.up,rfl,rfl⟩
  rw[if_neg k1,if_neg k1,hg'];dsimp only;unfold Flo.old;have rl:=I.rl
  have el:=I.el
  by_cases k2:x.kind=2
  ·rw[if_pos k2,if_pos k2]
   unfold Flo.startR;by_cases h1:e.2.state≠1
   ·rw[if_pos h1,if_pos h1];exact⟨rfl,rfl,I.up,rfl,rfl⟩
   rw[if_neg h1,if_neg h1];by_cases h2:x.step≠e.2.step
   ·rw[if_pos h2,if_pos h2];exact⟨rfl,rfl,I.up,rfl,rfl⟩
   rw[if_neg h2,if_neg h2];have hb:S.P.sites=asS S.sm:=rfl
   rw[hb];by_cases h3:(qA (asS S.sm) x.site).isSome=true
   ·rw[if_pos h3,if_pos h3];exact⟨rfl,rfl,I.up,rfl,rfl⟩
   rw[if_neg h3,if_neg h3];have hn:qA (asS S.sm) x.site=none:=by simpa using h3
   obtain⟨q1,q2⟩:=z9s (v:=x.board) (c:=S.ck) hn;refine⟨rfl,?_,?_,rfl,rfl⟩
   ·unfold Flo.start Flo.P
    dsimp only;rw[pu,q1]
   ·have hs1:e.2.state=1:=by simpa using h1
    exact I.set he ⟨2,x.time,e.2.step,x.site,e.2.failed⟩ (fun _=>hse (.inl hs1)) (by dsimp only;omega) _ rfl (q2 I.ns) (by unfold Flo.start;dsimp only;rw[List.length_append];simp;omega) (by unfold Flo.start;dsimp only;omega) rfl rfl
  rw[if_neg k2,if_neg k2];by_cases k34:x.kind=3∨x.kind=4
  ·rw[if_pos k34,if_pos k34]
   unfold Flo.finishR;by_cases h1:e.2.state≠2
   ·rw[if_pos h1,if_pos h1];exact⟨rfl,rfl,I.up,rfl,rfl⟩
   rw[if_neg h1,if_neg h1];by_cases h2:e.2.site≠x.site
   ·rw[if_pos h2,if_pos h2];exact⟨rfl,rfl,I.up,rfl,rfl⟩
   rw[if_neg h2,if_neg h2];have hs2:e.2.state=2:=by simpa using h1
   have hin:=hse (.inr (.inl hs2))
   obtain⟨q1,q2⟩:=z2m (m:=S.sm) (k:=e.2.site) I.ns;refine⟨rfl,?_,?_,rfl,rfl⟩
   ·unfold Flo.finish Flo.P
    dsimp only;rw[pu,q1]
   ·refine I.set he (JF steps tries e.2 x.time (decide (x.kind=3))) (fun h=>?_) ?_ _ rfl q2 (by unfold Flo.finish DG;dsimp only;rw[List.length_map];omega) (by unfold Flo.finish;dsimp only;rw[List.length_append];simp;omega) rfl rfl
    ·unfold JF at h ⊢
     by_cases k3:x.kind=3
     ·rw[if_pos (by simp [k3])]at h ⊢
      by_cases hj:steps.findIdx (fun y=>decide (y=e.2.step))+1=steps.length
      ·rw[if_pos hj]at h;dsimp only at h;omega
      ·rw[if_neg hj]
       have jl:steps.findIdx (fun y=>decide (y=e.2.step))<steps.length:=List.findIdx_lt_length_of_exists ⟨e.2.step,hin,by simp⟩
       have jl2:steps.findIdx (fun y=>decide (y=e.2.step))+1<steps.length:=by omega
       dsimp only;rw[List.getElem?_eq_getElem jl2];exact List.getElem_mem jl2
     ·rw[if_neg (by simp [k3])];exact hin
    ·unfold JF
     split
     ·split <;> (dsimp only;omega)
     ·dsimp only;omega
  rw[if_neg k34,if_neg k34];by_cases k5:x.kind=5
  ·rw[if_pos k5,if_pos k5]
   by_cases h1:e.2.state≠3
   ·rw[if_pos h1,if_pos h1];exact⟨rfl,rfl,I.up,rfl,rfl⟩
   rw[if_neg h1,if_neg h1];have hs3:e.2.state=3:=by simpa using h1
   refine⟨rfl,?_,?_,rfl,rfl⟩
   ·unfold Flo.put Flo.P
    dsimp only;rw[pu]
   ·exact I.set he ⟨1,x.time,e.2.step,e.2.site,e.2.failed⟩ (fun _=>hse (.inr (.inr hs3))) (by dsimp only;omega) _ rfl I.ns (by unfold Flo.put;dsimp only;omega) (by unfold Flo.put;dsimp only;omega) rfl rfl
  rw[if_neg k5,if_neg k5];by_cases h45:e.2.state=4∨e.2.state=5
  ·rw[if_pos h45,if_pos h45];exact⟨rfl,rfl,I.up,rfl,rfl⟩
  rw[if_neg h45,if_neg h45];have no5:∀(a:Int) (b c:Nm) (f:Int),((⟨5,a,b,c,f⟩:Sta).state=1∨(⟨5,a,b,c,f⟩:Sta).state=2∨(⟨5,a,b,c,f⟩:Sta).state=3)→b∈steps:=fun a b c f h=>by dsimp only at h;omega
  by_cases h2:e.2.state=2
  ·rw[if_pos h2,if_pos h2]
   obtain⟨q1,q2⟩:=z2m (m:=S.sm) (k:=e.2.site) I.ns;refine⟨rfl,?_,?_,rfl,rfl⟩
   ·unfold Flo.P
    dsimp only;rw[pu,q1]
   ·exact I.set he ⟨5,x.time,e.2.step,[],e.2.failed⟩ (no5 _ _ _ _) (by dsimp only;omega) _ rfl q2 (by unfold DG;dsimp only;rw[List.length_map];omega) (by dsimp only;omega) rfl rfl
  ·rw[if_neg h2,if_neg h2]
   refine⟨rfl,?_,?_,rfl,rfl⟩
   ·unfold Flo.put Flo.P
    dsimp only;rw[pu]
   ·exact I.set he ⟨5,x.time,e.2.step,e.2.site,e.2.failed⟩ (no5 _ _ _ _) (by dsimp only;omega) _ rfl I.ns (by unfold Flo.put;dsimp only;omega) (by unfold Flo.put;dsimp only;omega) rfl rfl
end Go.Am
end
section
/- Entries followed: the walk. -/
open Go
set_option linter.all false
set_option maxRecDepth 100000
namespace Go.Am
variable {h:aA} {K:kA}
attribute [-go_sem] ZA vB EB JC
def upK (l:List Ent)(at_:Int):Nat→Nat
 | 0=>0
 | k+1=>if at_<((l[k]?).map Ent.time).getD 0 then upK l at_ k else k+1
def upL (l:List Ent)(at_:Int):List Ent:=l.take (upK l at_ l.length)
theorem zmw (l:List Ent)(at_:Int)(hl:l.length≤1000000):bA X bI [lB l,AI at_] h K=K (lB (upL l at_)) h []:=by
 refine xA ?_;rw[zaR rfl];simp only[yP,go_sem];refine NA (fun k:Nat=>⟨[(0,lB l),(1,AI at_),(5,AI k)],h,[]⟩) (fun k=>k≤l.length∧upK l at_ k=upK l at_ l.length) (fun k=>k) l.length rfl ⟨Nat.le_refl _,rfl⟩ ?_
 rintro k ⟨hk,hp⟩
 have fin:upK l at_ l.length=k→(∀P:Prop,True)→lB (upL l at_)=lB (l.take k):=fun e _=>by unfold upL;rw[e]
 have hw:∀k,win (l.map Ent.pv) 0 k=(l.take k).map Ent.pv:=fun k=>by simp [win,List.map_take]
 cases k with
 | zero=>
  have c0:¬(0:Int)<((0:Nat):Int):=by omega
  have e:=fin hp.symm (fun _=>trivial)
  simp only[go_sem,Int.lt_irrefl,hw,Nat.zero_le,e,c0];first|done|rfl
 | succ k=>
  have hlt:k<l.length:=by omega
  have c0:(0:Int)<((k+1:Nat):Int):=by omega
  have w1:IntKind.i64.wrap (((k+1:Nat):Int)-1)=(k:Int):=by rw[nA _ (by omega) (by omega)];omega
  have hg:=TB Ent.pv hlt
  have ct:iB none 2 (Ent.pv l[k])=some (eI l[k].time):=rfl
  rw[upK,List.getElem?_eq_getElem hlt]at hp;have e0:(Option.map Ent.time (some l[k])).getD 0=l[k].time:=rfl
  rw[e0]at hp;by_cases h1:at_<l[k].time
  ·rw[if_pos h1]at hp
   simp only[go_sem,c0,w1,hlt,hg,ct,h1];exact⟨k,rfl,⟨by omega,hp⟩,by omega⟩
  ·rw[if_neg h1]at hp
   have e:=fin hp.symm (fun _=>trivial)
   have hk':k+1≤l.length:=hk
   simp only[go_sem,c0,w1,hlt,hg,ct,h1,hw,hk',e];first|done|rfl
def Flo.step (S:Flo)(steps:List Nm)(tries:Int)(i:Nat)(x:Ent):Flo:=
 if(S.act steps tries x).1≠0 then { (S.act steps tries x).2 with ref:=(S.act steps tries x).2.ref++[(i:Int)],why:=(S.act steps tries x).2.why++[(S.act steps tries x).1] } else(S.act steps tries x).2
def Flo.go (steps:List Nm)(tries:Int):Flo→Nat→List (Ent×Bool)→Flo
 | S,_,[]=>S
 | S,i,(x,c)::r=>if c=false∨x.kind=7 then Flo.go steps tries S (i+1) r else Flo.go steps tries (S.step steps tries i x) (i+1) r
def flo0:Flo:=⟨[],[],0,[],[],[],[]⟩
theorem flI0 (steps:List Nm):FlI flo0 steps 0:=
 ⟨fun e he=>(by cases he),fun e he=>(by cases he),List.nodup_nil,List.nodup_nil,Nat.le_refl _,Nat.le_refl _,Nat.le_refl _,Nat.le_refl _,Nat.le_refl _⟩
theorem zmP {S:Flo}{steps:List Nm}{tries:Int}{n:Nat}(I:FlI S steps n)(hst:steps≠[])(i:Nat)(x:Ent) :
 FlI (S.step steps tries i x) steps (n+1)∧(S.step steps tries i x).P=(ZC steps tries S.P x).1∧(S.step steps tries i x).ref=(if(ZC steps tries S.P x).2≠0 then S.ref++[(i:Int)] else S.ref)∧(S.step steps tries i x).why=(if(ZC steps tries S.P x).2≠0 then S.why++[(ZC steps tries S.P x).2] else S.why):=by
 obtain⟨a1,a2,a3,a4,a5⟩:=act_P (tries:=tries) I hst x;unfold Flo.step;rw[←a1];by_cases h0:(S.act steps tries x).1≠0
 ·rw[if_pos h0,if_pos h0,if_pos h0]
  refine⟨⟨a3.st,a3.fl,a3.nb,a3.ns,a3.bl,a3.rl,a3.el,?_,?_⟩,a2,by dsimp only;rw[a4],by dsimp only;rw[a5]⟩
  ·dsimp only;rw[List.length_append,a4];have:=I.fr;simp;omega
  ·dsimp only;rw[List.length_append,a5];have:=I.fw;simp;omega
 ·rw[if_neg h0,if_neg h0,if_neg h0]
  exact⟨a3,a2,a4,a5⟩
end Go.Am
end
section
/- Entries followed: the walk,all. -/
open Go
set_option linter.all false
set_option maxRecDepth 100000
namespace Go.Am
variable {h:aA} {K:kA}
attribute [-go_sem] ZA vB EB JC
def flB (steps:List Nm)(tries:Int):Obj:=.box [tE steps,AI tries]
def zipC (l:List Ent):List (Ent×Bool):=l.zip (YA l)
abbrev znu (steps:List Nm)(tries:Int)(l:List Ent):Flo:=Flo.go steps tries flo0 0 (zipC l)
end Go.Am
end
section
/- Flows;what is refused;the status of a board: the program. -/
open Go
set_option linter.all false
set_option maxRecDepth 100000
namespace Go.Am
variable {h:aA} {K:kA}
attribute [-go_sem] ZA vB EB JC
def jG (n:Int):Int:=if pD n=true then 0 else 1
theorem zmn (n:Int):bA X aI [AI n] h K=K (AI (jG n)) h []:=by
 refine xA ?_;rw[zaO rfl];unfold jG;cases h1:pD n with
 | false=>simp only[EL,go_sem,kG,h1,Bool.false_eq_true]
 | true=>simp only[EL,go_sem,kG,h1]
end Go.Am
end
section
/- What is pC at once is nothing;refused entries left out: plainly. -/
open Go
set_option linter.all false
set_option maxRecDepth 100000
namespace Go.Am
def gtE (a b:Ent):Prop:=0<EA b a
theorem SF {x y:Int}:0<uB x y↔y<x:=by unfold uB;split <;> (try split) <;> omega
theorem TF {x y:Int}:uB x y=0↔x=y:=by unfold uB;split <;> (try split) <;> omega
theorem zfO {a b c:Ent}(h1:gtE a b)(h2:gtE b c):gtE a c:=by
 unfold gtE EA at *;have lt1:∀{x y:List UInt8},0<OA x y↔OA y x<0:=fun {x y}=>by rw[HH y x];omega
 by_cases t1:uB b.time a.time=0
 ·rw[if_neg (by simp [t1])]at h1
  have e1:=TF.1 t1
  by_cases t2:uB c.time b.time=0
  ·rw[if_neg (by simp [t2])]at h2
   have e2:=TF.1 t2
   rw[if_neg (by rw[e2,e1];simp [TF])]
   by_cases s1:OA b.site a.site=0
   ·rw[if_neg (by simp [s1])]at h1
    have f1:=GH s1
    by_cases s2:OA c.site b.site=0
    ·rw[if_neg (by simp [s2])]at h2
     have f2:=GH s2
     rw[if_neg (by rw[f2,f1];simp [CO])]
     rw[SF]at *;omega
    ·rw[if_pos s2]at h2
     rw[f1]at s2 h2;rw[if_pos s2];exact h2
   ·rw[if_pos s1]at h1
    by_cases s2:OA c.site b.site=0
    ·have f2:=GH s2
     rw[f2,if_pos s1];exact h1
    ·rw[if_pos s2]at h2
     have q:=LU (lt1.1 h1) (lt1.1 h2)
     have q2:=lt1.2 q
     rw[if_pos (by omega)];exact q2
  ·rw[if_pos t2,SF]at h2
   have:¬uB c.time a.time=0:=fun z=>by have:=TF.1 z;omega
   rw[if_pos this,SF];omega
 ·rw[if_pos t1,SF]at h1
  by_cases t2:uB c.time b.time=0
  ·have e2:=TF.1 t2
   have:¬uB c.time a.time=0:=fun z=>by have:=TF.1 z;omega
   rw[if_pos this,SF];omega
  ·rw[if_pos t2,SF]at h2
   have:¬uB c.time a.time=0:=fun z=>by have:=TF.1 z;omega
   rw[if_pos this,SF];omega
theorem zfd (p:Option Ent)(x:Ent)(r:List Ent):BC p (x::r)=(if mB x≠0 then mB x else if(p.elim false fun q=>decide (EA x q≤0))=true then 7 else BC (some x) r):=by cases p <;> rfl
theorem z2A:∀ (l:List Ent)(p:Option Ent),BC p l=0↔(∀x∈l,mB x=0)∧(p.toList++l).Pairwise gtE∨l=[]
 | [],p=>by simp [BC]
 | x::r,p=>by
  have ih:=z2A r (some x)
  rw[zfd];have ord:((p.elim false fun q=>decide (EA x q≤0))=true)↔¬ ∀q∈p.toList,gtE q x:=by
   cases p with
   | none=>simp
   | some q=>simp [gtE]
  constructor
  ·intro h
   left;by_cases h1:mB x=0
   ·rw[if_neg (by simp [h1])]at h
    by_cases h2:(p.elim false fun q=>decide (EA x q≤0))=true
    ·rw[if_pos h2]at h;exact absurd h (by decide)
    ·rw[if_neg h2]at h
     have h2':∀q∈p.toList,gtE q x:=by
      rw[ord]at h2;exact Classical.not_not.1 h2
     have hr:(x::r).Pairwise gtE:=by
      rcases ih.1 h with⟨_,q⟩|q
      ·exact q
      ·rw[q];exact List.pairwise_singleton ..
     refine⟨fun y hy=>?_,?_⟩
     ·rcases List.mem_cons.1 hy with e|e
      ·rw[e];exact h1
      ·rcases ih.1 h with⟨q,_⟩|q
       ·exact q y e
       ·rw[q]at e;cases e
     ·cases p with
      | none=>exact hr
      | some q=>
       refine List.pairwise_cons.2 ⟨fun y hy=>?_,hr⟩
       have hq:=h2' q (by simp)
       rcases List.mem_cons.1 hy with e|e
       ·rw[e];exact hq
       ·exact zfO hq ((List.pairwise_cons.1 hr).1 y e)
   ·rw[if_pos h1]at h;exact absurd h h1
  ·intro h
   rcases h with⟨h1,h2⟩|h
   ·have hx:=h1 x (List.mem_cons_self ..)
    rw[if_neg (by simp [hx])]
    have hr:(x::r).Pairwise gtE:=(List.pairwise_append.1 h2).2.1
    have hn:¬(p.elim false fun q=>decide (EA x q≤0))=true:=by
     rw[ord];exact Classical.not_not.2 fun q hq=>(List.pairwise_append.1 h2).2.2 q hq x (List.mem_cons_self ..)
    rw[if_neg hn];exact ih.2 (.inl ⟨fun y hy=>h1 y (List.mem_cons_of_mem _ hy),hr⟩)
   ·cases h
theorem FS:∀ (l seen:List Ent),xC seen l=false↔(∀x∈l,∀o∈seen,rB o x=false)∧l.Pairwise fun o x=>rB o x=false
 | [],seen=>by simp [xC]
 | x::r,seen=>by
  have ih:=FS r (seen++[x])
  unfold xC;by_cases h:seen.any (fun o=>rB o x)=true
  ·rw[if_pos h]
   constructor
   ·intro q;cases q
   ·rintro⟨q,_⟩
    obtain⟨o,ho,hs⟩:=List.any_eq_true.1 h;rw[q x (List.mem_cons_self ..) o ho]at hs;cases hs
  ·rw[if_neg h,ih,List.pairwise_cons]
   have hs:∀o∈seen,rB o x=false:=by simpa using h
   constructor
   ·rintro⟨q1,q2⟩
    refine⟨fun y hy o ho=>?_,fun y hy=>q1 y hy x (by simp),q2⟩
    rcases List.mem_cons.1 hy with e|e
    ·rw[e];exact hs o ho
    ·exact q1 y e o (by simp [ho])
   ·rintro⟨q1,q2,q3⟩
    refine⟨fun y hy o ho=>?_,q3⟩
    rcases List.mem_append.1 ho with e|e
    ·exact q1 y (List.mem_cons_of_mem _ hy) o e
    ·rw[List.mem_singleton.1 e];exact q2 y hy
theorem wX (l:List Ent):WA l=0↔l.length≤2000∧(∀x∈l,mB x=0)∧l.Pairwise gtE∧l.Pairwise fun o x=>rB o x=false:=by
 have e0:BC none l=0↔(∀x∈l,mB x=0)∧l.Pairwise gtE:=by
  rw[z2A];constructor
  ·rintro (h|h)
   ·exact h
   ·rw[h];simp
  ·intro h;exact .inl h
 have t0:=FS l []
 unfold WA;constructor
 ·intro h
  split at h
  ·cases h
  rename_i h1;split at h
  ·rename_i h2;exact absurd h h2
  rename_i h2;split at h
  ·cases h
  rename_i h3;have h2':BC none l=0:=by simpa using h2
  have h3':xC [] l=false:=by simpa using h3
  exact⟨by omega,(e0.1 h2').1,(e0.1 h2').2,(t0.1 h3').2⟩
 ·rintro⟨h1,h2,h3,h4⟩
  rw[if_neg (by omega),if_neg (by simp [e0.2 ⟨h2,h3⟩]),if_neg (by rw[t0.2 ⟨fun _ _ _ h=>(by cases h),h4⟩];simp)]
theorem early {l:List Ent}(hv:∀ x∈l,EntV x)(hf:WA l=0):∀x∈l,x.time≤1000∧x.site≠[122,122]:=fun x hx=>by
 have:=(TP (vX hf x hx)).t;have z:=(hv x hx).z
 exact⟨by omega,z.1⟩
end Go.Am
end
section
/- Entries tB: the program's way and the reference's,plainly. -/
open Go
set_option linter.all false
namespace Go.Am
theorem SP {a b:Ent}:EA a b≤0↔a.time<b.time∨(a.time=b.time∧(OA a.site b.site<0∨(a.site=b.site∧a.no≤b.no))):=by
 unfold EA;by_cases h1:uB a.time b.time=0
 ·have e1:=TF.1 h1
  rw[if_neg (by omega)]
  by_cases h2:OA a.site b.site=0
  ·have e2:=GH h2
   rw[if_neg (by omega)]
   have n1:¬OA a.site b.site<0:=by omega
   simp only[e1,e2,Int.lt_irrefl,true_and,false_or];have:=SF (x:=a.no) (y:=b.no);have h3:OA b.site b.site=0:=by rw[←e2]at h2 ⊢;exact h2
   constructor
   ·intro h;right;omega
   ·rintro (h|h) <;> omega
  ·rw[if_pos h2]
   have n2:a.site≠b.site:=fun e=>h2 (by rw[e];have:=HH b.site b.site;omega)
   simp only[e1,Int.lt_irrefl,true_and,false_or,n2,false_and,or_false];omega
 ·rw[if_pos h1]
  have n1:a.time≠b.time:=fun e=>h1 (TF.2 e)
  have:=SF (x:=a.time) (y:=b.time);simp only[n1,false_and,or_false];omega
theorem iF:Ordr EA:=by
 refine⟨fun a b=>z24 a b,fun a b d h1 h2=>?_⟩
 rw[SP]at *;rcases h1 with h1|⟨h1,h1'⟩ <;> rcases h2 with h2|⟨h2,h2'⟩
 ·exact .inl (by omega)
 ·exact .inl (by omega)
 ·exact .inl (by omega)
 ·refine .inr ⟨by omega,?_⟩
  rcases h1' with h1'|⟨h1',h3⟩ <;> rcases h2' with h2'|⟨h2',h4⟩
  ·exact .inl (LU h1' h2')
  ·exact .inl (by rw[←h2'];exact h1')
  ·exact .inl (by rw[h1'];exact h2')
  ·exact .inr ⟨by rw[h1',h2'],by omega⟩
theorem tX {a b:Ent}(h:EA a b=0):rB a b=true:=by
 have h1:=(SP (a:=a) (b:=b)).1 (by omega)
 have h2:=(SP (a:=b) (b:=a)).1 (by have:=iF.neg a b;omega)
 have hn:=HH a.site b.site
 rcases h1 with h1|⟨_,h1|⟨h1,h3⟩⟩ <;> rcases h2 with h2|⟨_,h2|⟨h2,h4⟩⟩ <;> try omega
 ·have:=HH a.site a.site;rw[h2]at h1;omega
 ·rw[h1]at h2;have:=HH b.site b.site;omega
 ·unfold rB;simp [h1];omega
theorem z2E (a b:Ent):eqE a b=true↔a=b:=by simp [eqE]
theorem gJ {l:List Ent}(h:WA l=0):PF EA l∧l.Pairwise (fun o x=>rB o x=false)∧∀x∈l,mB x=0:=by
 obtain⟨_,h1,h2,h3⟩:=(wX l).1 h;refine⟨?_,h3,h1⟩;unfold PF;refine h2.imp fun {a b} h=>?_
 unfold gtE at h;have:=iF.neg a b;omega
def TG (a:List Ent)(x:Ent):Bool:=!a.any fun y=>rB y x
def QI (a b:List Ent):Bool:=b.any fun x=>a.any fun y=>rB y x && !eqE y x
def z0l (a b:List Ent):List Ent×Int:=if QI a b then([],13) else(FA (ltO EA) (a++b.filter (TG a)),0)
theorem z60 (a b:Ent):rB a b=rB b a:=by
 unfold rB;rw[show decide (a.site=b.site)=decide (b.site=a.site) by simp [eq_comm],show decide (a.no=b.no)=decide (b.no=a.no) by simp [eq_comm]]
theorem mS {l:List Ent}(h:l.Pairwise (fun o x=>rB o x=false)){x y:Ent}(hx:x∈l)(hy:y∈l)(hs:rB x y=true):x=y:=by
 induction l with
 | nil=>cases hx
 | cons z r ih=>
  obtain⟨h1,h2⟩:=List.pairwise_cons.1 h;rcases List.mem_cons.1 hx with ex|hx <;> rcases List.mem_cons.1 hy with ey|hy
  ·rw[ex,ey]
  ·have:=h1 y hy;rw[←ex,hs]at this;cases this
  ·have:=h1 x hx;rw[←ey,z60,hs]at this;cases this
  ·exact ih h2 hx hy
theorem z2F (a:Ent):eqE a a=true:=by simp [eqE]
theorem zhA {a b:List Ent}(ha:WA a=0)(hb:WA b=0):KJ a b=z0l a b:=by
 obtain⟨sa,pa,_⟩:=gJ ha;obtain⟨sb,pb,_⟩:=gJ hb;have he:orL [WA a,WA b]=0:=by simp [orL,ha,hb]
 unfold KJ z0l;rw[if_neg (by simp [he])]
 have mm:∀x,x∈tB EA eqE a b↔x∈a∨x∈b:=fun x=>zhB fun x y h=>(z2E x y).1 h
 have ml:=z5h (c:=EA) (q:=eqE) (a:=a) (b:=b) iF
 cases hc:QI a b with
 | true=>
  unfold QI at hc;obtain⟨x,hx,h1⟩:=List.any_eq_true.1 hc;obtain⟨y,hy,h2⟩:=List.any_eq_true.1 h1;simp only[Bool.and_eq_true,Bool.not_eq_true']at h2;have tw:xC [] (tB EA eqE a b)=true:=by
   cases ht:xC [] (tB EA eqE a b) with
   | true=>rfl
   | false=>
    have hp:=((FS _ _).1 ht).2
    have:=mS hp ((mm y).2 (.inl hy)) ((mm x).2 (.inr hx)) h2.1;rw[this,z2F]at h2;cases h2.2
  rw[if_pos tw];rfl
 | false=>
  have nc:∀x∈b,∀y∈a,rB y x=true→y=x:=fun x hx y hy hs=>by
   unfold QI at hc;have h1:=List.any_eq_false.1 hc x hx
   simp only[Bool.not_eq_true,List.any_eq_false,Bool.and_eq_true,Bool.not_eq_true',not_and]at h1;have h2:=h1 y hy hs
   simpa [eqE] using h2
  have all:∀x∈tB EA eqE a b,∀y∈tB EA eqE a b,rB x y=true→x=y:=fun x hx y hy hs=>by
   rcases(mm x).1 hx with h1|h1 <;> rcases(mm y).1 hy with h2|h2
   ·exact mS pa h1 h2 hs
   ·exact nc y h2 x h1 hs
   ·exact(nc x h1 y h2 (by rw[z60];exact hs)).symm
   ·exact mS pb h1 h2 hs
  have st:PF EA (tB EA eqE a b):=zhC iF fun i hi hz=>by
   have:=all _ (List.getElem_mem hi) _ (List.getElem_mem (show i<(tB EA eqE a b).length by omega)) (tX hz)
   exact zbx (q:=eqE) z2E (FA (ltO EA) (a++b)) i hi this.symm
  have tw:xC [] (tB EA eqE a b)=false:=by
   rw[FS];refine⟨fun _ _ _ h=>(by cases h),?_⟩
   refine List.pairwise_iff_getElem.2 fun i j hi hj hij=>?_
   cases hs:rB (tB EA eqE a b)[i] (tB EA eqE a b)[j]with
   | false=>rfl
   | true=>
    have e:=all _ (List.getElem_mem hi) _ (List.getElem_mem hj) hs
    have:=List.pairwise_iff_getElem.1 st i j hi hj hij;rw[e,iF.refl]at this;omega
  rw[if_neg (by simp [tw])]
  have dp:(a++b.filter (TG a)).Pairwise fun x y=>EA x y≠0:=by
   rw[List.pairwise_append];refine⟨sa.imp fun h=>by omega,(sb.filter _).imp fun h=>by omega,fun x hx y hy h=>?_⟩
   have h1:=(List.mem_filter.1 hy).2
   unfold TG at h1;simp only[Bool.not_eq_true',List.any_eq_false]at h1;exact h1 x hx (tX h)
  refine congrArg (·,(0:Int)) (z05 iF st (z6J iF dp) fun x=>?_)
  rw[EJ,mm,List.mem_append,List.mem_filter];constructor
  ·rintro (h|h)
   ·exact .inl h
   ·cases hn:TG a x with
    | true=>exact .inr ⟨h,rfl⟩
    | false=>
     unfold TG at hn;simp only[Bool.not_eq_false',List.any_eq_true]at hn;obtain⟨y,hy,hs⟩:=hn;rw[←nc x h y hy hs];exact .inl hy
  ·rintro (h|h)
   ·exact .inl h
   ·exact .inr h.1
end Go.Am
end
section
/- Parts of a right list of entries,tB,are the list: plainly. -/
set_option linter.all false
namespace Go.Am
theorem LL {x p:List Ent}(h:WA x=0)(hp:p.Sublist x):WA p=0:=by
 obtain⟨h0,h1,h2,h3⟩:=(wX x).1 h;exact(wX p).2 ⟨by have:=hp.length_le;omega,fun e he=>h1 e (hp.subset he),h2.sublist hp,h3.sublist hp⟩
theorem z5g {x p q:List Ent}(h:WA x=0)(hp:p.Sublist x)(hq:q.Sublist x)(hc:∀ e∈x,e∈p∨e∈q):KJ p q=(x,0):=by
 rw[zhA (LL h hp) (LL h hq)];obtain⟨sx,px,_⟩:=gJ h;obtain⟨sp,pp,_⟩:=gJ (LL h hp);obtain⟨sq,pq,_⟩:=gJ (LL h hq);have same:∀{a b:Ent},a∈p→b∈q→rB a b=true→a=b:=fun ha hb e=>mS px (hp.subset ha) (hq.subset hb) e
 have nc:QI p q=false:=by
  unfold QI;rw[List.any_eq_false];intro b hb;rw[Bool.not_eq_true,List.any_eq_false];intro a ha;rw[Bool.not_eq_true,Bool.and_eq_false_iff];cases e:rB a b with
  | false=>exact .inl rfl
  | true=>right;rw[same ha hb e,z2F];rfl
 unfold z0l;rw[nc,if_neg (by simp)]
 congr 1
 have nz:∀a b:Ent,rB a b=false→EA a b≠0:=fun a b e z=>by rw[tX z]at e;cases e
 refine z05 iF (z6J iF ?_) sx fun e=>?_
 ·refine List.pairwise_append.2 ⟨pp.imp fun {a b} e=>nz a b e,(pq.sublist List.filter_sublist).imp fun {a b} e=>nz a b e,fun a ha b hb=>?_⟩
  have:=(List.mem_filter.1 hb).2;unfold TG at this;rw[Bool.not_eq_true',List.any_eq_false]at this;exact nz a b (by simpa using this a ha)
 ·rw[EJ,List.mem_append,List.mem_filter]
  constructor
  ·rintro (he|⟨he,_⟩)
   ·exact hp.subset he
   ·exact hq.subset he
  ·intro he
   rcases hc e he with k|k
   ·exact .inl k
   ·cases hn:TG p e with
    | true=>exact .inr ⟨k,rfl⟩
    | false=>
     left;unfold TG at hn
     rw[Bool.not_eq_false',List.any_eq_true]at hn;obtain⟨y,hy,e2⟩:=hn;rw[←same hy k e2];exact hy
end Go.Am
end
section
/- Entries tB: up tov 39 of them. -/
open Go
set_option linter.all false
set_option maxRecDepth 100000
namespace Go.Am
variable {h:aA} {K:kA}
attribute [-go_sem] ZA
set_option maxHeartbeats 4000000 in
theorem z6l (a b:List Ent)(ha:∀ x∈a,EntOk x)(hb:∀ x∈b,EntOk x)(hn:a.length+b.length≤39) :
 bA X rJ [lB a,lB b] h K=K (.tup [lB (KJ a b).1,AI (KJ a b).2]) h []:=by
 refine xA ?_;rw[zaF rfl];have q1:=fun h K=>CN (h:=h) (K:=K) a ha (by omega)
 have q2:=fun h K=>CN (h:=h) (K:=K) b hb (by omega)
 have q3:=fun h K=>z6h (h:=h) (K:=K) [WA a,WA b] (by simp)
 simp only[AL,List.map_cons,List.map_nil]at q3;unfold KJ;by_cases he:orL [WA a,WA b]=0
 ·rw[he]at q3
  have q4:=fun h K=>zlK (h:=h) (K:=K) [a.map Ent.pv,b.map Ent.pv] (fun z hz=>by
   simp only[List.mem_cons,List.not_mem_nil,or_false]at hz;rcases hz with rfl|rfl <;> exact KL) (by simp) (by simp;omega)
  have ef:[a.map Ent.pv,b.map Ent.pv].flatten=(a++b).map Ent.pv:=by simp
  simp only[ef,List.map_cons,List.map_nil,lsE,List.length_map]at q4;have e0:∀o o',(h++[o]).set h.length o'=h++[o']:=fun o o'=>by rw[List.set_append_right _ _ (by simp)];simp
  have st:=fun K=>zmO (h:=h++[Obj.row (some 8) ((a++b).map Ent.pv) 0]) (K:=K) h.length ((a++b).map Ent.pv) KL (by simp;omega) (by simp) (g:=OG) (caps:=[]) (c:=fun x y=>EA (TC x) (TC y))
   (fun o x hx y hy K=>by
    obtain⟨p,_,rfl⟩:=List.mem_map.1 hx;obtain⟨q,_,rfl⟩:=List.mem_map.1 hy;dsimp only;rw[lH,lH];exact z6v p q) (show Ordr (fun x y:PV=>EA (TC x) (TC y)) from⟨fun x y=>iF.neg _ _,fun x y z h1 h2=>iF.trans _ _ _ h1 h2⟩).weak (by simp [AV.top,AV.tops])
  have em:FA (ltC fun x y=>EA (TC x) (TC y)) ((a++b).map Ent.pv)=(FA (ltO EA) (a++b)).map Ent.pv:=zgo Ent.pv (fun x y=>by simp only[ltC,ltO,lH]) _
  rw[em]at st;simp only[e0,List.length_map]at st;have il:=sQ (ltO EA) (a++b)
  have cp:=fun K=>z7x (h:=h++[Obj.row (some 8) ((FA (ltO EA) (a++b)).map Ent.pv) 0]) (K:=K) h.length ((FA (ltO EA) (a++b)).map Ent.pv) KL (by simp [il];omega) (by simp) (q:=fun x y=>eqE (TC x) (TC y))
   (fun x hx y hy=>by
    obtain⟨p,hp,rfl⟩:=List.mem_map.1 hx;obtain⟨q,_,rfl⟩:=List.mem_map.1 hy;rw[lH,lH];exact eqa8p p q)
   (fun x hx y hy=>by
    obtain⟨p,hp,rfl⟩:=List.mem_map.1 hx;obtain⟨q,_,rfl⟩:=List.mem_map.1 hy;rw[lH,lH];exact xX p q)
  have ec:BB (fun x y=>eqE (TC x) (TC y)) ((FA (ltO EA) (a++b)).map Ent.pv)=(tB EA eqE a b).map Ent.pv:=zbv Ent.pv (fun x y=>by simp only[lH]) _
  rw[ec]at cp;simp only[e0,List.length_map,il]at cp;obtain⟨C,hC⟩:∃C,C=tB EA eqE a b:=⟨_,rfl⟩;have hcl:C.length≤(a++b).length:=by
   have:=zbu eqE (FA (ltO EA) (a++b));rw[il]at this;rw[hC];exact this
  rw[←hC]at cp;have hab:(a++b).length≤39:=by simp;omega
  generalize hNN:(a++b).length=N at *;have hrow:(C.map Ent.pv++List.replicate (N-C.length) (PV.agg [.str [],.int .i64 0,.int .i64 0,.int .i64 0,.str [],.str [],.str [],.int .i64 0])).length=N:=by simp;omega
  have hw:win (C.map Ent.pv++List.replicate (N-C.length) (PV.agg [.str [],.int .i64 0,.int .i64 0,.int .i64 0,.str [],.str [],.str [],.int .i64 0])) 0 C.length=C.map Ent.pv:=by simp [win]
  generalize C.map Ent.pv++List.replicate (N-C.length) (PV.agg [.str [],.int .i64 0,.int .i64 0,.int .i64 0,.str [],.str [],.str [],.int .i64 0])=row at *;have tw:=fun K=>zmv (h:=h++[Obj.row (some 8) row 0]) (K:=K) C row h.length N 0 (by omega) hrow (by simp) (by omega) hw
  have b2:¬(2000:Int)<C.length:=by omega
  rw[←hC];rw[if_neg (show ¬(orL [WA a,WA b]≠0) by simp [he])]
  simp only[he];cases hT:xC [] C with
  | true=>
   rw[hT]at tw;simp only[aJ,go_sem,↓q1,q1,↓q2,q2,↓q3,q3,↓q4,q4,↓st,st,↓cp,cp,↓tw,tw];rfl
  | false=>
   rw[hT]at tw;have fr:∃z,frz [Obj.row (some 8) row 0] 0 C.length=[Obj.row (some 8) row z]:=⟨_,rfl⟩
   obtain⟨z,fr⟩:=fr;simp only[aJ,go_sem,↓q1,q1,↓q2,q2,↓q3,q3,↓q4,q4,↓st,st,↓cp,cp,↓tw,tw,b2,hrow,hcl,hw,fr]
 ·simp only[aJ,go_sem,↓q1,q1,↓q2,q2,↓q3,q3,he]
  simp [he]
end Go.Am
end
section
/- stationed: a XB call,computed. -/
open Go
set_option linter.all false
namespace Go.Am
end Go.Am
end
section
/- EntryTexts returns true. -/
open Go
set_option linter.all false
set_option maxRecDepth 100000
namespace Go.Am
variable {L:List Int} {a:Int} {h l:aA} {id:Nat} {K:kA}
theorem zfF (hp:QA 20000 a)(n:Nat)(hn:n≤20) :
 KD dM [AI n] L a (fun v a2=>a≤a2∧a2≤a+8000∧∃rs:List Ent,rs.length≤n∧(∀r∈rs,EntV r)∧WA rs=0∧v=lB rs):=by
 refine KD.of fun h id hid=>?_
 rw[zat rfl];simp only[cP,go_sem,hid];refine NA (fun t:Nat×Int=>⟨[(0,.ref id 0),(1,AI n),(6,AI t.1)],h.set id (BA L t.2),[]⟩) (fun t=>t.1≤8∧a≤t.2∧t.2≤a+1000*t.1) (fun t=>8-t.1) (0,a) rfl ⟨by simp,by simp,by simp⟩ ?_
 rintro⟨k,b⟩ ⟨h1,h2,h3⟩
 dsimp only at h1 h2 h3 ⊢;rcases Nat.lt_or_ge k 8 with hlt|hge
 ·have hk:(k:Int)<8:=by omega
  have w1:IntKind.i64.wrap ((k:Int)+1)=((k+1:Nat):Int):=nA _ (by omega) (by omega)
  obtain⟨_,a2,⟨c1,c2,rs,r1,r2,rfl⟩,V⟩:=(zfD (L:=L) (a:=b) (DC hp h2 (by omega)) n hn).set (h:=h) hid
  have F:=fun h K=>zlR (h:=h) (K:=K) rs (fun x hx=>(r2 x hx).ok) (by omega)
  by_cases hf:WA rs=0
  ·simp only[go_sem,hid,hk,↓V,V,↓F,F,hf]
   exact⟨a2,⟨by omega,by omega,rs,r1,r2,hf,rfl⟩,rfl⟩
  ·simp only[go_sem,hid,hk,↓V,V,↓F,F,hf,w1]
   exact⟨(k+1,a2),rfl,⟨by dsimp only;omega,by dsimp only;omega,by dsimp only;omega⟩,by dsimp only;omega⟩
 ·have hk:¬(k:Int)<8:=by omega
  simp only[go_sem,hid,hk];exact⟨b,⟨by omega,by omega,[],by simp,by simp,by decide,rfl⟩,rfl⟩
end Go.Am
end
section
/- Entries drawn into two parts. -/
open Go
set_option linter.all false
set_option maxRecDepth 100000
namespace Go.Am
variable {L:List Int} {a:Int} {h:aA} {K:kA}
attribute [-go_sem] ZA
structure PtsI (rs:List Ent) (k:Nat) (p q:List Ent):Prop where
 hp:p.Sublist (rs.take k)
 hq:q.Sublist (rs.take k)
 c:∀e∈rs.take k,e∈p∨e∈q
theorem PtsI.len {rs:List Ent}{k:Nat}{p q:List Ent}(I:PtsI rs k p q):p.length≤k∧q.length≤k:=by
 have h1:=I.hp.length_le
 have h2:=I.hq.length_le
 rw[List.length_take]at h1 h2;omega
theorem PtsI.step {rs:List Ent}{k:Nat}{p q:List Ent}(I:PtsI rs k p q)(hk:k<rs.length):PtsI rs (k+1) (p++[rs[k]]) q∧PtsI rs (k+1) p (q++[rs[k]])∧PtsI rs (k+1) (p++[rs[k]]) (q++[rs[k]]):=by
 have e:=List.take_succ_eq_append_getElem hk
 have p1:(p++[rs[k]]).Sublist (rs.take (k+1)):=by rw[e];exact I.hp.append (List.Sublist.refl _)
 have q1:(q++[rs[k]]).Sublist (rs.take (k+1)):=by rw[e];exact I.hq.append (List.Sublist.refl _)
 have p2:p.Sublist (rs.take (k+1)):=by rw[e];exact I.hp.trans (List.sublist_append_left ..)
 have q2:q.Sublist (rs.take (k+1)):=by rw[e];exact I.hq.trans (List.sublist_append_left ..)
 refine⟨⟨p1,q2,fun x hx=>?_⟩,⟨p2,q1,fun x hx=>?_⟩,⟨p1,q1,fun x hx=>?_⟩⟩ <;>
 ·rw[e,List.mem_append,List.mem_singleton]at hx
  rcases hx with hx|hx
  ·rcases I.c x hx with y|y <;> simp [y]
  ·simp [hx]
set_option maxHeartbeats 4000000 in
theorem zfH (rs:List Ent)(hl:rs.length≤100)(hp:QA 200 a) :
 KD bM [lB rs] L a (fun v a2=>a≤a2∧a2≤a+100∧∃p q:List Ent,p.Sublist rs∧q.Sublist rs∧(∀e∈rs,e∈p∨e∈q)∧v = .tup [lB p,lB q]):=by
 refine KD.of fun h id hid=>?_
 rw[zam rfl];simp only[WO,go_sem,hid,List.length_map];refine NA (fun t:Nat×Int×List Ent×List Ent=>⟨[(0,.ref id 0),(6,.own h.length t.2.2.1.length 0 t.2.2.1.length),(7,.own (h.length+1) t.2.2.2.length 0 t.2.2.2.length),(10,lB rs),(11,AI rs.length),(12,AI t.1)],h.set id (BA L t.2.1)++[.row (some 8) (t.2.2.1.map Ent.pv) 0,.row (some 8) (t.2.2.2.map Ent.pv) 0],[]⟩)
  (fun t=>t.1≤rs.length∧(a≤t.2.1∧t.2.1≤a+t.1)∧PtsI rs t.1 t.2.2.1 t.2.2.2) (fun t=>rs.length-t.1) (0,a,[],[]) rfl ⟨by simp,by simp,⟨by simp,by simp,by simp⟩⟩ ?_
 rintro⟨k,b,p,q⟩ ⟨q1,⟨q3,q4⟩,q5⟩
 dsimp only at q1 q3 q4 q5;have f2:h.length+1≤h.length+2:=by omega
 have f3:h.length+1+1≤h.length+2:=by omega
 have f1:id+1≤h.length+2:=by omega
 obtain⟨pl,ql⟩:=q5.len;rcases Nat.lt_or_ge k rs.length with hlt|hge
 ·have P:=DF (DC hp q3 (show b+14≤a+200 by omega))
  have w1:IntKind.i64.wrap ((k:Int)+1)=((k+1:Nat):Int):=nA _ (by omega) (by omega)
  have hlt':(k:Int)<(rs.length:Int):=by omega
  have fp:∀y:Ent,Ent.pv y = .agg [.str y.site,eI y.no,eI y.time,eI y.kind,.str y.board,.str y.step,.str y.of,eI y.other]:=fun _=>rfl
  have hg:=TB Ent.pv hlt
  have cx:=AE (x:=rs[k])
  obtain⟨s1,s2,s3⟩:=q5.step hlt;generalize rs[k]=e at *;have mp:p.length+1≤UA:=by unfold UA;omega
  have mq:q.length+1≤UA:=by unfold UA;omega
  have zp:(p.map Ent.pv).length=p.length:=List.length_map ..
  have zq:(q.map Ent.pv).length=q.length:=List.length_map ..
  have nb:=NJ L b 3 (by omega) (by omega)
  have ep:p.map Ent.pv++[PV.agg [.str e.site,eI e.no,eI e.time,eI e.kind,.str e.board,.str e.step,.str e.of,eI e.other]]=(p++[e]).map Ent.pv:=by rw[List.map_append];rfl
  have eq:q.map Ent.pv++[PV.agg [.str e.site,eI e.no,eI e.time,eI e.kind,.str e.board,.str e.step,.str e.of,eI e.other]]=(q++[e]).map Ent.pv:=by rw[List.map_append];rfl
  have lp:p.length+1=(p++[e]).length:=by simp
  have lq:q.length+1=(q++[e]).length:=by simp
  by_cases n0:CB L b 3=0
  ·simp only[go_sem,hlt,hlt',hg,cx,fp,splice,hid,P,w1,n0,mp,mq,zp,zq,f1,f2,f3]
   refine⟨(k+1,b+1,p++[e],q),?_,⟨by omega,⟨by dsimp only;omega,by dsimp only;omega⟩,s1⟩,by dsimp only;omega⟩
   rw[←ep,←lp]
  ·by_cases n1:CB L b 3=1
   ·simp only[go_sem,hlt,hlt',hg,cx,fp,splice,hid,P,w1,n0,n1,mp,mq,zp,zq,f1,f2,f3]
    refine⟨(k+1,b+1,p,q++[e]),?_,⟨by omega,⟨by dsimp only;omega,by dsimp only;omega⟩,s2⟩,by dsimp only;omega⟩
    rw[←eq,←lq]
   ·simp only[go_sem,hlt,hlt',hg,cx,fp,splice,hid,P,w1,n0,n1,mp,mq,zp,zq,f1,f2,f3]
    refine⟨(k+1,b+1,p++[e],q++[e]),?_,⟨by omega,⟨by dsimp only;omega,by dsimp only;omega⟩,s3⟩,by dsimp only;omega⟩
    rw[←ep,←eq,←lp,←lq]
 ·have e:k=rs.length:=by omega
  subst e;simp only[go_sem,Nat.lt_irrefl];have tk:rs.take rs.length=rs:=List.take_length
  have i1:=q5.hp
  have i2:=q5.hq
  have i3:=q5.c
  rw[tk]at i1 i2 i3;refine⟨b,⟨q3,by omega,p,q,i1,i2,i3,?_⟩,rfl⟩
  rw[oH (show(p.map Ent.pv).length=p.length from List.length_map ..),oH (show(q.map Ent.pv).length=q.length from List.length_map ..)]
end Go.Am
end
section
/- Entries: what is written is read;parts that are tB;plainly. -/
set_option linter.all false
namespace Go.Am
theorem z26 {x:Ent}(h:mB x=0):kB x.site=true∧noB x.no=true∧pD x.time=true∧inB 1 x.kind 7=true∧fF x=true∧(x.kind=7→noB x.other=true)∧x=mH x:=by
 unfold mB at h;split at h
 ·cases h
 rename_i h1;split at h
 ·cases h
 rename_i h2;split at h
 ·cases h
 rename_i h3;split at h
 ·cases h
 rename_i h4;split at h
 ·cases h
 rename_i h5;split at h
 ·cases h
 rename_i h6;exact⟨by simpa using h1,by cases hb:noB x.no with|true=>rfl|false=>exact absurd (.inl hb) h2,by cases hb:pD x.time with|true=>rfl|false=>exact absurd (.inr hb) h2,by simpa using h3,by simpa using h4,fun e=>by cases hb:noB x.other with|true=>rfl|false=>exact absurd ⟨e,hb⟩ h5,by simpa using h6⟩
theorem zF {s:List UInt8}(h:kB s=true){c:UInt8}(hc:c.toNat<45):c∉s:=fun hm=>by
 cases s with
 | nil=>cases hm
 | cons b r=>
  unfold kB at h;simp only[Bool.and_eq_true,List.all_eq_true]at h;have:=h.2 c hm;unfold lE at this;simp only[Bool.or_eq_true,Bool.and_eq_true,decide_eq_true_eq]at this;omega
theorem QM {s:List UInt8}(h:kB s=true):s≠[]:=fun e=>by subst e;cases h
theorem z7f {c:UInt8}(hc:c.toNat<45)(k:Int):c∉EC k:=by
 intro h;unfold EC at h;generalize k.toNat=n at h;have:∀w∈sE,∀b∈w,45≤b.toNat:=by decide
 cases hw:sE[n]? with
 | none=>rw[hw]at h;cases h
 | some w=>rw[hw]at h;have:=this w (List.mem_of_getElem? hw) c h;omega
theorem zgr {k:Int}(h1:1≤k)(h2:k≤7):kEP (EC k)=k∧EC k≠[]:=by
 have:k=1∨k=2∨k=3∨k=4∨k=5∨k=6∨k=7:=by omega
 rcases this with e|e|e|e|e|e|e <;> subst e <;> decide
theorem aY (n:Int):itoa n≠[]:=by
 unfold itoa;split
 ·simp
 ·exact MP _
def nG (x:Ent):List (List UInt8):=if x.kind=2 then [x.board,x.step] else if x.kind=7 then [x.of,itoa x.other] else [x.board]
def fD (x:Ent):List (List UInt8):=x.site::itoa x.no::itoa x.time::EC x.kind::nG x
theorem IJ (n:Int){c:UInt8}(hc:c.toNat<45):c∉itoa n:=fun h=>by
 have:=zgq h;omega
theorem z4V {x:Ent}(hx:mB x=0):CA 32 (nD x)=fD x∧(10:UInt8)∉nD x:=by
 obtain⟨h1,h2,h3,h4,h5,h6,h7⟩:=z26 hx;have n32:(32:UInt8).toNat<45:=by decide
 have n10:(10:UInt8).toNat<45:=by decide
 have fin:∀t:List UInt8,CA 32 t=nG x→(10:UInt8)∉t→CA 32 (x.site++32::(itoa x.no++32::(itoa x.time++32::(EC x.kind++32::t))))=fD x∧(10:UInt8)∉(x.site++32::(itoa x.no++32::(itoa x.time++32::(EC x.kind++32::t)))):=fun t e1 e2=>by
  rw[IF (zF h1 n32),IF (IJ _ n32),IF (IJ _ n32),IF (z7f n32 _),e1];refine⟨rfl,?_⟩;simp only[List.mem_append,List.mem_cons,not_or];exact⟨zF h1 n10,by decide,IJ _ n10,by decide,IJ _ n10,by decide,z7f n10 _,by decide,e2⟩
 unfold nD;unfold fF at h5;refine fin _ ?_ ?_
 ·unfold nG
  by_cases k2:x.kind=2
  ·rw[if_neg (by omega),if_pos k2]at h5
   simp only[Bool.and_eq_true]at h5;rw[if_pos k2,if_pos k2,IF (zF h5.1 n32),LN (zF h5.2 n32)]
  ·by_cases k7:x.kind=7
   ·rw[if_pos k7]at h5
    rw[if_neg k2,if_neg k2,if_pos k7,if_pos k7,IF (zF h5 n32),LN (IJ _ n32)]
   ·rw[if_neg k7,if_neg k2]at h5
    rw[if_neg k2,if_neg k2,if_neg k7,if_neg k7,LN (zF h5 n32)]
 ·by_cases k2:x.kind=2
  ·rw[if_neg (by omega),if_pos k2]at h5
   simp only[Bool.and_eq_true]at h5;rw[if_pos k2];simp only[List.mem_append,List.mem_cons,not_or];exact⟨zF h5.1 n10,by decide,zF h5.2 n10⟩
  ·by_cases k7:x.kind=7
   ·rw[if_pos k7]at h5
    rw[if_neg k2,if_pos k7];simp only[List.mem_append,List.mem_cons,not_or];exact⟨zF h5 n10,by decide,IJ _ n10⟩
   ·rw[if_neg k7,if_neg k2]at h5
    rw[if_neg k2,if_neg k7];exact zF h5 n10
theorem zls {x:Ent}(hx:mB x=0):jF (fD x)=(x,true):=by
 obtain⟨h1,h2,h3,h4,h5,h6,h7⟩:=z26 hx;have hk:1≤x.kind∧x.kind≤7:=by unfold inB at h4;simpa using h4
 obtain⟨k1,k2⟩:=zgr hk.1 hk.2;have hno:1≤x.no∧x.no≤1000000:=by unfold noB inB at h2;simpa using h2
 have ht:x.time.natAbs<10^15:=by unfold pD inB at h3;simp at h3;omega
 have f1:PB 15 (itoa x.no)=true:=nY (by omega) (by omega)
 have f2:PB 15 (itoa x.time)=true:=nY ht (by omega)
 have tl:∀w∈nG x,w≠[]:=by
  intro w hw;unfold nG at hw;unfold fF at h5;by_cases k2:x.kind=2
  ·rw[if_neg (by omega),if_pos k2]at h5
   simp only[Bool.and_eq_true]at h5;rw[if_pos k2]at hw;simp only[List.mem_cons,List.not_mem_nil,or_false]at hw;rcases hw with e|e <;> rw[e]
   ·exact QM h5.1
   ·exact QM h5.2
  ·by_cases k7:x.kind=7
   ·rw[if_pos k7]at h5
    rw[if_neg k2,if_pos k7]at hw;simp only[List.mem_cons,List.not_mem_nil,or_false]at hw;rcases hw with e|e <;> rw[e]
    ·exact QM h5
    ·exact aY _
   ·rw[if_neg k7,if_neg k2]at h5
    rw[if_neg k2,if_neg k7,List.mem_singleton]at hw;rw[hw];exact QM h5
 have nc:(fD x).contains []=false:=by
  rw[←Bool.not_eq_true,List.contains_iff_mem];unfold fD;simp only[List.mem_cons,not_or];exact⟨fun e=>QM h1 e.symm,fun e=>aY _ e.symm,fun e=>aY _ e.symm,fun e=>k2 e.symm,fun e=>tl [] e rfl⟩
 have l5:¬(fD x).length<5:=by
  unfold fD nG;split
  ·simp
  ·split <;> simp
 unfold jF;rw[if_neg (by rw[nc];rintro (e|e);exact l5 e;cases e)]
 have w0:we (fD x) 0=x.site:=rfl
 have w1:we (fD x) 1=itoa x.no:=rfl
 have w2:we (fD x) 2=itoa x.time:=rfl
 have w3:we (fD x) 3=EC x.kind:=rfl
 rw[w0,w1,w2,w3,k1,f1,f2,oY,oY,if_neg (by rintro (e|e);cases e;omega)]
 unfold mH at h7;by_cases q2:x.kind=2
 ·rw[if_neg (by omega),if_pos q2]at h7
  have e:fD x=[x.site,itoa x.no,itoa x.time,EC x.kind,x.board,x.step]:=by unfold fD nG;rw[if_pos q2]
  rw[if_pos q2,e,if_pos (by simp)]
  refine Prod.ext ?_ rfl;show(⟨x.site,x.no,x.time,2,x.board,x.step,[],0⟩:Ent)=x
  rw[←q2];exact h7.symm
 ·by_cases q7:x.kind=7
  ·rw[if_pos q7]at h7
   have e:fD x=[x.site,itoa x.no,itoa x.time,EC x.kind,x.of,itoa x.other]:=by unfold fD nG;rw[if_neg q2,if_pos q7]
   have ho:1≤x.other∧x.other≤1000000:=by have:=h6 q7;unfold noB inB at this;simpa using this
   have f5:PB 15 (itoa x.other)=true:=nY (by omega) (by omega)
   rw[if_neg q2,if_pos q7,e,if_pos (by simp)]
   have v5:we [x.site,itoa x.no,itoa x.time,EC x.kind,x.of,itoa x.other] 5=itoa x.other:=rfl
   have v4:we [x.site,itoa x.no,itoa x.time,EC x.kind,x.of,itoa x.other] 4=x.of:=rfl
   rw[v5,v4,f5,if_pos rfl,oY];refine Prod.ext ?_ rfl;show(⟨x.site,x.no,x.time,7,[],[],x.of,x.other⟩:Ent)=x
   rw[←q7];exact h7.symm
  ·rw[if_neg q7,if_neg q2]at h7
   have e:fD x=[x.site,itoa x.no,itoa x.time,EC x.kind,x.board]:=by unfold fD nG;rw[if_neg q2,if_neg q7]
   rw[if_neg q2,if_neg q7,e,if_pos (by simp)]
   refine Prod.ext ?_ rfl;show(⟨x.site,x.no,x.time,x.kind,x.board,[],[],0⟩:Ent)=x
   exact h7.symm
theorem z5L:∀ (l:List Ent)(i:Nat)(acc:List Ent),(∀c∈l,mB c=0)→oD dD false i (l.map nD) acc=((0,true),acc++l)
 | [],i,acc,_=>by rw[List.map_nil,iY];simp
 | c::l,i,acc,h=>by
  have h0:=h c (List.mem_cons_self ..)
  have e:dD acc (nD c)=(true,acc++[c]):=by unfold dD;rw[(z4V h0).1,zls h0]
  rw[List.map_cons,gY,e];show oD dD false (i+1) (l.map nD) (acc++[c])=_
  rw[z5L l (i+1) (acc++[c]) (fun d hd=>h d (List.mem_cons_of_mem c hd))]
  simp
theorem zhw {l:List Ent}(h:∀ c∈l,mB c=0):oD dD (cD (aC l)) 0 (aB (aC l)) []=((0,true),l):=by
 have e:aC l=((l.map nD).map fun s=>s++[10]).flatten:=by unfold aC;rw[List.map_map];rfl
 obtain⟨a,b⟩:=zh0 (ls:=l.map nD) (fun s hs=>by
  obtain⟨c,hc,rfl⟩:=List.mem_map.1 hs;exact(z4V (h c hc)).2)
 rw[e,a,b,z5L l 0 [] h,List.nil_append]
end Go.Am
end
section
/- The abstract machine,part K: slices.Sorted(maps.Keys(m)) at a map keyed by strings: its keys,sorted;met by the kit's contract. -/
set_option linter.all false
namespace Go.Am
variable {P:Program} {gl:Nat→Option PV}
def sortS (ss:List (List UInt8)):List (List UInt8):=ss.mergeSort fun x y=>decide (x≤y)
end Go.Am
end
section
/- Which boards run,by site: the program. -/
open Go
set_option linter.all false
set_option maxRecDepth 100000
namespace Go.Am
variable {h:aA} {K:kA}
structure SmI (S:Flo) (n:Nat):Prop where
 bn:(S.sm.map (·.2)).Nodup
 bl:∀e∈S.sm,e.2<S.ck
 ln:S.sm.length≤n
 kl:∀e∈S.sm,e.1.1.length≤1000000
theorem SmI.sub {S S':Flo}{n:Nat}(I:SmI S n)(h:S'.sm.Sublist S.sm)(hc:S'.ck=S.ck):SmI S' (n+1):=
 ⟨I.bn.sublist (h.map _),fun e he=>by rw[hc];exact I.bl e (h.subset he),by have:=h.length_le;have:=I.ln;omega,fun e he=>I.kl e (h.subset he)⟩
theorem SmI.up {S:Flo}{n:Nat}(I:SmI S n):SmI S (n+1):=I.sub (List.Sublist.refl _) rfl
attribute [-go_sem] ZA vB EB JC
def z0t (F:Flo):List (Nm×Nm):=(sortS (F.sm.map fun e=>e.1.1)).map fun s=>(s,(qA (asS F.sm) s).getD [])
end Go.Am
end
section
/- How many boards are in each state: the program. -/
open Go
set_option linter.all false
set_option maxRecDepth 100000
namespace Go.Am
variable {h:aA} {K:kA}
abbrev kC:Int→PV:=fun n=>.int .i64 n
abbrev vC:Int→AV:=fun n=>AI n
attribute [-go_sem] ZA vB EB JC WG XG
def GC (h:aA)(steps:List Nm)(tries:Int)(m:List (Int × Int)):aA:=h++[.box [tE steps,AI tries],JA kC vC m]
section
variable {steps:List Nm} {tries:Int} {m m':List (Int × Int)} {o0 o1 o2 o3 o4 o5 o6 o7 o:Obj} {B l l2:aA} {G:Nat}
end
def HC (h:aA)(steps:List Nm)(tries:Int)(F:Flo)(G:Nat)(m:List (Int × Int))(l:aA):aA:=
 FH (GC h steps tries m) (flB steps tries) (JA PV.str refA (mapB (G+8) F.bs)) (dobj F.sm F.ck) (.row (some 5) (F.ends.map EndP.pv) 0) (.row (some 3) (F.runs.map RunP.pv) 0) (.row none (F.ref.map eI) 0) (.row none (F.why.map eI) 0)
  (.box [tE steps,AI tries,.mp (G+1),.mp (G+2),.own (G+3) F.ends.length 0 F.ends.length,.own (G+4) F.runs.length 0 F.runs.length,.own (G+5) F.ref.length 0 F.ref.length,.own (G+6) F.why.length 0 F.why.length]) (boxB F.bs) l
section
variable {steps:List Nm} {tries:Int} {F:Flo} {m m':List (Int × Int)} {o:Obj} {l l2:aA} {G:Nat}
end
end Go.Am
end
section
/- Sorting texts by a comparison: printed by program. -/
open Go
set_option linter.unusedSimpArgs false
namespace Go.Am
attribute [-go_sem] PV.cells splice
variable {h:aA} {K:kA}
end Go.Am
end
section
/- For how long a site runs boards,plainly. -/
open Go
set_option linter.all false
set_option maxRecDepth 100000
namespace Go.Am
def CH:Int→Int→List RunP→Prop
 | lo,hi,[]=>lo≤hi
 | lo,hi,r::rest=>lo≤r.frm∧r.frm≤r.til∧0≤r.til∧CH r.til hi rest
theorem z0W:∀ {l:List RunP}{lo hi hi':Int},CH lo hi l→hi≤hi'→CH lo hi' l
 | [],lo,hi,hi',h,g=>by unfold CH at *;omega
 | r::rest,lo,hi,hi',h,g=>⟨h.1,h.2.1,h.2.2.1,z0W h.2.2.2 g⟩
def UD (frm_ til_:Int)(r:RunP):Int:=max 0 (min (if r.til<0 then til_ else r.til) til_-max r.frm frm_)
def CS (rs:List RunP)(busy:Bool)(T:Int):Prop:=if busy then ∃pre r,rs=pre++[r]∧CH 0 r.frm pre∧r.til<0∧0≤r.frm∧r.frm≤T else CH 0 T rs
theorem zmA {rs:List RunP}{busy:Bool}{T T':Int}(h:CS rs busy T)(g:T≤T'):CS rs busy T':=by
 unfold CS at *;cases busy with
 | true=>
  obtain⟨pre,r,a,b,c,d,e⟩:=h;exact⟨pre,r,a,b,c,d,by omega⟩
 | false=>exact z0W h g
def ofS (s:Nm)(l:List RunP):List RunP:=l.filter fun r=>decide (r.site=s)
structure BI (p:FlP) (T:Int):Prop where
 inv:∃q,Inv p q
 st:∀s,CS (ofS s p.runs) (qA p.sites s).isSome T
 si:∀b st,qA p.bs b=some st→0≤st.since∧st.since≤T
 en:∀e∈p.ends,0≤e.frm∧e.frm≤e.til∧e.til≤T
theorem BI.mono {p:FlP}{T T':Int}(h:BI p T)(g:T≤T'):BI p T':=
 ⟨h.inv,fun s=>zmA (h.st s) g,fun b st hb=>by have:=h.si b st hb;omega,fun e he=>by have:=h.en e he;omega⟩
end Go.Am
end
section
/- For how long a site runs boards: the program. -/
open Go
set_option linter.all false
set_option maxRecDepth 100000
namespace Go.Am
variable {h:aA} {K:kA}
attribute [-go_sem] ZA vB EB JC
section
variable {fb:Obj} {steps:List Nm} {tries:Int} {S:Flo} {o o':Obj} {l:aA}
end
end Go.Am
end
section
/- Which boards wait for a step: the program. -/
open Go
set_option linter.all false
set_option maxRecDepth 100000
namespace Go.Am
variable {h:aA} {K:kA}
attribute [-go_sem] ZA vB EB JC WG XG
section
variable {fb o:Obj} {steps:List Nm} {tries:Int} {S:Flo} {l l2:aA}
end
section
variable {fb o:Obj} {steps:List Nm} {tries:Int} {S:Flo} {l l2 r:aA}
end
end Go.Am
end
section
/- Each board is in one state,each site runs at most one: plainly. -/
open Go
set_option linter.all false
set_option maxRecDepth 100000
namespace Go.Am
structure BoI (S:Flo) (N:List Nm):Prop where
 st:∀e∈S.bs,1≤e.2.state∧e.2.state≤5
 nm:∀e∈S.bs,e.1.board∈N
theorem BoI.put {S S':Flo}{N:List Nm}(I:BoI S N){i:Nat}{e:Ent × Sta}(he:S.bs[i]?=some e){s:Sta}(hs:1≤s.state∧s.state≤5)(hb:S'.bs=S.bs.set i (e.1,s)):BoI S' N where
 st y hy:=by
  rw[hb]at hy;rcases BQ hy with h|h
  ·exact I.st y h
  ·rw[h];exact hs
 nm y hy:=by
  rw[hb]at hy;rcases BQ hy with h|h
  ·exact I.nm y h
  ·rw[h];exact I.nm e (List.mem_of_getElem? he)
theorem zlG {F:Flo}{s k:Nm}(hk:k≠[]∨(qA (asS F.sm) s).isSome=true):(s,k)∈z0t F↔qA (asS F.sm) s=some k:=by
 unfold z0t;rw[List.mem_map];constructor
 ·rintro⟨y,hy,e⟩
  simp only[Prod.mk.injEq]at e;obtain⟨rfl,e⟩:=e;have hy2:y∈F.sm.map fun e=>e.1.1:=(List.mergeSort_perm _ _).mem_iff.1 hy
  cases h:qA (asS F.sm) y with
  | some v=>rw[h]at e;rw[←e];rfl
  | none=>
   exfalso;obtain⟨z,hz,rfl⟩:=List.mem_map.1 hy2;unfold qA asS at h;rw[Option.map_eq_none_iff,List.find?_eq_none]at h;exact h z.1 (List.mem_map_of_mem hz) (by simp)
 ·intro h
  refine⟨s,(List.mergeSort_perm _ _).mem_iff.2 ?_,by rw[h];rfl⟩
  obtain⟨z,hz,e⟩:=List.mem_map.1 (VX h);rw[List.mem_map];exact⟨z,hz,by rw[e]⟩
theorem z4z {bs:uE}{k:Nm}{st:Sta}(h:qA (asA bs) k=some st):∃e∈bs,e.1.board=k∧e.2=st:=by
 obtain⟨e,he,h2⟩:=List.mem_map.1 (VX h);simp only[Prod.mk.injEq]at h2;exact⟨e,he,h2⟩
def b4N:List Nm:=[[98,49],[98,50],[98,51],[98,52]]
structure Boo (F:Flo) (steps:List Nm):Prop where
 fl:∃n,FlI F steps n
 bo:BoI F b4N
 iv:∃q,Inv F.P q
theorem Boo.len {F:Flo}{steps:List Nm}(B:Boo F steps):F.bs.length≤4:=by
 obtain⟨n,I⟩:=B.fl;have:=I.nb.length_le_of_subset (l₂:=b4N) (fun k hk=>by obtain⟨e,he,rfl⟩:=List.mem_map.1 hk;exact B.bo.nm e he)
 rw[List.length_map]at this;exact this
theorem Boo.st {F:Flo}{steps:List Nm}(B:Boo F steps){k:Nm}{st:Sta}(h:qA (asA F.bs) k=some st):1≤st.state∧st.state≤5:=by
 obtain⟨e,he,_,e2⟩:=z4z h;rw[←e2];exact B.bo.st e he
theorem Boo.step {F:Flo}{steps:List Nm}(B:Boo F steps){k:Nm}{st:Sta}(h:qA (asA F.bs) k=some st)(h1:st.state=1):st.step∈steps:=by
 obtain⟨n,I⟩:=B.fl;obtain⟨e,he,_,e2⟩:=z4z h;rw[←e2];exact I.st e he (.inl (by rw[e2];exact h1))
theorem Boo.runs {F:Flo}{steps:List Nm}(B:Boo F steps){k:Nm}{st:Sta}(hk:k≠[])(h:qA (asA F.bs) k=some st):(st.site,k)∈z0t F↔st.state=2:=by
 obtain⟨q,I⟩:=B.iv;rw[zlG (.inl hk)];have:=I.sts st.site k;show qA (asS F.sm) st.site=some k↔_
 rw[show qA (asS F.sm) st.site=qA F.P.sites st.site from rfl,this]
 constructor
 ·rintro⟨s2,h2,h3,_⟩
  have:qA F.P.bs k=some st:=h
  rw[this]at h2;cases h2;exact h3
 ·intro h2
  exact⟨st,h,h2,rfl⟩
end Go.Am
end
section
/- The reference's floor,plainly: which entries count,what is followed. -/
open Go
set_option linter.all false
namespace Go.Am
def DO (l:List Ent)(at_:Int)(i:Nat):Bool:=(YA (upL l at_)).getD i false
theorem zbs {U:List Ent}{i:Nat}(h:U.length≤i):(YA U).getD i false=false:=by
 rw[List.getD_eq_getElem?_getD,List.getElem?_eq_none (by rw[JH];exact h)];rfl
theorem IS (l:List Ent)(at_:Int):∀n,n≤l.length→upK l at_ n≤n∧(∀i (hi:i<l.length),upK l at_ n≤i→i<n→at_<l[i].time)∧(∀h:upK l at_ n-1<l.length,upK l at_ n≠0→l[upK l at_ n-1].time≤at_)
 | 0,_=>⟨Nat.le_refl _,fun i _ _ h=>by omega,fun _ h=>absurd rfl h⟩
 | n+1,hn=>by
  obtain⟨h1,h2,h3⟩:=IS l at_ n (by omega)
  have hlt:n<l.length:=by omega
  have e:((l[n]?).map Ent.time).getD 0=l[n].time:=by rw[List.getElem?_eq_getElem hlt];rfl
  by_cases c:at_<l[n].time
  ·have eu:upK l at_ (n+1)=upK l at_ n:=by unfold upK;rw[e,if_pos c];cases n <;> rfl
   rw[eu];refine⟨by omega,fun i hi g1 g2=>?_,h3⟩
   by_cases hin:i=n
   ·subst hin;exact c
   ·exact h2 i hi g1 (by omega)
  ·have eu:upK l at_ (n+1)=n+1:=by unfold upK;rw[e,if_neg c]
   rw[eu];exact⟨Nat.le_refl _,fun i _ g1 g2=>by omega,fun _ _=>by simpa using Int.not_lt.1 c⟩
theorem z6U (l:List Ent)(at_:Int):(upL l at_).length=upK l at_ l.length:=by
 unfold upL;rw[List.length_take];have:=(IS l at_ l.length (Nat.le_refl _)).1;omega
theorem z0F (l:List Ent)(at_:Int):(upL l at_).length≤l.length:=by rw[z6U];exact(IS l at_ l.length (Nat.le_refl _)).1
theorem z6V {l:List Ent}(hs:l.Pairwise fun a b=>a.time≤b.time)(at_:Int)(i:Nat)(hi:i<l.length):i<(upL l at_).length↔l[i].time≤at_:=by
 obtain⟨h1,h2,h3⟩:=IS l at_ l.length (Nat.le_refl _);rw[z6U];constructor
 ·intro h
  have hb:upK l at_ l.length-1<l.length:=by omega
  have h4:=h3 hb (by omega)
  by_cases e:i=upK l at_ l.length-1
  ·subst e;exact h4
  ·have:=List.pairwise_iff_getElem.1 hs i (upK l at_ l.length-1) hi hb (by omega)
   omega
 ·intro h
  rcases Nat.lt_or_ge i (upK l at_ l.length) with g|g
  ·exact g
  ·have:=h2 i hi g hi;omega
def eF (l:List Ent)(at_:Int):List Nat:=(List.range l.length).filter (DO l at_)
def z1t:AllQ:=⟨⟨[],[]⟩,[],[]⟩
def theQ (steps:List Nm)(tries:Int)(U:List Ent):AllQ:=goQ steps tries z1t 0 (zipC U)
theorem zga (l:List Ent)(at_:Int):eF l at_=(List.range' 0 (upL l at_).length).filter fun i=>(YA (upL l at_)).getD i false:=by
 unfold eF;have hl:=z0F l at_
 have e:List.range l.length=List.range' 0 (upL l at_).length++List.range' (upL l at_).length (l.length-(upL l at_).length):=by
  have:=List.range'_append_1 (s:=0) (m:=(upL l at_).length) (n:=l.length-(upL l at_).length);rw[Nat.zero_add]at this;rw[List.range_eq_range',this];congr 1;omega
 rw[e,List.filter_append];have e2:(List.range' (upL l at_).length (l.length-(upL l at_).length)).filter (DO l at_)=[]:=by
  rw[List.filter_eq_nil_iff];intro i hi;rw[List.mem_range'_1]at hi;unfold DO;rw[zbs hi.1];simp
 rw[e2,List.append_nil];rfl
theorem jQ (steps:List Nm)(tries:Int)(h0:steps≠[]):∀(l:List (Ent×Bool)) (S:Flo) (i n:Nat) (a:AllP),FlI S steps n→S.P=a.w→S.ref=a.ref.map (fun(j:Nat)=>(j:Int))→S.why=a.why →
 (Flo.go steps tries S i l).P=(goP steps tries a i l).w∧(Flo.go steps tries S i l).ref=(goP steps tries a i l).ref.map (fun(j:Nat)=>(j:Int))∧(Flo.go steps tries S i l).why=(goP steps tries a i l).why
 | [],S,i,n,a,I,h1,h2,h3=>⟨h1,h2,h3⟩
 | (x,c)::r,S,i,n,a,I,h1,h2,h3=>by
  have e1:Flo.go steps tries S i ((x,c)::r)=if c=false∨x.kind=7 then Flo.go steps tries S (i+1) r else Flo.go steps tries (S.step steps tries i x) (i+1) r:=rfl
  rw[e1];unfold goP;by_cases hs:c=false∨x.kind=7
  ·rw[if_pos hs,if_pos hs]
   exact jQ steps tries h0 r S (i+1) (n+1) a I.up h1 h2 h3
  ·rw[if_neg hs,if_neg hs]
   obtain⟨s1,s2,s3,s4⟩:=zmP (tries:=tries) I h0 i x;rw[h1]at s2 s3 s4;by_cases hz:(ZC steps tries a.w x).2≠0
   ·rw[if_pos hz]at s3 s4 ⊢
    exact jQ steps tries h0 r _ (i+1) (n+1) _ s1 s2 (by rw[s3,h2];simp) (by rw[s4,h3])
   ·rw[if_neg hz]at s3 s4 ⊢
    exact jQ steps tries h0 r _ (i+1) (n+1) _ s1 s2 (by rw[s3,h2]) (by rw[s4,h3])
structure Both (F:Flo) (q:AllQ):Prop where
 inv:Inv F.P q.w
 ref:F.ref=q.ref.map (fun(j:Nat)=>(j:Int))
 why:F.why=q.why
theorem yD (steps:List Nm)(tries:Int)(h0:steps≠[]){U:List Ent}(hf:∀ x∈U,mB x=0):Both (znu steps tries U) (theQ steps tries U):=by
 obtain⟨p1,p2,p3⟩:=jQ steps tries h0 (zipC U) flo0 0 0 ⟨⟨[],[],[],[]⟩,[],[]⟩ (flI0 steps) rfl rfl rfl;obtain⟨i1,i2,i3⟩:=IM steps tries (zipC U) ⟨⟨[],[],[],[]⟩,[],[]⟩ z1t 0 (fun y hy=>zeZ (hf y.1 (List.of_mem_zip hy).1)) inv0 rfl rfl
 exact⟨by rw[p1];exact i1,by rw[p2,i2];rfl,by rw[p3,i3];rfl⟩
end Go.Am
end
