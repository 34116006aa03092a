import Derived.Laws.Strings
import Derived.Laws.StructEq
import Derived.Laws.MakeOwn
import Derived.Laws.AppendOwn
import Derived.Test.YthlhdniejglcnaaGreatDoorlawPY0
set_option linter.all false
set_option maxRecDepth 100000
set_option maxHeartbeats 0
namespace Go.Am
section
variable {h h':aA} {μ μ':Mu} {w w':World} {P:Program}
def sF (h:aA)(id:Nat):Nat:=match h[id]? with
 | some o=>o.top
 | none=>0
def yC:Esc->Nat->Nat
 | [],_=>0
 | y::r,id=>max (if y.1=id then y.2 else 0) (yC r id)
theorem zj8 (x y:Esc)(id:Nat):yC (x++y) id=max (yC x id) (yC y id):=by
 induction x with
 | nil=>simp [yC]
 | cons a r ih=>simp only[List.cons_append,yC,ih];omega
def rA (h0 h:aA)(x:Esc):Prop:=∀(id:Nat) (o:Obj),h[id]?=some o->o.top<=max (max (sF h0 id) id) (yC x id)
theorem rA.refl (h:aA)(x:Esc):rA h h x:=by
 intro id o ho;simp only[sF,ho];omega
theorem rA.trans {h0 h1 h2:aA}{x1 x2:Esc}(a:rA h0 h1 x1)(b:rA h1 h2 x2):rA h0 h2 (x2++x1):=by
 intro id o ho;have h1':=b id o ho
 rw[zj8];simp only[sF]at h1' ⊢;cases hh:h1[id]? with
 | none=>rw[hh]at h1';simp at h1';omega
 | some o1=>
  rw[hh]at h1';have h2':=a id o1 hh
  simp only[sF]at h2';dsimp only at h1';omega
theorem rA.push {h:aA}{o:Obj}(ht:o.top<=h.length):rA h (h++[o]) []:=by
 intro id o' ho;rcases EG ho with ho|⟨e,e'⟩
 ·simp only[sF,ho];omega
 ·subst e';omega
theorem rA.set {h:aA}{id:Nat}{o o':Obj}{x:Esc}(ho:h[id]?=some o)(ht:o'.top<=max (max o.top id) (yC x id)):rA h (h.set id o') x:=by
 intro i o1 h1;rcases fG h1 with⟨_,h1⟩|⟨rfl,rfl,_⟩
 ·simp only[sF,h1];omega
 ·simp only[sF,ho];omega
theorem AT (id:Nat)(v:AV):v.top<=max id (yC (rC id v) id):=by
 unfold rC;split
 ·simp [yC];omega
 ·simp [yC];omega
theorem z6E {x:Esc}{n id:Nat}(hi:id<n):yC (x.filter λy=>decide (y.1<n)) id=yC x id:=by
 induction x with
 | nil=>rfl
 | cons a r ih=>
  by_cases ha:a.1<n
  ·simp [List.filter_cons,ha,yC,ih]
  ·have:a.1≠id:=by omega
   simp [List.filter_cons,ha,yC,ih,this]
theorem z6D {x:Esc}{n id:Nat}(hc:xB x n=true)(hi:id<n):yC x id<=n:=by
 induction x with
 | nil=>simp [yC]
 | cons a r ih=>
  simp only[xB,List.all_cons,Bool.and_eq_true,Bool.or_eq_true,decide_eq_true_eq]at hc;have:=ih (by simpa [xB] using hc.2)
  simp only[yC];split
  ·have:=hc.1;omega
  ·omega
theorem DQ (a b:List AV):AV.tops (a++b)=max (AV.tops a) (AV.tops b):=by
 induction a with
 | nil=>simp [AV.tops]
 | cons v r ih=>simp only[List.cons_append,AV.tops,ih];omega
theorem zrk (a:List AV)(n:Nat):AV.tops (a.take n)<=AV.tops a:=by
 have:=DQ (a.take n) (a.drop n);rw[List.take_append_drop]at this;omega
theorem zrf (a:List AV)(n:Nat):AV.tops (a.drop n)<=AV.tops a:=by
 have:=DQ (a.take n) (a.drop n);rw[List.take_append_drop]at this;omega
theorem zbc (cs vs:List AV)(off:Nat):AV.tops (splice cs off vs)<=max (AV.tops cs) (AV.tops vs):=by
 unfold splice;rw[DQ,DQ];have:=zrk cs off;have:=zrf cs (off+vs.length);omega
theorem zbb (vs:List PV):AV.tops (vs.map AV.p)=0:=by
 induction vs with
 | nil=>rfl
 | cons v r ih=>simp [AV.tops,AV.top,ih]
theorem QY {v:AV}{cs:List AV}(hc:v.cells=some cs):AV.tops cs=v.top:=by
 cases v with
 | p x=>
  cases x with
  | agg l=>simp only[AV.cells]at hc;split at hc <;> simp at hc;subst hc;rw[zbb];simp [AV.top]
  | _=>simp [AV.cells]at hc;subst hc;simp [AV.tops,AV.top]
 | agg l=>simp only[AV.cells]at hc;split at hc <;> simp at hc;subst hc;simp [AV.top]
 | tup l=>simp [AV.cells]at hc
 | anyb=>simp [AV.cells]at hc
 | skp=>simp [AV.cells]at hc
 | und=>simp [AV.cells]at hc
 | _=>simp [AV.cells]at hc;subst hc;simp [AV.tops]
def kB (P:Program)(t:TypeId):Option Sh:=match P.underlying t,P.info? t with
 | some (.struct _),some i=>some (some i.size)
 | some (.array _ _),some i=>some (some i.size)
 | some _,some i=>if i.size=1 then some none else none
 | _,_=>none
theorem xH {t:TypeId}{i:TypeInfo}(hi:P.info? t=some i):(typeInfo t).run P w = .ok i w:=by
 unfold typeInfo;simp [hi]
theorem TA {t:TypeId}{d:TypeDesc}(hd:P.underlying t=some d):(underlying t).run P w = .ok d w:=by
 unfold underlying;simp [hd]
theorem sE {t:TypeId}{sh:Sh}(hs:kB P t=some sh):(sizeOf t).run P w = .ok (gA sh) w:=by
 unfold sizeOf;unfold kB at hs;cases hi:P.info? t with
 | none=>simp [hi]at hs
 | some i=>
  simp only[hi]at hs;rw[Sem.run_bind,xH hi];split at hs <;> simp_all [gA]
  ·subst hs;rfl
  ·subst hs;rfl
  ·obtain⟨h1,h2⟩:=hs;subst h2;simp
theorem zaa {t:TypeId}{sh:Sh}(hs:kB P t=some sh):(isAgg t).run P w = .ok sh.isSome w:=by
 unfold isAgg;unfold kB at hs;cases hd:P.underlying t with
 | none=>simp [hd]at hs
 | some d=>
  rw[Sem.run_bind,TA hd];cases hi:P.info? t with
  | none=>simp [hd,hi]at hs
  | some i=>cases d <;> simp_all <;> (first|(obtain⟨h1,h2⟩:=hs;subst h2;rfl)|(subst hs;rfl))
theorem wC (b o k:Nat):(⟨b,o,none⟩:Addr).add k=⟨b,o+k,none⟩:=by
 unfold Addr.add;split
 ·subst_vars;rfl
 ·rfl
theorem zad {b o:Nat}{v:Value}(hv:w.cell? ⟨b,o,none⟩=some v):(load ⟨b,o,none⟩).run P w = .ok v w:=by
 rw[run_load];simp [hv]
theorem zab {b o:Nat}{f:Nat->Value}:∀(n i:Nat) (acc:Array Value),(∀j,j<n->w.cell? ⟨b,o+(i+j),none⟩=some (f (i+j))) ->
 (loadCellsFrom ⟨b,o,none⟩ i n acc).run P w = .ok (acc++((List.range' i n).map f).toArray) w
 | 0,i,acc,_=>by simp [loadCellsFrom]
 | n+1,i,acc,hf=>by
  unfold loadCellsFrom;rw[Sem.run_bind,wC,zad (v:=f i) (by simpa using hf 0 (by omega))]
  simp only[Result.andThen_ok];rw[zab n (i+1) _ (λj hj=>by have:=hf (j+1) (by omega);rw[show i+1+j=i+(j+1) by omega];exact this)]
  congr 1
  simp [List.range'_succ]
theorem z3B {b o n:Nat}{f:Nat->Value}(hf:∀ j,j<n->w.cell? ⟨b,o+j,none⟩=some (f j)) :
 (loadCells ⟨b,o,none⟩ n).run P w = .ok ((List.range n).map f).toArray w:=by
 unfold loadCells;rw[zab n 0 _ (λj hj=>by rw[Nat.zero_add];exact hf j hj)]
 simp [List.range_eq_range']
def yD (sh:Sh)(f:Nat->Value):Value:=match sh with
 | none=>f 0
 | some n=>.agg ((List.range n).map f).toArray
theorem zac {t:TypeId}{sh:Sh}(hs:kB P t=some sh){b o:Nat}{f:Nat->Value}(hf:∀ j,j<gA sh->w.cell? ⟨b,o+j,none⟩=some (f j)) :
 (loadVar t ⟨b,o,none⟩).run P w = .ok (yD sh f) w:=by
 unfold loadVar;rw[Sem.run_bind,zaa hs];simp only[Result.andThen_ok];cases sh with
 | none=>
  simp only[Option.isSome,Bool.false_eq_true,if_false];exact zad (hf 0 (by simp [gA]))
 | some n=>
  simp only[Option.isSome,if_true];rw[Sem.run_bind,sE hs];simp only[Result.andThen_ok,Sem.run_bind,gA];rw[z3B (f:=f) (λj hj=>hf j (by simpa [gA] using hj))]
  rfl
def uB (w:World)(b:Nat)(o:Go.Obj):World:={ w with heap:=w.heap.setIfInBounds b o }
theorem OE {b:Nat}{o o':Go.Obj}(hb:w.heap[b]?=some o):(uB w b o').heap[b]?=some o':=by
 have:b<w.heap.size:=by
  rcases Nat.lt_or_ge b w.heap.size with h|h
  ·exact h
  ·rw[Array.getElem?_eq_none h]at hb;cases hb
 simp [uB,this]
theorem PI {b b':Nat}{o':Go.Obj}(hb:b'≠b):(uB w b o').heap[b']?=w.heap[b']?:=by
 simp [uB,Array.getElem?_setIfInBounds,Ne.symm hb]
theorem QI (b:Nat)(o':Go.Obj):(uB w b o').heap.size=w.heap.size:=by simp [uB]
theorem zqe (b:Nat)(x y:Go.Obj):uB (uB w b x) b y=uB w b y:=by
 simp only[uB];congr 1
 apply Array.ext'
 simp
theorem zqd {b:Nat}{o:Go.Obj}(hb:w.heap[b]?=some o):uB w b o=w:=by
 have hlt:b<w.heap.size:=by
  rcases Nat.lt_or_ge b w.heap.size with h|h
  ·exact h
  ·rw[Array.getElem?_eq_none h]at hb;cases hb
 have:w.heap.setIfInBounds b o=w.heap:=by
  apply Array.ext_getElem?
  intro i;by_cases hi:b=i
  ·subst hi;rw[hb,Array.getElem?_setIfInBounds_self_of_lt hlt]
  ·rw[Array.getElem?_setIfInBounds_ne hi]
 simp [uB,this]
theorem zqf {b o:Nat}{v:Value}{c:Array Value}{E:TypeId}{fr:Nat × Nat}(hb:w.heap[b]?=some (.cells c E fr)) :
 w.setCell ⟨b,o,none⟩ v=uB w b (.cells (c.setIfInBounds o v) E fr):=by
 have hlt:b<w.heap.size:=by
  rcases Nat.lt_or_ge b w.heap.size with h|h
  ·exact h
  ·rw[Array.getElem?_eq_none h]at hb;cases hb
 have hb':w.heap[b] = .cells c E fr:=by
  rw[Array.getElem?_eq_getElem hlt]at hb;injection hb
 simp only[World.setCell,uB];congr 1
 apply Array.ext_getElem?
 intro i;by_cases hi:b=i
 ·subst hi
  rw[Array.getElem?_setIfInBounds_self_of_lt hlt,Array.getElem?_modify];simp only[hlt,if_true,Option.map_some,Array.getElem?_eq_getElem,Option.some.injEq];rw[hb'];simp
 ·rw[Array.getElem?_setIfInBounds_ne hi,Array.getElem?_modify]
  simp [hi]
theorem zkd {b o n:Nat}{c:Array Value}(hb:gB w b n c)(ho:o<n):w.frozen? ⟨b,o,none⟩=false:=by
 obtain⟨_,E,lo,hi,he,hf⟩:=hb;unfold World.frozen?;simp only[he];simp;intro h1;rcases Nat.lt_or_ge lo hi with h2|h2
 ·have:=hf (λh=>h) h2;omega
 ·omega
theorem iL {b n:Nat}{c c0:Array Value}{E:TypeId}{f f0:Nat × Nat}(g1:w.heap[b]?=some (.cells c0 E f0))(b' n':Nat)(t:TypeId)(e:some (b,n)=some (b',n'))(ht:ety w b'=some t) :
 ety (uB w b (.cells c E f)) b'=some t:=by
 injection e with e
 injection e with e1 e2
 subst e1;rw[DO g1]at ht;rw[DO (OE g1)];exact ht
def yB (c:Array Value)(o:Nat):List Value->Array Value
 | []=>c
 | v::r=>yB (c.setIfInBounds o v) (o+1) r
theorem oG (c:Array Value)(o:Nat)(vs:List Value):(yB c o vs).size=c.size:=by
 induction vs generalizing c o with
 | nil=>rfl
 | cons v r ih=>simp [yB,ih]
theorem zH (c:Array Value)(o:Nat)(vs:List Value)(j:Nat)(hl:o+vs.length<=c.size) :
 (yB c o vs)[j]?=if o<=j/\j<o+vs.length then vs[j-o]? else c[j]?:=by
 induction vs generalizing c o with
 | nil=>simp [yB];intro h1 h2;omega
 | cons v r ih=>
  simp only[yB,List.length_cons]at hl ⊢;rw[ih _ _ (by simp;omega)]
  by_cases h1:o+1<=j/\j<o+1+r.length
  ·rw[if_pos h1,if_pos (by omega)]
   rw[show j-o=(j-(o+1))+1 by omega]
   simp
  ·rw[if_neg h1]
   by_cases h2:o=j
   ·subst h2
    rw[if_pos (by omega),Array.getElem?_setIfInBounds_self_of_lt (by omega)]
    simp
   ·rw[if_neg (by omega)]
    simp [Array.getElem?_setIfInBounds,h2]
theorem z3D {b o n:Nat}(vs:List Value):∀(w:World) (c:Array Value) (i:Nat),gB w b n c->o+i+vs.length<=n->(∀v∈vs,v.oneCell'=true) ->
 ∃E lo hi,w.heap[b]?=some (.cells c E (lo,hi))/\(storeCells ⟨b,o,none⟩ vs i).run P w = .ok () (uB w b (.cells (yB c (o+i) vs) E (lo,hi))):=by
 induction vs with
 | nil=>
  intro w c i hb hl hv;obtain⟨h1,E,lo,hi,he,hf⟩:=hb;refine⟨E,lo,hi,he,?_⟩;simp only[storeCells,yB,zqd he];rfl
 | cons v r ih=>
  intro w c i hb hl hv;have hb0:=hb
  obtain⟨h1,E,lo,hi,he,hf⟩:=hb;simp only[List.length_cons]at hl;have hcell:∃u,w.cell? ⟨b,o+i,none⟩=some u:=by
   rw[SD hb0];exact⟨c[o+i]'(by omega),Array.getElem?_eq_getElem _⟩
  obtain⟨u,hu⟩:=hcell;refine⟨E,lo,hi,he,?_⟩;unfold storeCells;rw[Sem.run_bind,wC,run_store P w _ _ _ (hv v (by simp)),hu]
  simp only[zkd hb0 (show o+i<n by omega),Bool.false_eq_true,if_false,Result.andThen_ok]
  rw[zqf he];have hb1:gB (uB w b (.cells (c.setIfInBounds (o+i) v) E (lo,hi))) b n (c.setIfInBounds (o+i) v):=
   ⟨by simp [h1],E,lo,hi,OE he,hf⟩
  obtain⟨E',lo',hi',he',hrun⟩:=ih _ _ (i+1) hb1 (by omega) (λx hx=>hv x (by simp [hx]))
  rw[OE he]at he';injection he' with he'
  injection he' with e1 e2 e3
  injection e3 with e3 e4
  subst e2;subst e3;subst e4
  rw[hrun,zqe];simp [yB,Nat.add_assoc]
end
section
variable {h h':aA} {μ μ':Mu} {w w':World} {P:Program} {M:Mem}
def xR:PV->Value->Bool
 | .int k n,.int k' n'=>k==k'&&n==n'
 | .bool b,.bool b'=>b==b'
 | .str s,.string s'=>s==s'.data.toList
 | .nilp,.pointer none=>true
 | .sl _ [],.slice _ 0 _=>true
 | _,_=>false
def GK:List PV->List Value->Bool
 | [],[]=>true
 | a::r,b::s=>xR a b&&GK r s
 | _,_=>false
def qJ:AV->Value->Bool
 | .p (.agg cs),.agg vs=>GK cs vs.toList
 | .p v,x=>xR v x
 | .nilp,.pointer none=>true
 | .sl0 _,.slice _ 0 0=>true
 | .nilm,.map none=>true
 | .nilf,.nilFunc=>true
 | .nili,.nilIface=>true
 | _,_=>false
def JA:Opd->Operand->Bool
 | .t n,.tmp m=>n==m
 | .c a,.const v=>qJ a v
 | .f i,.func j=>i==j
 | .g i,.global j=>i==j
 | _,_=>false
theorem z5Q {v:PV}{x:Value}(hc:xR v x=true):RPV M v x:=by
 unfold xR at hc;split at hc <;> simp at hc
 ·obtain⟨rfl,rfl⟩:=hc;exact .int _ _
 ·subst hc;exact .bool _
 ·subst hc;rename_i s';exact .str s'.data.toList
 ·exact .nilp
 ·exact .nils _ _ _
theorem z5P:∀ {cs:List PV} {vs:List Value},GK cs vs=true->cs.length=vs.length/\∀ (j:Nat) (y:PV) (v:Value),cs[j]?=some y->vs[j]?=some v->RPV M y v
 | [],[],_=>⟨rfl,λj y v h=>by simp at h⟩
 | [],_::_,h=>by simp [GK]at h
 | _::_,[],h=>by simp [GK]at h
 | a::r,b::s,h=>by
  simp only[GK,Bool.and_eq_true]at h;have hs:=z5P h.2
  refine⟨by simp [hs.1],λj y v hy hv=>?_⟩
  cases j with
  | zero=>simp at hy hv;subst hy;subst hv;exact z5Q h.1
  | succ j=>exact hs.2 j y v (by simpa using hy) (by simpa using hv)
theorem wR {a:AV}{x:Value}(hc:qJ a x=true):RAV M h μ a x:=by
 unfold qJ at hc;split at hc
 ·rename_i cs vs
  have hs:=z5P (M:=M) hc
  have:=RPV.agg (M:=M) cs vs.toList hs.1 hs.2;exact .p _ _ (by simpa using this)
 ·exact .p _ _ (z5Q hc)
 ·exact .nilp
 ·exact .sl0 _ _
 ·exact .nilm
 ·exact .nilf
 ·exact .nili
 ·cases hc
def wE (M:Mem)(h:aA)(μ:Mu)(ev:Opd->AV)(ρ:Operand->Value):Prop:=∀x y,JA x y=true->RAV M h μ (ev x) (ρ y)
def lA (P:Program)(s:Sem Next)(h:aA)(μ:Mu)(w:World)(v:AV)(h':aA)(x:Esc):Prop:=
 ∃nx w' μ',s.run P w = .ok nx w'/\((∃u,nx = .value u/\RAV (imm h' μ' w') h' μ' v u)∨(nx = .skip/\v = .und))/\HeapRel h' μ' w' /\
  Evo (imm h μ w) h μ (imm h' μ' w') h' μ'/\rA h h' x
theorem lA.pure {s:Sem Next}{v:AV}{u:Value}(H:HeapRel h μ w)(hr:s.run P w = .ok (.value u) w)(hu:RAV (imm h μ w) h μ v u):lA P s h μ w v h []:=
 ⟨_,w,μ,hr,.inl ⟨u,rfl,hu⟩,H,Evo.refl _ _ _,rA.refl _ _⟩
theorem lA.ext {s:Sem Next}{v:AV}{u:Value}{w':World}(H:HeapRel h μ w)(hw:WExt w w')(hr:s.run P w = .ok (.value u) w')(hu:RAV (imm h μ w') h μ v u):lA P s h μ w v h []:=
 ⟨_,w',μ,hr,.inl ⟨u,rfl,hu⟩,(H.ext hw).1,(H.ext hw).2,rA.refl _ _⟩
theorem yA {s:Sem Value}{u:Value}(hs:s.run P w = .ok u w'):((do pure (.value (<-s)):Sem Next)).run P w = .ok (.value u) w':=by
 simp [hs]
theorem z3E {s:Sem Unit}(hs:s.run P w = .ok () w'):((do s;pure .skip:Sem Next)).run P w = .ok .skip w':=by
 simp [hs]
theorem RAV.p_int {k:IntKind}{n:Int}{x:Value}(H:RAV M h μ (.p (.int k n)) x):x = .int k n:=by
 cases H with|p _ _ hv=>cases hv;rfl
theorem RAV.p_bool {b:Bool}{x:Value}(H:RAV M h μ (.p (.bool b)) x):x = .bool b:=by
 cases H with|p _ _ hv=>cases hv;rfl
theorem RAV.p_str {s:List UInt8}{x:Value}(H:RAV M h μ (.p (.str s)) x):x = .string ⟨s.toArray⟩:=by
 cases H with|p _ _ hv=>cases hv;rfl
theorem RAV.p_inv {v:PV}{x:Value}(H:RAV M h μ (.p v) x):RPV M v x:=by
 cases H with|p _ _ hv=>exact hv
theorem lG {a:AV}{k:Nat}{x:Value}(hk:sB a=some k)(H:RAV M h μ a x):∃kk,x = .int kk (k:Int):=by
 unfold sB at hk;split at hk
 ·split at hk
  ·simp at hk
   rename_i kk n hn;rw[H.p_int];exact⟨kk,by rw[<-hk];simp;omega⟩
  ·cases hk
 ·cases hk
theorem RAV.pint (n:Nat):RAV M h μ (pint n) (goInt n):=.p _ _ (.int _ _)
theorem RAV.pbool (b:Bool):RAV M h μ (pbool b) (.bool b):=.p _ _ (.bool b)
theorem vN:∀ {cs:List AV} {vs:List PV},unp cs=some vs->cs=vs.map AV.p
 | [],vs,h=>by simp [unp]at h;subst h;rfl
 | a::r,vs,h=>by
  cases a <;> simp [unp]at h
  obtain⟨l,h1,rfl⟩:=h;simp [vN h1]
theorem z1y {cs:List AV}{vs:List Value}(hl:cs.length=vs.length)(hr:∀ (j:Nat) (y:AV) (v:Value),cs[j]?=some y->vs[j]?=some v->RAV M h μ y v) :
 RAV M h μ (mkA cs) (.agg vs.toArray):=by
 unfold mkA;split
 ·rename_i ps hp
  have:=vN hp;subst this;refine .p _ _ (.agg ps vs (by simpa using hl) (λj y v h1 h2=>?_))
  exact(hr j (.p y) v (by simp [h1]) h2).p_inv
 ·exact .agg cs vs hl hr
theorem kJ {v:AV}{x:Value}{cs:List AV}(H:RAV M h μ v x)(hc:v.cells=some cs) :
 x.cells.size=cs.length/\(∀(j:Nat) (y:AV),cs[j]?=some y->y.sc=true/\∃u,x.cells[j]?=some u/\RAV M h μ y u):=by
 have one:∀{v:AV} {x:Value},RAV M h μ v x->v.sc=true->x.cells = #[x]->x.cells.size=[v].length/\(∀(j:Nat) (y:AV),[v][j]?=some y->y.sc=true/\∃u,x.cells[j]?=some u/\RAV M h μ y u):=by
  intro v x H hs hx;refine⟨by simp [hx],λj y hy=>?_⟩
  cases j with
  | zero=>simp at hy;subst hy;exact⟨hs,x,by simp [hx],H⟩
  | succ j=>simp at hy
 cases v with
 | p pv=>
  cases pv with
  | agg l=>
   simp only[AV.cells]at hc;split at hc
   ·rename_i hall
    simp at hc;subst hc;cases H with|p _ _ hv=>cases hv with|agg _ vs hl hr=>
    refine⟨by simp [Value.cells,hl],λj y hy=>?_⟩
    simp only[List.getElem?_map,Option.map_eq_some_iff]at hy;obtain⟨z,hz,rfl⟩:=hy;have hj:j<vs.length:=by rw[<-hl];exact IA hz
    rw[List.all_eq_true]at hall;refine⟨by simp [AV.sc];exact hall z (List.mem_of_getElem? hz),vs[j],by simp [Value.cells,hj],.p _ _ (hr j z _ hz (List.getElem?_eq_getElem hj))⟩
   ·cases hc
  | int k n=>simp [AV.cells]at hc;subst hc;exact one H rfl (by rw[H.p_int];rfl)
  | bool b=>simp [AV.cells]at hc;subst hc;exact one H rfl (by rw[H.p_bool];rfl)
  | str s=>simp [AV.cells]at hc;subst hc;exact one H rfl (by rw[H.p_str];rfl)
  | nilp=>simp [AV.cells]at hc;subst hc;exact one H rfl (by cases H.p_inv;rfl)
  | unk=>simp [AV.cells]at hc;subst hc;exact one H rfl (by cases H.p_inv;rfl)
  | sl sh xs=>simp [AV.cells]at hc;subst hc;exact one H rfl (by cases H.p_inv <;> rfl)
 | agg l=>
  simp only[AV.cells]at hc;split at hc
  ·rename_i hall
   simp at hc;subst hc;cases H with|agg _ vs hl hr=>
   refine⟨by simp [Value.cells,hl],λj y hy=>?_⟩
   have hj:j<vs.length:=by rw[<-hl];exact IA hy
   rw[List.all_eq_true]at hall;exact⟨hall y (List.mem_of_getElem? hy),vs[j],by simp [Value.cells,hj],hr j y _ hy (List.getElem?_eq_getElem hj)⟩
  ·cases hc
 | tup l=>simp [AV.cells]at hc
 | anyb=>simp [AV.cells]at hc
 | skp=>simp [AV.cells]at hc
 | und=>simp [AV.cells]at hc
 | own a b c d=>simp [AV.cells]at hc;subst hc;exact one H rfl (by cases H;rfl)
 | sl0 sh=>simp [AV.cells]at hc;subst hc;exact one H rfl (by cases H;rfl)
 | ref a b=>simp [AV.cells]at hc;subst hc;exact one H rfl (by cases H;rfl)
 | rref a b c d=>simp [AV.cells]at hc;subst hc;exact one H rfl (by cases H;rfl)
 | vp v=>simp [AV.cells]at hc;subst hc;exact one H rfl (by cases H;rfl)
 | nilp=>simp [AV.cells]at hc;subst hc;exact one H rfl (by cases H;rfl)
 | nilm=>simp [AV.cells]at hc;subst hc;exact one H rfl (by cases H;rfl)
 | nilf=>simp [AV.cells]at hc;subst hc;exact one H rfl (by cases H;rfl)
 | nili=>simp [AV.cells]at hc;subst hc;exact one H rfl (by cases H;rfl)
 | ifc=>simp [AV.cells]at hc;subst hc;exact one H rfl (by cases H;rfl)
 | mp a=>simp [AV.cells]at hc;subst hc;exact one H rfl (by cases H;rfl)
 | it a=>simp [AV.cells]at hc;subst hc;exact one H rfl (by cases H;rfl)
 | fn a b=>simp [AV.cells]at hc;subst hc;exact one H rfl (by cases H;rfl)
 | anyp=>simp [AV.cells]at hc;subst hc;exact one H rfl (by cases H;rfl)
 | bt k t id g=>simp [AV.cells]at hc;subst hc;exact one H rfl (by cases H <;> rfl)
theorem xQ {v:AV}{x:Value}(H:RAV M h μ v x)(hs:v.sc=true):x.oneCell'=true:=by
 cases H with
 | p pv _ hv=>cases hv <;> first|rfl|(simp [AV.sc,PV.sc]at hs)
 | agg=>simp [AV.sc]at hs
 | tup=>simp [AV.sc]at hs
 | anyb=>simp [AV.sc]at hs
 | skp=>simp [AV.sc]at hs
 | und=>simp [AV.sc]at hs
 | _=>rfl
theorem wF {α:Type}[BEq α][LawfulBEq α][DecidableEq α](a b:α):(a==b)=decide (a=b):=by
 by_cases h:a=b <;> simp [h]
theorem zdp {op:BinOp}{k:IntKind}{a b:Int}{r:PV}{t:TypeId}(h1:op ≠ .shl)(h2:op ≠ .shr)(hr:CD op k a b=some r) :
 ∃u,(binOp op t (.int k a) (.int k b)).run P w = .ok u w/\RPV M r u:=by
 cases op <;> simp only[CD]at hr
 case shl=>exact absurd rfl h1
 case shr=>exact absurd rfl h2
 case quo=>split at hr <;> simp at hr;subst hr;exact⟨_,by simp [binOp,Op.intDiv, *],.int _ _⟩
 case rem=>split at hr <;> simp at hr;subst hr;exact⟨_,by simp [binOp,Op.intDiv, *],.int _ _⟩
 case add=>injection hr with hr;subst hr;exact⟨_,by simp [binOp,Op.intArith],.int _ _⟩
 case sub=>injection hr with hr;subst hr;exact⟨_,by simp [binOp,Op.intArith],.int _ _⟩
 case mul=>injection hr with hr;subst hr;exact⟨_,by simp [binOp,Op.intArith],.int _ _⟩
 case and=>injection hr with hr;subst hr;refine⟨_,?_,.int _ _⟩;simp [binOp,Op.intBits,xI,ior,OP,JP]
 case or=>injection hr with hr;subst hr;refine⟨_,?_,.int _ _⟩;simp [binOp,Op.intBits,xI,ior,OP,JP]
 case xor=>injection hr with hr;subst hr;refine⟨_,?_,.int _ _⟩;simp [binOp,Op.intBits,xI,ior,OP,JP]
 case andNot=>injection hr with hr;subst hr;refine⟨_,?_,.int _ _⟩;simp [binOp,Op.intBits,xI,ior,OP,JP]
 case eql=>injection hr with hr;subst hr;refine⟨_,?_,.bool _⟩;simp [binOp,Op.intCmp,wF]
 case neq=>injection hr with hr;subst hr;refine⟨_,?_,.bool _⟩;simp [binOp,Op.intCmp,wF,bne]
 case lss=>injection hr with hr;subst hr;refine⟨_,?_,.bool _⟩;simp [binOp,Op.intCmp]
 case leq=>injection hr with hr;subst hr;refine⟨_,?_,.bool _⟩;simp [binOp,Op.intCmp]
 case gtr=>injection hr with hr;subst hr;refine⟨_,?_,.bool _⟩;simp [binOp,Op.intCmp]
 case geq=>injection hr with hr;subst hr;refine⟨_,?_,.bool _⟩;simp [binOp,Op.intCmp]
theorem zd8 {op:BinOp}{a b:List UInt8}{r:PV}{t:TypeId}(hr:fJ op a b=some r) :
 ∃u,(binOp op t (.string ⟨a.toArray⟩) (.string ⟨b.toArray⟩)).run P w = .ok u w/\RPV M r u:=by
 cases op <;> simp only[fJ]at hr
 case add=>
  split at hr
  ·rename_i hl
   injection hr with hr
   subst hr;refine⟨.string ⟨(a++b).toArray⟩,?_,.str _⟩;simp only[binOp,Op.stringOp];rw[if_neg]
   ·have:(⟨a.toArray⟩:ByteArray)++⟨b.toArray⟩=⟨(a++b).toArray⟩:=by
     apply ByteArray.ext
     simp [ByteArray.data_append]
    rw[this];rfl
   ·simp only[QA]at hl
    simp [ByteArray.size,IntKind.max,IntKind.signed,IntKind.bits];omega
  ·cases hr
 case eql=>injection hr with hr;subst hr;refine⟨_,?_,.bool _⟩;simp [binOp,Op.stringOp,Go.ByteArray.toList_mk,wF]
 case neq=>injection hr with hr;subst hr;refine⟨_,?_,.bool _⟩;simp [binOp,Op.stringOp,Go.ByteArray.toList_mk,wF]
 case lss=>injection hr with hr;subst hr;refine⟨_,?_,.bool _⟩;simp [binOp,Op.stringOp,Go.ByteArray.toList_mk]
 case leq=>injection hr with hr;subst hr;refine⟨_,?_,.bool _⟩;simp [binOp,Op.stringOp,Go.ByteArray.toList_mk,wF]
 case gtr=>injection hr with hr;subst hr;refine⟨_,?_,.bool _⟩;simp [binOp,Op.stringOp,Go.ByteArray.toList_mk,wF]
 case geq=>injection hr with hr;subst hr;refine⟨_,?_,.bool _⟩;simp [binOp,Op.stringOp,Go.ByteArray.toList_mk]
 all_goals cases hr
theorem zdf {op:BinOp}{a b r:PV}{x y:Value}{t:TypeId}(ha:RPV M a x)(hb:RPV M b y)(hr:SB op a b=some r) :
 ∃u,(binOp op t x y).run P w = .ok u w/\RPV M r u:=by
 cases a with
 | int k n=>
  cases ha;cases b with
  | int k' n'=>
   cases hb;by_cases h1:op = .shl
   ·subst h1
    simp only[SB]at hr;split at hr <;> simp at hr
    subst hr;refine⟨_,?_,.int _ _⟩;simp [binOp,Op.shift,ishl,IJ, *]
   ·by_cases h2:op = .shr
    ·subst h2
     simp only[SB]at hr;split at hr <;> simp at hr
     subst hr;refine⟨_,?_,.int _ _⟩;simp [binOp,Op.shift,ishl,IJ, *]
    ·have:SB op (.int k n) (.int k' n')=if k=k' then CD op k n n' else none:=by
      cases op <;> first|rfl|exact absurd rfl h1|exact absurd rfl h2
     rw[this]at hr;split at hr
     ·rename_i hk;subst hk;exact zdp h1 h2 hr
     ·cases hr
  | _=>simp [SB]at hr
 | str s=>
  cases ha;cases b with
  | str s'=>cases hb;exact zd8 hr
  | _=>simp [SB]at hr
 | _=>simp [SB]at hr
theorem z67 {op:BinOp}{t:TypeId}{x y:Operand}{a b:Value}(h1:∀ vs,a ≠ .agg vs)(h2:a ≠ .nilIface∨b ≠ .nilIface):(eqGuard op t x y a b).run P w = .ok () w:=by
 unfold eqGuard;cases op;case eql=>cases a <;> first|exact absurd rfl (h1 _)|(cases b <;> first|rfl|(simp at h2;done))|rfl
 case neq=>cases a <;> first|exact absurd rfl (h1 _)|(cases b <;> first|rfl|(simp at h2;done))|rfl
 all_goals rfl
theorem zde {op:BinOp}{a b r:PV}{x:Value}(ha:RPV M a x)(hr:SB op a b=some r):(∀vs,x ≠ .agg vs)/\x ≠ .nilIface:=by
 cases ha;case agg=>cases b <;> simp [SB]at hr
 all_goals exact⟨by simp,by simp⟩
theorem zd9 {op:UnOp}{a r:PV}{x:Value}(ha:RPV M a x)(hr:aun op a=some r):∃u,(Op.unary op x).run P w = .ok u w/\RPV M r u:=by
 cases ha <;> cases op <;> simp [aun]at hr
 all_goals subst hr
 ·refine⟨_,?_,.int _ _⟩;simp [Op.unary,Op.intArith]
 ·refine⟨_,?_,.int _ _⟩;simp [Op.unary,Op.intBits]
 ·refine⟨_,?_,.bool _⟩;simp [Op.unary]
theorem z4T:∀ {l:List PV} {a r:PV} {x:Value} {vs:List Value},RPV M a x->l.length=vs.length->(∀ (j:Nat) (y:PV) (v:Value),l[j]?=some y->vs[j]?=some v->RPV M y v) ->
 l.foldlM BN a=some r->∃u,(vs.foldlM Builtin.max2 x).run P w = .ok u w/\RPV M r u
 | [],a,r,x,[],ha,_,_,hr=>by simp at hr;subst hr;exact⟨x,rfl,ha⟩
 | b::l,a,r,x,v::vs,ha,hl,hh,hr=>by
  simp only[List.foldlM_cons,Option.bind_eq_bind,Option.bind_eq_some_iff]at hr;obtain⟨c,h1,h2⟩:=hr;have hb:=hh 0 b v rfl rfl
  have hmax:∃u,(Builtin.max2 x v).run P w = .ok u w/\RPV M c u:=by
   cases ha <;> cases hb <;> simp [BN]at h1
   obtain⟨rfl,rfl⟩:=h1;refine⟨_,?_,.int _ _⟩;simp only[Builtin.max2,Sem.run_pure];congr 2
   omega
  obtain⟨u,h3,h4⟩:=hmax;obtain⟨u',h5,h6⟩:=z4T h4 (by simpa using hl) (λj y v' p q=>hh (j+1) y v' (by simpa using p) (by simpa using q)) h2
  exact⟨u',by simp [h3,h5],h6⟩
 | [],_,_,_,_::_,_,hl,_,_=>by simp at hl
 | _::_,_,_,_,[],_,hl,_,_=>by simp at hl
end
section
variable {h h':aA} {μ μ':Mu} {w w':World} {P:Program} {M:Mem}
theorem uC {sh:Sh}{x:PV}(hx:x.shp sh=true):x.cells.length=gA sh:=by
 cases sh with
 | none=>cases x <;> first|rfl|(simp [PV.shp,PV.sc]at hx)
 | some n=>cases x <;> simp [PV.shp]at hx <;> simp [PV.cells,gA,hx.1]
theorem JW {sh:Sh}{x:PV}(hx:x.shp sh=true):∀y∈x.cells,y.sc=true:=by
 cases sh with
 | none=>cases x <;> simp [PV.shp,PV.sc]at hx <;> simp [PV.cells,PV.sc]
 | some n=>cases x <;> simp [PV.shp]at hx <;> (simp [PV.cells];intro y hy;exact hx.2 y hy)
theorem uI:∀ {xs:List PV} {e:Nat},(∀ x∈xs,x.cells.length=e)->∀ i j,j<e->(xs.flatMap PV.cells)[i*e+j]?=(xs[i]?).bind λx=>x.cells[j]?
 | [],e,he,i,j,hj=>by simp
 | x::r,e,he,i,j,hj=>by
  have hx:=he x (by simp)
  rw[List.flatMap_cons];cases i with
  | zero=>rw[List.getElem?_append_left (by omega)];simp
  | succ i=>
   rw[List.getElem?_append_right (by rw[hx,Nat.succ_mul];omega),hx]
   rw[show(i+1)*e+j-e=i*e+j by rw[Nat.succ_mul];omega]
   rw[uI (λx hx=>he x (by simp [hx])) i j hj]
   simp
theorem mH {xs:List PV}{e q:Nat}{y:PV}(he:∀ x∈xs,x.cells.length=e)(hq:(xs.flatMap PV.cells)[q]?=some y) :
 ∃x,xs[q / e]?=some x/\x.cells[q%e]?=some y/\q%e<e/\q / e*e+q%e=q:=by
 have hpos:0<e:=by
  rcases Nat.eq_zero_or_pos e with h0|h0
  ·have:xs.flatMap PV.cells=[]:=by
    rw[List.flatMap_eq_nil_iff];intro x hx;have:=he x hx;exact List.length_eq_zero_iff.1 (by omega)
   rw[this]at hq;simp at hq
  ·exact h0
 have hm:=Nat.mod_lt q hpos
 have hd:q / e*e+q%e=q:=by rw[Nat.mul_comm];exact Nat.div_add_mod q e
 have:=uI he (q / e) (q%e) hm;rw[hd,hq]at this;cases hx:xs[q / e]? with
 | none=>simp [hx]at this
 | some x=>simp [hx]at this;exact⟨x,rfl,this.symm,hm,hd⟩
theorem z15 (H:HeapRel h μ w){b o:Nat}(hO:PG h μ b o):b<w.heap.size:=by
 obtain⟨id,n,h1,_⟩:=hO;exact H.inside id b n h1
theorem gB.push (c:Array Value)(E:TypeId):gB { w with heap:=w.heap.push (.cells c E (0,0)) } w.heap.size c.size c:=
 ⟨rfl,E,0,0,by simp,λ_ h=>by omega⟩
theorem z9k (H:HeapRel h μ w)(hw:WExt w w'){b:Nat}(hb1:w.heap.size<=b)(hb2:b<w'.heap.size){cs:List AV}{c:Array Value}(hB:gB w' b cs.length c)
 (hc:∀(j:Nat) (x:AV),cs[j]?=some x->x.sc=true/\∃v,c[j]?=some v/\RAV (imm h μ w) h μ x v) :
 HeapRel (h++[.box cs]) (μ++[some (b,cs.length)]) w'/\Evo (imm h μ w) h μ (imm (h++[.box cs]) (μ++[some (b,cs.length)]) w') (h++[.box cs]) (μ++[some (b,cs.length)]):=by
 refine H.push hw _ _ (λb' n e=>by injection e with e;injection e with e1 e2;subst e1;exact⟨hb1,hb2⟩) (λM' E=>?_)
 refine⟨b,c,rfl,hB,λj x hx=>?_⟩
 obtain⟨h1,v,h2,h3⟩:=hc j x hx;exact⟨h1,v,h2,h3.evo E⟩
theorem z5q (H:HeapRel h μ w){cs:List AV}{c:Array Value}(hc:∀ (j:Nat) (x:AV),cs[j]?=some x->x.sc=true/\∃ v,c[j]?=some v/\RAV M h μ x v):AV.tops cs<=h.length:=
 sK λj y hy=>by obtain⟨_,v,_,h3⟩:=hc j y hy;exact h3.top_le
theorem LJ (H:HeapRel h μ w)(hw:WExt w w'){b n:Nat}(hb1:w.heap.size<=b)(hb2:b<w'.heap.size){sh:Sh}{xs:List PV}{c:Array Value}(hB:gB w' b n c)
 (hn:xs.length*gA sh<=n) (hs:∀x∈xs,x.shp sh=true) (hc:∀(i j:Nat) (x y:PV),xs[i]?=some x->x.cells[j]?=some y->∃v,c[i*gA sh+j]?=some v/\RPV (imm h μ w) y v) :
 HeapRel (h++[.row sh xs 0]) (μ++[some (b,n)]) w'/\Evo (imm h μ w) h μ (imm (h++[.row sh xs 0]) (μ++[some (b,n)]) w') (h++[.row sh xs 0]) (μ++[some (b,n)]):=by
 refine H.push hw _ _ (λb' n e=>by injection e with e;injection e with e1 e2;subst e1;exact⟨hb1,hb2⟩) (λM' E=>?_)
 refine⟨Nat.zero_le _,hs,c,hB.sealed _,hn,λi j x y hx hy=>?_⟩
 obtain⟨v,h1,h2⟩:=hc i j x y hx hy;exact⟨v,h1,h2.mono E.le⟩
theorem UP (H:HeapRel h μ w)(sh:Sh) :
 HeapRel (h++[.row sh [] 0]) (μ++[none]) w/\Evo (imm h μ w) h μ (imm (h++[.row sh [] 0]) (μ++[none]) w) (h++[.row sh [] 0]) (μ++[none]):=
 H.push (WExt.refl w) _ _ (λb' n e=>by cases e) (λM' E=>⟨Nat.zero_le _,by simp,rfl⟩)
theorem zmj (H:HeapRel h μ w)(hw:WExt w w'){b:Nat}(hb1:w.heap.size<=b){n cap:Nat}{sh:Sh}{xs:List PV}{c:Array Value}(hB:gB w' b n c)
 (hcap:xs.length<=cap) (hs:∀x∈xs,x.shp sh=true) (hc:∀(i j:Nat) (x y:PV),xs[i]?=some x->x.cells[j]?=some y->∃v,c[i*gA sh+j]?=some v/\RPV (imm h μ w) y v) :
 RPV (imm h μ w') (.sl sh xs) (.slice (some ⟨b,0,none⟩) xs.length cap):=by
 have E:=(H.ext hw).2
 by_cases hne:xs=[]
 ·subst hne;exact .nils _ _ _
 ·have he:∀x∈xs,x.cells.length=gA sh:=λx hx=>uC (hs x hx)
  have hcell:∀(j:Nat) (y:PV),(xs.flatMap PV.cells)[j]?=some y->∃v,c[j]?=some v/\RPV (imm h μ w) y v:=by
   intro j y hy;obtain⟨x,h1,h2,_,h3⟩:=mH he hy;have:=hc _ _ x y h1 h2;rwa [h3]at this
  refine .sl sh xs b 0 cap (λj=>(c[j]?).getD undef) hne hcap hs (λj y hy=>?_) (λj y hy=>?_)
  ·obtain⟨v,h1,h2⟩:=hcell j y hy
   refine nE.2 ⟨λhO=>?_,?_⟩
   ·have:=z15 H hO;omega
   ·rw[SD hB,Nat.zero_add,h1];simp [h1]
  ·obtain⟨v,h1,h2⟩:=hcell j y hy
   have:(c[j]?).getD undef=v:=by simp [h1]
   rw[this];exact h2.mono E.le
theorem z8e (H:HeapRel h μ w){id k:Nat}{sh:Sh}{xs:List PV}{fz:Nat}(ho:h[id]?=some (.row sh xs fz))(hk:k<=xs.length) :
 HeapRel (frz h id k) μ w/\Evo (imm h μ w) h μ (imm (frz h id k) μ w) (frz h id k) μ/\rA h (frz h id k) []/\(frz h id k)[id]?=some (.row sh xs (max fz k)):=by
 have hf:frz h id k=h.set id (.row sh xs (max fz k)):=by simp [frz,ho]
 have hm:∃m,μ[id]?=some m:=⟨_,List.getElem?_eq_getElem (by rw[H.len];exact IA ho)⟩
 obtain⟨m,hm⟩:=hm;have hμ:μ.set id m=μ:=by
  apply List.ext_getElem?
  intro i;by_cases e:id=i
  ·subst e;rw[YB hm,hm]
  ·rw[List.getElem?_set_ne e]
 have hO:=H.obj id _ m ho hm
 have key:=H.set (w':=w) (o':=.row sh xs (max fz k)) (m':=m) ho hm ⟨xs,max fz k,rfl,Nat.le_refl _,λ_=>rfl⟩ rfl (Nat.le_refl _) (λ_ _ _=>rfl) (λb n e=>.inl ⟨n,e⟩)
  (λb n sh' xs' fz' e1 e2=>by
   injection e2 with e2 e3 e4
   subst e2;subst e3;subst e4
   exact⟨xs,_,rfl,λj hj=>⟨rfl,λn' _=>Nat.lt_of_lt_of_le hj (Nat.mul_le_mul_right _ (by omega))⟩⟩)
  (λM' E=>by
   rw[hμ]at E ⊢;obtain⟨h1,h2,h3⟩:=hO.keep (w':=w) E (λ_ _ _=>rfl)
   refine⟨by omega,h2,?_⟩
   cases m with
   | none=>exact h3
   | some m=>
    obtain⟨c,q1,q2,q3⟩:=h3;exact⟨c,q1.imp (λq=>by omega),q2,q3⟩)
  (λ_ _ _ _ h=>h)
 rw[hμ]at key;rw[hf];refine⟨key.1,key.2,rA.set ho (by simp [Obj.top]),YB ho⟩
def zcc (M:Mem)(w:World)(sh:Sh)(xs:List PV)(x:Value):Prop:=∃a cap,x = .slice a xs.length cap/\xs.length<=cap/\(xs≠[]->∃(b o:Nat) (f:Nat->Value),a=some ⟨b,o,none⟩/\(∀x∈xs,x.shp sh=true) /\
 ∀(j:Nat) (y:PV),(xs.flatMap PV.cells)[j]?=some y->w.cell? ⟨b,o+j,none⟩=some (f j)/\RPV M y (f j))
theorem SW {α:Type}{xs:List α}{off len i:Nat}{x:α}(hx:(win xs off len)[i]?=some x):i<len/\xs[off+i]?=some x:=by
 unfold win at hx;rw[List.getElem?_take]at hx;split at hx
 ·rename_i hi
  rw[List.getElem?_drop]at hx;exact⟨hi,hx⟩
 ·cases hx
theorem TW {α:Type}{xs:List α}{off len:Nat}(hl:off+len<=xs.length):(win xs off len).length=len:=by
 simp [win];omega
theorem WI {α:Type}{xs:List α}{off len:Nat}{x:α}(hx:x∈win xs off len):x∈xs:=
 List.mem_of_mem_drop (List.mem_of_mem_take hx)
theorem tH (H:HeapRel h μ w){id g off len:Nat}{x:Value}(R:RAV (imm h μ w) h μ (.own id g off len) x){sh:Sh}{xs:List PV}{fz:Nat}(ho:h[id]?=some (.row sh xs fz))(hg:g=xs.length) :
 off+len<=xs.length/\(∀y∈xs,y.shp sh=true)/\∃a cap,x = .slice a len cap/\len<=cap/\(0<cap->∃b n c,μ[id]?=some (some (b,n))/\a=some ⟨b,off*gA sh,none⟩/\gB w b n c (xs.length<fz)/\(off+cap)*gA sh<=n/\xs.length*gA sh<=n /\
  ∀(i j:Nat) (x y:PV),xs[i]?=some x->x.cells[j]?=some y->∃v,c[i*gA sh+j]?=some v/\RPV (imm h μ w) y v):=by
 cases R with|own _ _ _ _ a cap sh' xs' fz' m hl ho' hm hgg hgl hv=>
 rw[ho]at ho';injection ho' with ho'
 injection ho' with e1 e2 e3
 subst e1;subst e2;subst e3
 obtain⟨h1,h2,h3⟩:=H.obj id _ m ho hm;refine⟨by omega,h2,a,cap,rfl,hl,λhc=>?_⟩
 have hv':=hv hg
 cases m with
 | none=>simp [vF]at hv';omega
 | some m=>
  obtain⟨b,n⟩:=m;rcases hv' with hv'|⟨e,hv'⟩
  ·omega
  ·obtain⟨c,h4,h5,h6⟩:=h3
   exact⟨b,n,c,hm,e,h4,hv',h5,h6⟩
theorem z3v {h:aA}{id g off len:Nat}{sh:Sh}{xs:List PV}(hr:rd h (.own id g off len)=some (sh,xs)) :
 ∃ys fz,h[id]?=some (.row sh ys fz)/\g=ys.length/\off+len<=ys.length/\xs=win ys off len:=by
 simp only[rd]at hr;split at hr
 ·rename_i sh' ys fz ho
  split at hr
  ·rename_i hc
   injection hr with hr
   injection hr with hr1 hr2
   subst hr1;exact⟨ys,fz,ho,hc.1,hc.2,hr2.symm⟩
  ·cases hr
 ·cases hr
theorem z9H (H:HeapRel h μ w){v:AV}{x:Value}{sh:Sh}{xs:List PV}(R:RAV (imm h μ w) h μ v x)(hr:rd h v=some (sh,xs)):zcc (imm h μ w) w sh xs x:=by
 unfold rd at hr;split at hr
 ·simp at hr
  obtain⟨rfl,rfl⟩:=hr;have hv:=R.p_inv
  cases hv with
  | nils _ a cap=>exact⟨a,cap,rfl,Nat.zero_le _,λh=>absurd rfl h⟩
  | sl _ _ b o cap f hne hc he hm hr=>
   exact⟨_,cap,rfl,hc,λ_=>⟨b,o,f,rfl,he,λj y hy=>⟨(nE.1 (hm j y hy)).2,hr j y hy⟩⟩⟩
 ·simp at hr;obtain⟨rfl,rfl⟩:=hr;cases R with|sl0 _ a=>exact⟨a,0,rfl,Nat.le_refl _,λh=>absurd rfl h⟩
 ·rename_i id g off len
  obtain⟨ys,fz,ho,hc1,hc2,hr⟩:=z3v (h:=h) (id:=id) (g:=g) (off:=off) (len:=len) (by simpa [rd] using hr)
  obtain⟨h1,h2,a,cap,rfl,h3,h4⟩:=tH H R ho hc1;have hlen:xs.length=len:=by rw[hr];exact TW hc2
  refine⟨a,cap,by rw[hlen],by omega,λhne=>?_⟩
  have hpos:0<xs.length:=List.length_pos_iff.2 hne
  obtain⟨b,n,c,hm,ha,hB,hn,hn2,hcells⟩:=h4 (by omega)
  have he:∀x∈xs,x.cells.length=gA sh:=λx hx=>uC (h2 x (WI (hr ▸ hx)))
  have hcell:∀(j:Nat) (y:PV),(xs.flatMap PV.cells)[j]?=some y->∃v,c[off*gA sh+j]?=some v/\RPV (imm h μ w) y v:=by
   intro j y hy;obtain⟨x,h5,h6,_,h7⟩:=mH he hy;rw[hr]at h5;have:=hcells _ _ x y (SW h5).2 h6;rwa [show(off+j / gA sh)*gA sh+j%gA sh=off*gA sh+j by rw[Nat.add_mul];omega]at this
  refine⟨b,off*gA sh,λj=>(c[off*gA sh+j]?).getD undef,ha,λx hx=>h2 x (WI (hr ▸ hx)),λj y hy=>?_⟩
  obtain⟨v,h5,h6⟩:=hcell j y hy;have:(c[off*gA sh+j]?).getD undef=v:=by simp [h5]
  simp only[this];exact⟨by rw[SD hB];exact h5,h6⟩
 ·cases hr
theorem bQ (H:HeapRel h μ w){id g off len:Nat}{x:Value}{sh:Sh}{xs:List PV}(R:RAV (imm h μ w) h μ (.own id g off len) x)(hr:rd h (.own id g off len)=some (sh,xs)) :
 HeapRel (frz h id (off+len)) μ w/\Evo (imm h μ w) h μ (imm (frz h id (off+len)) μ w) (frz h id (off+len)) μ/\rA h (frz h id (off+len)) []/\RPV (imm (frz h id (off+len)) μ w) (.sl sh xs) x:=by
 obtain⟨ys,fz,ho,hc1,hc2,hr⟩:=z3v hr;obtain⟨h1,h2,h3,h4⟩:=z8e H ho hc2;refine⟨h1,h2,h3,?_⟩;obtain⟨_,g2,a,cap,rfl,g3,g4⟩:=tH H R ho hc1;have hlen:xs.length=len:=by rw[hr];exact TW hc2
 by_cases hne:xs=[]
 ·have hl0:len=0:=by rw[<-hlen,hne];rfl
  rw[hne,hl0];exact .nils _ _ _
 ·have hpos:0<xs.length:=List.length_pos_iff.2 hne
  obtain⟨b,n,c,hm,ha,hB,hn,hn2,hcells⟩:=g4 (by omega)
  have he:∀x∈xs,x.cells.length=gA sh:=λx hx=>uC (g2 x (WI (hr ▸ hx)))
  have hcell:∀(j:Nat) (y:PV),(xs.flatMap PV.cells)[j]?=some y->∃v,c[off*gA sh+j]?=some v/\RPV (imm h μ w) y v/\off*gA sh+j<(off+len)*gA sh:=by
   intro j y hy;obtain⟨x,h5,h6,h8,h7⟩:=mH he hy;rw[hr]at h5;have h9:=SW h5
   have h10:=hcells _ _ x y h9.2 h6
   rw[show(off+j / gA sh)*gA sh+j%gA sh=off*gA sh+j by rw[Nat.add_mul];omega]at h10
   obtain⟨v,h11,h12⟩:=h10;refine⟨v,h11,h12,?_⟩;have:(j / gA sh+1)*gA sh<=len*gA sh:=Nat.mul_le_mul_right _ h9.1
   rw[Nat.add_mul,Nat.one_mul]at this;rw[Nat.add_mul];omega
  subst ha;have key:RPV (imm (frz h id (off+len)) μ w) (.sl sh xs) (.slice (some ⟨b,off*gA sh,none⟩) xs.length cap):=by
   refine .sl sh xs b (off*gA sh) cap (λj=>(c[off*gA sh+j]?).getD undef) hne (by omega) (λx hx=>g2 x (WI (hr ▸ hx))) (λj y hy=>?_) (λj y hy=>?_)
   ·obtain⟨v,h5,h6,h7⟩:=hcell j y hy
    refine nE.2 ⟨?_,by rw[SD hB,h5];simp [h5]⟩
    rintro⟨i,n',h8,h9⟩
    have:=H.distinct i id b n' n h8 hm;subst this;have h10:=h9 sh ys _ h4
    have:(off+len)*gA sh<=max fz (off+len)*gA sh:=Nat.mul_le_mul_right _ (by omega)
    omega
   ·obtain⟨v,h5,h6,h7⟩:=hcell j y hy
    have:(c[off*gA sh+j]?).getD undef=v:=by simp [h5]
    simp only[this];exact h6.mono h2.le
  rwa [hlen]at key
def NF (h:aA)(μ:Mu)(w:World)(h1:aA):Prop:=HeapRel h1 μ w/\Evo (imm h μ w) h μ (imm h1 μ w) h1 μ/\rA h h1 []
theorem zke {h:aA}{id i k:Nat}{sh:Sh}{cs:List AV}(hi:h[i]?=some (.arow sh cs)):(frz h id k)[i]?=some (.arow sh cs):=by
 unfold frz;split
 ·rename_i sh' xs fz ho
  by_cases e:id=i
  ·subst e;rw[ho]at hi;cases hi
  ·rw[List.getElem?_set_ne e];exact hi
 ·exact hi
theorem zoa:∀ {v:AV} {h:aA} {pv:PV} {h1:aA} {i:Nat} {sh:Sh} {cs:List AV},qE h v=some (pv,h1)->h[i]?=some (.arow sh cs)->h1[i]?=some (.arow sh cs):=by
 intro v h pv h1 i sh cs e hi;unfold qE at e;split at e
 ·simp at e;obtain⟨_,rfl⟩:=e;exact hi
 ·simp at e;obtain⟨_,rfl⟩:=e;exact hi
 ·simp at e;obtain⟨_,rfl⟩:=e;exact hi
 ·simp only[Option.map_eq_some_iff,Prod.mk.injEq]at e
  obtain⟨_,_,_,rfl⟩:=e;exact zke hi
 ·cases e
theorem z98:∀ {cs:List AV} {h:aA} {vs:List PV} {h1:aA} {i:Nat} {sh:Sh} {ds:List AV},aE h cs=some (vs,h1)->h[i]?=some (.arow sh ds)->h1[i]?=some (.arow sh ds)
 | [],h,vs,h1,i,sh,ds,e,hi=>by simp [aE]at e;obtain⟨_,rfl⟩:=e;exact hi
 | a::r,h,vs,h1,i,sh,ds,e,hi=>by
  simp only[aE]at e;split at e
  ·rename_i pv h2 hp
   split at e
   ·rename_i ps h3 hq
    simp at e;obtain⟨_,rfl⟩:=e;exact z98 hq (zoa hp hi)
   ·cases e
  ·cases e
theorem zob {v:AV}{h:aA}{x:Value}{pv:PV}{h1:aA}(H:HeapRel h μ w)(R:RAV (imm h μ w) h μ v x)(hs:v.sc=true)(e:qE h v=some (pv,h1)):NF h μ w h1/\RPV (imm h1 μ w) pv x/\pv.sc=true:=by
 unfold qE at e;split at e
 ·simp at e
  obtain⟨rfl,rfl⟩:=e;exact⟨⟨H,Evo.refl _ _ _,rA.refl _ _⟩,R.p_inv,hs⟩
 ·simp at e
  obtain⟨rfl,rfl⟩:=e;cases R with|sl0 _ a=>exact⟨⟨H,Evo.refl _ _ _,rA.refl _ _⟩,.nils _ _ _,rfl⟩
 ·simp at e
  obtain⟨rfl,rfl⟩:=e;cases R;exact⟨⟨H,Evo.refl _ _ _,rA.refl _ _⟩,.nilp,rfl⟩
 ·simp only[Option.map_eq_some_iff,Prod.mk.injEq]at e
  obtain⟨⟨sh,xs⟩,h2,rfl,rfl⟩:=e;obtain⟨a,b,c,d⟩:=bQ H R h2;exact⟨⟨a,b,c⟩,d,rfl⟩
 ·cases e
theorem z99:∀ (cs:List AV) {h:aA} {xs:List Value} {vs:List PV} {h1:aA},HeapRel h μ w->cs.length<=xs.length->(∀ x∈cs,x.sc=true) ->
 (∀(j:Nat) (y:AV) (v:Value),cs[j]?=some y->xs[j]?=some v->RAV (imm h μ w) h μ y v)->aE h cs=some (vs,h1) ->
 NF h μ w h1/\vs.length=cs.length/\(∀x∈vs,x.sc=true)/\∀(j:Nat) (y:PV) (v:Value),vs[j]?=some y->xs[j]?=some v->RPV (imm h1 μ w) y v
 | [],h,xs,vs,h1,H,hl,_,hr,e=>by
  simp [aE]at e;obtain⟨rfl,rfl⟩:=e;exact⟨⟨H,Evo.refl _ _ _,rA.refl _ _⟩,rfl,by simp,λj y v hy=>by simp at hy⟩
 | a::r,h,xs,vs,h1,H,hl,hs,hr,e=>by
  cases xs with
  | nil=>simp at hl
  | cons x xs=>
   simp only[aE]at e;split at e
   ·rename_i pv h2 hp
    split at e
    ·rename_i ps h3 hq
     simp at e;obtain⟨rfl,rfl⟩:=e;obtain⟨⟨a1,a2,a3⟩,a4,a5⟩:=zob H (hr 0 a x rfl rfl) (hs a (by simp)) hp
     obtain⟨⟨b1,b2,b3⟩,b4,b6,b5⟩:=z99 r a1 (xs:=xs) (by simpa using hl) (λx hx=>hs x (by simp [hx])) (λj y v hy hv=>(hr (j+1) y v (by simpa using hy) (by simpa using hv)).evo a2) hq
     refine⟨⟨b1,a2.trans b2,by simpa using rA.trans a3 b3⟩,by simp [b4],λx hx=>?_,λj y v hy hv=>?_⟩
     ·rcases List.mem_cons.1 hx with rfl|hx
      ·exact a5
      ·exact b6 x hx
     ·cases j with
      | zero=>simp at hy hv;subst hy;subst hv;exact a4.mono b2.le
      | succ j=>exact b5 j y v (by simpa using hy) (by simpa using hv)
    ·cases e
   ·cases e
theorem z5A {n:Nat}:∀(g:Nat) (vs:List PV),vs.length=g*n->(∀x∈vs,x.sc=true)->(uG n g vs).length=g/\(∀x∈uG n g vs,x.shp (some n)=true) /\
 ∀(i j:Nat) (x y:PV),(uG n g vs)[i]?=some x->x.cells[j]?=some y->vs[i*n+j]?=some y
 | 0,vs,_,_=>⟨rfl,by simp [uG],λi j x y h=>by simp [uG]at h⟩
 | g+1,vs,hl,hs=>by
  have hl2:vs.length=g*n+n:=by rw[hl,Nat.succ_mul]
  obtain⟨h1,h2,h3⟩:=z5A (n:=n) g (vs.drop n) (by rw[List.length_drop];omega) (λx hx=>hs x (List.mem_of_mem_drop hx))
  refine⟨by simp [uG,h1],λx hx=>?_,λi j x y hx hy=>?_⟩
  ·simp only[uG]at hx
   rcases List.mem_cons.1 hx with rfl|hx
   ·simp only[PV.shp,Bool.and_eq_true,beq_iff_eq,List.all_eq_true]
    exact⟨by rw[List.length_take];omega,λz hz=>hs z (List.mem_of_mem_take hz)⟩
   ·exact h2 x hx
  ·simp only[uG]at hx
   cases i with
   | zero=>
    simp at hx;subst hx;simp only[PV.cells]at hy;rw[List.getElem?_take]at hy;split at hy
    ·simpa using hy
    ·cases hy
   | succ i=>
    have:=h3 i j x y (by simpa using hx) hy
    rw[List.getElem?_drop]at this;rw[Nat.succ_mul,show i*n+n+j=n+(i*n+j) by omega]
    exact this
theorem z5B {sh:Sh}{g:Nat}{vs:List PV}(hl:vs.length=g*gA sh)(hs:∀ x∈vs,x.sc=true):(QC sh g vs).length=g/\(∀x∈QC sh g vs,x.shp sh=true) /\
 ∀(i j:Nat) (x y:PV),(QC sh g vs)[i]?=some x->x.cells[j]?=some y->vs[i*gA sh+j]?=some y:=by
 cases sh with
 | some n=>exact z5A g vs hl hs
 | none=>
  refine⟨by simpa [gA,QC] using hl,λx hx=>hs x hx,λi j x y hx hy=>?_⟩
  have hx:vs[i]?=some x:=hx
  have hsc:=hs x (List.mem_of_getElem? hx)
  have hc:x.cells=[x]:=by cases x <;> first|rfl|(simp [PV.sc]at hsc)
  rw[hc]at hy;cases j with
  | zero=>simp at hy;subst hy;simpa [gA] using hx
  | succ j=>simp at hy
theorem zoe {t id g:Nat}{h:aA}{x:Value}{pv:PV}{h1:aA}(H:HeapRel h μ w)(R:RAV (imm h μ w) h μ (.bt 3 t id g) x)(e:II h id g=some (pv,h1)):NF h μ w h1/\RPV (imm h1 μ w) pv x:=by
 unfold II at e;split at e;case h_2=>cases e
 rename_i sh cs ho;split at e;case isFalse=>cases e
 rename_i hg;split at e;case h_2=>cases e
 rename_i vs h2 hp;simp only[Option.some.injEq,Prod.mk.injEq]at e;obtain⟨rfl,rfl⟩:=e;cases R with|bt3 _ _ _ a cap o m hl ho' hm hv=>
 rw[ho]at ho';injection ho' with ho'
 obtain⟨hv1,hv2⟩:=hv sh cs ho'.symm;have hv3:=hv2 hg
 obtain⟨k1,k2⟩:=H.obj id _ m ho hm;have hcells:∃xs:List Value,cs.length<=xs.length/\(∀(j:Nat) (y:AV) (v:Value),cs[j]?=some y->xs[j]?=some v->RAV (imm h μ w) h μ y v)/\(∀b n,m=some (b,n)->∃c,gB w b n c/\cs.length<=n/\c.toList=xs):=by
  cases m with
  | none=>subst k2;exact⟨[],by simp,λj y v hy=>by simp at hy,λb n e=>by cases e⟩
  | some m=>
   obtain⟨b,n⟩:=m;obtain⟨c,c1,c2,c3⟩:=k2;refine⟨c.toList,by have:=c1.1;simp;omega,λj y v hy hv=>?_,λb' n' e=>by injection e with e;injection e with e1 e2;subst e1;subst e2;exact⟨c,c1,c2,rfl⟩⟩
   obtain⟨v',q1,q2⟩:=c3 j y hy;have:v'=v:=by
    have hv':c[j]?=some v:=by simpa using hv
    rw[q1]at hv';injection hv'
   exact this ▸ q2
 obtain⟨xs,x1,x2,x3⟩:=hcells;obtain⟨⟨a1,a2,a3⟩,a4,a5,a6⟩:=z99 cs H x1 k1 x2 hp;obtain⟨s1,s2,s3⟩:=z5B (sh:=sh) (g:=g) (vs:=vs) (by rw[a4,hg]) a5
 have ho2:=z98 hp ho
 have key:=a1.set (w':=w) (o':=.row sh (QC sh g vs) 0) (m':=m) ho2 hm (.inr ⟨_,_,_,rfl⟩) rfl (Nat.le_refl _) (λ_ _ _=>rfl) (λb n e=>.inl ⟨n,e⟩)
  (λb n sh2 xs2 fz2 _ e2=>by cases e2)
  (λM' Ev=>by
   refine⟨Nat.zero_le _,s2,?_⟩;cases m with
   | none=>
    have:g=0:=by simp [vF]at hv3;omega
    subst this;exact List.length_eq_zero_iff.1 s1
   | some m=>
    obtain⟨b,n⟩:=m;obtain⟨c,c1,c2,c3⟩:=x3 b n rfl;refine⟨c,c1.sealed _,by rw[s1,hg];exact c2,λi j y z hy hz=>?_⟩
    have q1:=s3 i j y z hy hz
    have hj:i*gA sh+j<xs.length:=by have:=IA q1;omega
    have q2:=a6 _ z xs[i*gA sh+j] q1 (List.getElem?_eq_getElem hj)
    refine⟨xs[i*gA sh+j],?_,q2.mono Ev.le⟩;have:c.toList[i*gA sh+j]?=some xs[i*gA sh+j]:=by rw[c3];exact List.getElem?_eq_getElem hj
    simpa using this)
  (λ_ _ _ _ h=>h)
 have em:μ.set id m=μ:=by
  apply List.ext_getElem?
  intro i;by_cases e:id=i
  ·subst e;rw[YB hm,hm]
  ·rw[List.getElem?_set_ne e]
 rw[em]at key;obtain⟨key1,key2⟩:=key;have R2:RAV (imm (h2.set id (.row sh (QC sh g vs) 0)) μ w) (h2.set id (.row sh (QC sh g vs) 0)) μ (.own id g 0 g) (.slice a g cap):=
  .own id g 0 g a cap sh (QC sh g vs) 0 m hl (YB ho2) hm (by omega) (by omega) (λ_=>hv3)
 have hrd:rd (h2.set id (.row sh (QC sh g vs) 0)) (.own id g 0 g)=some (sh,QC sh g vs):=by
  simp only[rd,YB ho2,s1,Nat.zero_add,Nat.le_refl,and_self,if_true];congr 2
  unfold win;rw[List.drop_zero,List.take_of_length_le (by omega)]
 obtain⟨f1,f2,f3,f4⟩:=bQ key1 R2 hrd;refine⟨⟨f1,(a2.trans key2).trans f2,?_⟩,f4⟩;have E2:rA h2 (h2.set id (.row sh (QC sh g vs) 0)) []:=rA.set ho2 (by simp [Obj.top])
 simpa using (a3.trans E2).trans f3
mutual
theorem MV:∀ (v:AV) {h:aA} {x:Value} {pv:PV} {h1:aA},HeapRel h μ w->RAV (imm h μ w) h μ v x->pur h v=some (pv,h1)->NF h μ w h1/\RPV (imm h1 μ w) pv x
 | .p v,h,x,pv,h1,H,R,e=>by
  simp [pur]at e;obtain⟨rfl,rfl⟩:=e;exact⟨⟨H,Evo.refl _ _ _,rA.refl _ _⟩,R.p_inv⟩
 | .sl0 sh,h,x,pv,h1,H,R,e=>by
  simp [pur]at e;obtain⟨rfl,rfl⟩:=e;cases R with|sl0 _ a=>exact⟨⟨H,Evo.refl _ _ _,rA.refl _ _⟩,.nils _ _ _⟩
 | .nilp,h,x,pv,h1,H,R,e=>by
  simp [pur]at e;obtain⟨rfl,rfl⟩:=e;cases R;exact⟨⟨H,Evo.refl _ _ _,rA.refl _ _⟩,.nilp⟩
 | .own id g off len,h,x,pv,h1,H,R,e=>by
  simp only[pur,Option.map_eq_some_iff,Prod.mk.injEq]at e;obtain⟨⟨sh,xs⟩,h2,rfl,rfl⟩:=e;obtain⟨a,b,c,d⟩:=bQ H R h2;exact⟨⟨a,b,c⟩,d⟩
 | .agg cs,h,x,pv,h1,H,R,e=>by
  simp only[pur]at e;split at e
  ·rename_i vs h2 hp
   simp at e;obtain⟨rfl,rfl⟩:=e;cases R with|agg _ xs hl hr=>
   obtain⟨a,b⟩:=z9D cs H hl hr hp;exact⟨a,.agg vs xs b.1 b.2⟩
  ·cases e
 | .ref _ _,_,_,_,_,_,_,e=>by simp [pur]at e
 | .rref _ _ _ _,_,_,_,_,_,_,e=>by simp [pur]at e
 | .vp _,_,_,_,_,_,_,e=>by simp [pur]at e
 | .nilm,_,_,_,_,_,_,e=>by simp [pur]at e
 | .nilf,_,_,_,_,_,_,e=>by simp [pur]at e
 | .nili,_,_,_,_,_,_,e=>by simp [pur]at e
 | .ifc,_,_,_,_,_,_,e=>by simp [pur]at e
 | .mp _,_,_,_,_,_,_,e=>by simp [pur]at e
 | .it _,_,_,_,_,_,_,e=>by simp [pur]at e
 | .fn _ _,_,_,_,_,_,_,e=>by simp [pur]at e
 | .tup _,_,_,_,_,_,_,e=>by simp [pur]at e
 | .anyb,_,_,_,_,_,_,e=>by simp [pur]at e
 | .skp,_,_,_,_,_,_,e=>by simp [pur]at e
 | .und,_,_,_,_,_,_,e=>by simp [pur]at e
 | .anyp,_,_,_,_,_,_,e=>by simp [pur]at e
 | .bt k t id g,h,x,pv,h1,H,R,e=>by
  simp only[pur]at e;cases hk:Nat.beq k 3 with
  | false=>rw[hk]at e;cases e
  | true=>
   rw[hk]at e;have:=Nat.eq_of_beq_eq_true hk;subst this;exact zoe H R e
theorem z9D:∀ (cs:List AV) {h:aA} {xs:List Value} {vs:List PV} {h1:aA},HeapRel h μ w->cs.length=xs.length ->
 (∀(j:Nat) (y:AV) (v:Value),cs[j]?=some y->xs[j]?=some v->RAV (imm h μ w) h μ y v)->rE h cs=some (vs,h1) ->
 NF h μ w h1/\vs.length=xs.length/\∀(j:Nat) (y:PV) (v:Value),vs[j]?=some y->xs[j]?=some v->RPV (imm h1 μ w) y v
 | [],h,xs,vs,h1,H,hl,hr,e=>by
  simp [rE]at e;obtain⟨rfl,rfl⟩:=e;exact⟨⟨H,Evo.refl _ _ _,rA.refl _ _⟩,by simpa using hl,λj y v hy=>by simp at hy⟩
 | a::r,h,xs,vs,h1,H,hl,hr,e=>by
  cases xs with
  | nil=>simp at hl
  | cons x xs=>
   simp only[rE]at e;split at e
   ·rename_i pv h2 hp
    split at e
    ·rename_i ps h3 hq
     simp at e;obtain⟨rfl,rfl⟩:=e;obtain⟨⟨a1,a2,a3⟩,a4⟩:=MV a H (hr 0 a x rfl rfl) hp;obtain⟨⟨b1,b2,b3⟩,b4,b5⟩:=z9D r a1 (xs:=xs) (by simpa using hl) (λj y v hy hv=>(hr (j+1) y v (by simpa using hy) (by simpa using hv)).evo a2) hq
     refine⟨⟨b1,a2.trans b2,by simpa using rA.trans a3 b3⟩,by simp [b4],λj y v hy hv=>?_⟩
     cases j with
     | zero=>simp at hy hv;subst hy;subst hv;exact a4.mono b2.le
     | succ j=>exact b5 j y v (by simpa using hy) (by simpa using hv)
    ·cases e
   ·cases e
end
end
section
variable {h h':aA} {μ μ':Mu} {w w':World} {P:Program} {M:Mem}
def zOk:List AV->List Value->Bool
 | [],[]=>true
 | a::r,b::s=>a.sc&&qJ a b&&zOk r s
 | _,_=>false
def QG (M:Mem)(h:aA)(μ:Mu)(cs:List AV)(c:Array Value):Prop:=
 c.size=cs.length/\∀(j:Nat) (x:AV),cs[j]?=some x->∃v,c[j]?=some v/\RAV M h μ x v
theorem z4i:∀ {cs:List AV} {vs:List Value},zOk cs vs=true->cs.length=vs.length/\∀ (j:Nat) (x:AV),cs[j]?=some x->x.sc=true/\∃ v,vs[j]?=some v/\RAV M h μ x v
 | [],[],_=>⟨rfl,λj x hx=>by simp at hx⟩
 | [],_::_,e=>by simp [zOk]at e
 | _::_,[],e=>by simp [zOk]at e
 | a::r,b::s,e=>by
  simp only[zOk,Bool.and_eq_true]at e;have ih:=z4i e.2
  refine⟨by simp [ih.1],λj x hx=>?_⟩
  cases j with
  | zero=>simp at hx;subst hx;exact⟨e.1.1,b,rfl,wR e.1.2⟩
  | succ j=>exact ih.2 j x (by simpa using hx)
theorem nG (c:Array Value)(E:TypeId):(newRow E c).run P w = .ok ⟨w.heap.size,0,none⟩ { w with heap:=w.heap.push (.cells c E (0,0)) }:=by
 simp [newRow]
theorem z12 (H:HeapRel h μ w){s:Sem Next}{cs:List AV}{c:Array Value}(E:TypeId)(hl:c.size=cs.length)
 (hc:∀(j:Nat) (x:AV),cs[j]?=some x->x.sc=true/\∃v,c[j]?=some v/\RAV (imm h μ w) h μ x v)
 (hr:s.run P w = .ok (.value (.pointer (some ⟨w.heap.size,0,none⟩))) { w with heap:=w.heap.push (.cells c E (0,0)) }) :
 lA P s h μ w (.ref h.length 0) (h++[.box cs]) []:=by
 have hB:gB { w with heap:=w.heap.push (.cells c E (0,0)) } w.heap.size cs.length c:=hl ▸ gB.push c E
 obtain⟨h1,h2⟩:=z9k H (WExt.push w _) (Nat.le_refl _) (by simp) hB hc
 refine⟨_,_,_,hr,.inl ⟨_,rfl,.ref h.length 0 w.heap.size cs.length cs (by simp) (by rw[<-H.len];simp)⟩,h1,h2,rA.push ?_⟩
 exact z5q H hc
def KN (P:Program)(z:List AV)(t:TypeId):Bool:=match P.info? t with
 | some i=>match i.zero with
  | some v=>zOk z v.cells.toList
  | none=>false
 | none=>false
theorem zdq {z:List AV}{t:TypeId}(hc:KN P z t=true)(H:HeapRel h μ w) :
 lA P (do pure (.value (<-Instr.alloc t true (.tuple #[])))) h μ w (.ref h.length 0) (h++[.box z]) []:=by
 unfold KN at hc;split at hc
 ·rename_i i hi
  split at hc
  ·rename_i v hv
   have hz:=z4i (M:=imm h μ w) (h:=h) (μ:=μ) hc
   refine z12 H (c:=v.cells) t (by rw[hz.1];simp) (λj x hx=>by simpa using hz.2 j x hx) ?_
   refine yA ?_;unfold Instr.alloc;rw[Sem.run_bind];have:(zeroValue t).run P w = .ok v w:=by
    unfold zeroValue;rw[Sem.run_bind,xH hi];simp [hv]
   rw[this];simp [newVar,nG]
  ·cases hc
 ·cases hc
theorem zek {t:TypeId}{v:AV}{x:Value}{cs:List AV}(H:HeapRel h μ w)(R:RAV (imm h μ w) h μ v x)(hc:v.cells=some cs) :
 lA P (do pure (.value (<-Instr.box t x))) h μ w (.ref h.length 0) (h++[.box cs]) []:=by
 have hs:=kJ R hc
 refine z12 H (c:=x.cells) t hs.1 hs.2 (yA ?_);simp [Instr.box,newVar,nG]
theorem zkb (vs:List Value):∀(c:Array Value) (off i:Nat),(vs.zipIdx i).foldl (λcs (y:Value×Nat)=>cs.setIfInBounds (off+y.2) y.1) c=yB c (off+i) vs:=by
 induction vs with
 | nil=>intro c off i;rfl
 | cons v r ih=>
  intro c off i;simp only[List.zipIdx_cons,List.foldl_cons,yB];rw[ih];rfl
theorem z1i (c:Array Value)(off:Nat)(v:Array Value):v.zipIdx.foldl (λcs (y:Value×Nat)=>cs.setIfInBounds (off+y.2) y.1) c=yB c off v.toList:=by
 rw[<-Array.foldl_toList,Array.toList_zipIdx];have:=zkb v.toList c off 0;simpa using this
def ZJ (place:Nat->Option (Nat × Nat)):List (Nat×Nat×Opd)->List (Nat×Operand)->Bool
 | [],[]=>true
 | a::r,b::s=>place b.1==some (a.1,a.2.1)&&JA a.2.2 b.2&&ZJ place r s
 | _,_=>false
theorem AQ {α:Type}(cs vs:List α)(off j:Nat)(hl:off+vs.length<=cs.length):(splice cs off vs)[j]?=if off<=j/\j<off+vs.length then vs[j-off]? else cs[j]?:=by
 unfold splice;by_cases h1:j<off
 ·rw[List.getElem?_append_left (by simp;omega),List.getElem?_append_left (by simp;omega),List.getElem?_take,if_pos h1,if_neg (by omega)]
 ·by_cases h2:j<off+vs.length
  ·rw[List.getElem?_append_left (by simp;omega),List.getElem?_append_right (by simp;omega),if_pos (by omega)]
   simp [Nat.min_eq_left (show off<=cs.length by omega)]
  ·rw[List.getElem?_append_right (by simp;omega),if_neg (by omega),List.getElem?_drop]
   congr 1
   simp;omega
theorem oN {α:Type}(cs vs:List α)(off:Nat)(hl:off+vs.length<=cs.length):(splice cs off vs).length=cs.length:=by
 unfold splice;simp;omega
theorem QG.splice {cs vs:List AV}{c:Array Value}{xs:List Value}{off:Nat}(hc:QG M h μ cs c)(hl:vs.length=xs.length)(hb:off+vs.length<=cs.length)
 (hv:∀(j:Nat) (x:AV),vs[j]?=some x->∃v,xs[j]?=some v/\RAV M h μ x v):QG M h μ (splice cs off vs) (yB c off xs):=by
 refine⟨by rw[oG,oN _ _ _ hb,hc.1],λj x hx=>?_⟩
 rw[AQ _ _ _ _ hb]at hx;rw[zH _ _ _ _ (by rw[hc.1];omega),<-hl]
 split at hx
 ·rename_i hj;rw[if_pos hj];exact hv _ x hx
 ·rename_i hj;rw[if_neg hj];exact hc.2 j x hx
theorem z1c {ev:Opd->AV}{ρ:Operand->Value}{place:Nat->Option (Nat × Nat)}(R:wE M h μ ev ρ):∀{ps:List (Nat×Nat×Opd)} {qs:List (Nat×Operand)} {cs cs':List AV} {c:Array Value},
 ZJ place ps qs=true->QG M h μ cs c->DF ev ps cs=some cs'->∃c',Instr.fill place c (qs.map λy=>(y.1,ρ y.2))=some c'/\QG M h μ cs' c'
 | [],[],cs,cs',c,_,hc,e=>by simp [DF]at e;subst e;exact⟨c,rfl,hc⟩
 | [],_::_,_,_,_,e,_,_=>by simp [ZJ]at e
 | _::_,[],_,_,_,e,_,_=>by simp [ZJ]at e
 | (off,n,x)::r,(i,y)::s,cs,cs',c,hk,hc,e=>by
  simp only[ZJ,Bool.and_eq_true,beq_iff_eq]at hk;obtain⟨⟨h1,h2⟩,h3⟩:=hk;simp only[DF]at e;split at e
  ·rename_i vs hvs
   split at e
   ·rename_i hb
    obtain⟨s1,s2⟩:=kJ (R x y h2) hvs;have hc':QG M h μ (splice cs off vs) (yB c off (ρ y).cells.toList):=
     hc.splice (by simp [s1]) (by omega) (λj x hx=>by obtain⟨_,v,h4,h5⟩:=s2 j x hx;exact⟨v,by simpa using h4,h5⟩)
    obtain⟨c',h4,h5⟩:=z1c R h3 hc' e;refine⟨c',?_,h5⟩;simp only[List.map_cons,Instr.fill,h1];have hneg:¬((decide ((ρ y).cells.size≠n)||decide (off+(ρ y).cells.size>c.size))=true):=by have:=hc.1;simp;omega
    rw[if_neg hneg,z1i];exact h4
   ·cases e
  ·cases e
def oQ (P:Program):List Field->Option (List (Nat×Nat))
 | []=>some []
 | f::r=>match P.info? f.type,oQ P r with
  | some i,some l=>some ((f.offset,i.size)::l)
  | _,_=>none
theorem zag {t:TypeId}{i:TypeInfo}(hi:P.info? t=some i):(sizeOf t).run P w = .ok i.size w:=by
 unfold sizeOf;rw[Sem.run_bind,xH hi];rfl
def z3o (f:Field):Sem (Nat×Nat):=do pure (f.offset,<-sizeOf f.type)
theorem zae:∀ {fs:List Field} {l:List (Nat × Nat)},oQ P fs=some l->(fs.mapM z3o).run P w = .ok l w
 | [],l,e=>by simp [oQ]at e;subst e;rfl
 | f::r,l,e=>by
  simp only[oQ]at e;split at e
  ·rename_i i l' hi hl
   simp at e;subst e;rw[List.mapM_cons,Sem.run_bind];have:(z3o f).run P w = .ok (f.offset,i.size) w:=by simp [z3o,zag hi]
   rw[this];simp [zae hl]
  ·cases e
def TY (P:Program)(z:List AV)(ps:List (Nat × Nat × Opd))(t:TypeId)(qs:List (Nat × Operand)):Bool:=
 KN P z t&&match P.underlying t with
  | some (.struct fs)=>match oQ P fs.toList with
   | some l=>ZJ (l.toArray[·]?) ps qs
   | none=>false
  | some (.array _ e)=>match P.info? e with
   | some i=>ZJ (λj=>some (j*i.size,i.size)) ps qs
   | none=>false
  | _=>false
theorem zeo {ev:Opd->AV}{ρ:Operand->Value}{z:List AV}{ps:List (Nat × Nat × Opd)}{t:TypeId}{qs:Array (Nat × Operand)}{cs:List AV}(hc:TY P z ps t qs.toList=true)(H:HeapRel h μ w)
 (R:wE (imm h μ w) h μ ev ρ) (he:DF ev ps z=some cs) :
 lA P (do pure (.value (<-Instr.build t (qs.map λ(i,x)=>(i,ρ x))))) h μ w (mkA cs) h []:=by
 unfold TY at hc;rw[Bool.and_eq_true]at hc;obtain⟨hz,hc⟩:=hc;unfold KN at hz;split at hz
 ·rename_i i hi
  split at hz
  ·rename_i v hv
   have hz:=z4i (M:=imm h μ w) (h:=h) (μ:=μ) hz
   have hzero:(zeroValue t).run P w = .ok v w:=by
    unfold zeroValue;rw[Sem.run_bind,xH hi];simp [hv]
   have hz':QG (imm h μ w) h μ z v.cells:=⟨by rw[hz.1];simp,λj x hx=>by obtain⟨_,v,h1,h2⟩:=hz.2 j x hx;exact⟨v,by simpa using h1,h2⟩⟩
   have fin:∀c',QG (imm h μ w) h μ cs c'->RAV (imm h μ w) h μ (mkA cs) (.agg c'):=by
    intro c' hc';have:=z1y (M:=imm h μ w) (h:=h) (μ:=μ) (cs:=cs) (vs:=c'.toList) (by simp [hc'.1]) (λj y v hy hv=>by
     obtain⟨v',h1,h2⟩:=hc'.2 j y hy;simp at hv;rw[h1]at hv;injection hv with hv;subst hv;exact h2)
    simpa using this
   split at hc
   ·rename_i fs hu
    split at hc
    ·rename_i l hl
     obtain⟨c',h1,h2⟩:=z1c R hc hz' he;refine lA.pure H (yA ?_) (fin c' h2);unfold Instr.build;rw[Sem.run_bind,hzero];simp only[Result.andThen_ok];rw[Sem.run_bind,TA hu];have hp:(fs.toList.mapM λ(f:Field)=>(do pure (f.offset,<-sizeOf f.type):Sem (Nat×Nat))).run P w = .ok l w:=zae hl
     simp only[Result.andThen_ok,Array.mapM_eq_mapM_toList,Sem.run_bind,Sem.run_map];rw[hp];have:(Array.map (λx=>(x.fst,ρ x.snd)) qs).toList=qs.toList.map λy=>(y.1,ρ y.2):=by simp
     simp only[Result.andThen_ok,this,h1,Sem.run_pure]
    ·cases hc
   ·rename_i len e hu
    split at hc
    ·rename_i ie hie
     obtain⟨c',h1,h2⟩:=z1c R hc hz' he;refine lA.pure H (yA ?_) (fin c' h2);unfold Instr.build;rw[Sem.run_bind,hzero];simp only[Result.andThen_ok];rw[Sem.run_bind,TA hu];simp only[Result.andThen_ok,Sem.run_bind,zag hie];have:(Array.map (λx=>(x.fst,ρ x.snd)) qs).toList=qs.toList.map λy=>(y.1,ρ y.2):=by simp
     rw[this];simp [h1]
    ·cases hc
   ·cases hc
  ·cases hz
 ·cases hz
theorem zR {sh:Sh}{off:Nat}{cs:List AV}{v:AV}{f:Nat->Value}(hc:cut sh off cs=some v)(hf:∀ (j:Nat) (x:AV),cs[j]?=some x->RAV M h μ x (f j)) :
 off+gA sh<=cs.length/\RAV M h μ v (yD sh λj=>f (off+j)):=by
 cases sh with
 | none=>
  simp only[cut]at hc;exact⟨by have:=IA hc;simp [gA];omega,hf off v hc⟩
 | some n=>
  simp only[cut]at hc;split at hc
  ·rename_i hl
   simp at hc;subst hc;refine⟨hl,z1y (by simp;omega) (λj y v hy hv=>?_)⟩
   rw[List.getElem?_take]at hy;split at hy
   ·rename_i hj
    rw[List.getElem?_drop]at hy;rw[List.getElem?_map,List.getElem?_range hj]at hv;simp at hv;subst hv;exact hf _ y hy
   ·cases hy
  ·cases hc
theorem yR {sh:Sh}{off:Nat}{v u:PV}{f:Nat->Value}(hc:rB sh off v=some u)(hf:∀ (j:Nat) (x:PV),v.cells[j]?=some x->RPV M x (f j)) :
 off+gA sh<=v.cells.length/\RPV M u (yD sh λj=>f (off+j)):=by
 unfold rB at hc;split at hc
 ·rename_i cs
  cases sh with
  | none=>
   simp only[Option.bind_eq_some_iff]at hc;obtain⟨z,hz,hc⟩:=hc;split at hc <;> simp at hc
   subst hc;exact⟨by have:=IA hz;simp [gA,PV.cells];omega,hf off z (by simpa [PV.cells] using hz)⟩
  | some n=>
   dsimp only at hc;split at hc
   ·rename_i hl
    simp at hc;subst hc;refine⟨by simpa [PV.cells,gA] using hl,.agg _ _ (by simp;omega) (λj y v hy hv=>?_)⟩
    rw[List.getElem?_take]at hy;split at hy
    ·rename_i hj
     rw[List.getElem?_drop]at hy;rw[List.getElem?_map,List.getElem?_range hj]at hv;simp at hv;subst hv;exact hf _ y (by simpa [PV.cells] using hy)
    ·cases hy
   ·cases hc
 ·rename_i hne
  split at hc
  ·simp at hc
   subst hc;have:v.cells=[v]:=by cases v <;> first|rfl|exact absurd rfl (hne _)
   refine⟨by rw[this];simp [gA],?_⟩
   exact hf 0 v (by rw[this];rfl)
  ·cases hc
theorem iG (H:HeapRel h μ w){id:Nat}{o:Obj}(ho:h[id]?=some o):∃m,μ[id]?=some m/\aJ (imm h μ w) h μ w o m:=by
 have hl:id<μ.length:=by rw[H.len];exact IA ho
 exact⟨μ[id],List.getElem?_eq_getElem hl,H.obj id o _ ho (List.getElem?_eq_getElem hl)⟩
theorem zW {t:TypeId}{sh:Sh}(hs:kB P t=some sh){b o:Nat}{f:Nat->Value}(hf:∀ j,j<gA sh->w.cell? ⟨b,o+j,none⟩=some (f j)) :
 (Instr.loadAt t (.pointer (some ⟨b,o,none⟩))).run P w = .ok (yD sh f) w:=by
 unfold Instr.loadAt Instr.sureAddr;simp only[Sem.run_bind,Sem.run_pure,Result.andThen_ok];exact zac hs hf
theorem z5b (H:HeapRel h μ w){off id g:Nat}{x:Value}(R:RAV (imm h μ w) h μ (.bt 4 off id g) x){sh:Sh}{cs:List AV}(ho:h[id]?=some (.arow sh cs))(hg:g*gA sh=cs.length) :
 ∃b n c,μ[id]?=some (some (b,n))/\x = .pointer (some ⟨b,off,none⟩)/\gB w b n c/\cs.length<=n/\(∀x∈cs,x.sc=true)/\∀(j:Nat) (x:AV),cs[j]?=some x->∃v,c[j]?=some v/\RAV (imm h μ w) h μ x v:=by
 cases R with|bt4 _ _ _ a o m ho' hm hv=>
 rw[ho]at ho';injection ho' with ho'
 obtain⟨_,q⟩:=hv sh cs ho'.symm;obtain⟨b,n,rfl,rfl⟩:=q hg;obtain⟨k1,c,k2,k3,k4⟩:=H.obj id _ _ ho hm;exact⟨b,n,c,hm,rfl,k2,k3,k1,k4⟩
theorem zlK {t:TypeId}{sh:Sh}(hs:kB P t=some sh){a:AV}{x:Value}{v:AV}{h1:aA}{e:Esc}(H:HeapRel h μ w)(R:RAV (imm h μ w) h μ a x)(ev:Opd->AV)(p:Opd)(hp:ev p=a)
 (he:aop (.load sh p) ev h=some (v,h1,e)):lA P (do pure (.value (<-Instr.loadAt t x))) h μ w v h1 e:=by
 simp only[aop,hp]at he;cases a with
 | ref id off=>
  dsimp only at he;split at he
  ·rename_i cs ho
   simp only[Option.map_eq_some_iff,Prod.mk.injEq]at he;obtain⟨v',hv,rfl,rfl,rfl⟩:=he;obtain⟨m,hm,b,c,rfl,hB,hc⟩:=iG H ho;cases R with|ref _ _ b' n cs' ho' hm'=>
   rw[hm]at hm';injection hm' with hm'
   injection hm' with hm'
   injection hm' with e1 e2
   subst e1;have hf:∀(j:Nat) (x:AV),cs[j]?=some x->RAV (imm h μ w) h μ x ((c[j]?).getD undef):=by
    intro j x hx;obtain⟨_,u,h2,h3⟩:=hc j x hx;rw[h2];exact h3
   obtain⟨hl,hr⟩:=zR hv hf;refine lA.pure H (yA (zW hs (f:=λj=>(c[off+j]?).getD undef) (λj hj=>?_))) ?_
   ·rw[SD hB]
    have:off+j<c.size:=by rw[hB.1];omega
    simp [this]
   ·cases sh <;> exact hr
  ·cases he
 | rref id g i off=>
  dsimp only at he;split at he
  ·rename_i rsh xs fz ho
   split at he
   ·rename_i hg
    simp only[Option.map_eq_some_iff,Prod.mk.injEq,Option.bind_eq_some_iff]at he;obtain⟨v',⟨y,hy,hv⟩,rfl,rfl,rfl⟩:=he;obtain⟨m,hm,h2,h3,h4⟩:=iG H ho;cases R with|rref _ _ _ _ a sh' xs' fz' m' ho' hm' hgg hi hval=>
    rw[ho]at ho';injection ho' with ho';injection ho' with e1 e2 e3
    subst e1;subst e2;subst e3
    rw[hm]at hm';injection hm' with hm';subst hm'
    obtain⟨b,n,rfl,rfl⟩:=hval hg;obtain⟨c,hB,hn,hcell⟩:=h4;have hf:∀(j:Nat) (x:PV),y.cells[j]?=some x->RPV (imm h μ w) x ((c[i*gA rsh+j]?).getD undef):=by
     intro j x hx;obtain⟨u,h5,h6⟩:=hcell i j y x hy hx;rw[h5];exact h6
    obtain⟨hl,hr⟩:=yR hv hf;refine lA.pure H (yA (zW hs (f:=λj=>(c[i*gA rsh+(off+j)]?).getD undef) (λj hj=>?_))) ?_
    ·rw[SD hB]
     obtain⟨z,hz⟩:∃z,y.cells[off+j]?=some z:=⟨_,List.getElem?_eq_getElem (by omega)⟩
     obtain⟨u,h5,h6⟩:=hcell i (off+j) y z hy hz;rw[Nat.add_assoc,h5];simp
    ·cases sh <;> exact .p _ _ hr
   ·cases he
  ·cases he
 | vp y=>
  dsimp only at he;simp only[Option.map_eq_some_iff,Prod.mk.injEq]at he;obtain⟨v',hv,rfl,rfl,rfl⟩:=he;cases R with|vp _ b o f hm hr=>
  obtain⟨hl,hr'⟩:=yR hv hr;refine lA.pure H (yA (zW hs (f:=f) (λj hj=>?_))) ?_
  ·obtain⟨z,hz⟩:∃z,y.cells[j]?=some z:=⟨_,List.getElem?_eq_getElem (by omega)⟩
   exact(nE.1 (hm j z hz)).2
  ·cases sh
   ·exact .p _ _ hr'
   ·simp only[Nat.zero_add]at hr';exact .p _ _ hr'
 | bt k off id g=>
  dsimp only at he;simp only[Option.map_eq_some_iff,Prod.mk.injEq]at he;obtain⟨v',hv,rfl,rfl,rfl⟩:=he;unfold ldA at hv;cases hk:Nat.beq k 4 with
  | false=>rw[hk]at hv;cases hv
  | true=>
   rw[hk]at hv;have hk:=Nat.eq_of_beq_eq_true hk
   subst hk;simp only[cond_true]at hv;split at hv
   ·rename_i rsh cs ho
    split at hv
    ·rename_i hg
     obtain⟨b,n,c,hm,rfl,hB,hn,hs0,hc⟩:=z5b H R ho hg;have hf:∀(j:Nat) (x:AV),cs[j]?=some x->RAV (imm h μ w) h μ x ((c[j]?).getD undef):=by
      intro j x hx;obtain⟨u,h2,h3⟩:=hc j x hx;rw[h2];exact h3
     obtain⟨hl,hr⟩:=zR hv hf;refine lA.pure H (yA (zW hs (f:=λj=>(c[off+j]?).getD undef) (λj hj=>?_))) ?_
     ·rw[SD hB]
      have:off+j<c.size:=by rw[hB.1];omega
      simp [this]
     ·cases sh <;> exact hr
    ·cases hv
   ·cases hv
 | _=>simp at he
end
section
variable {h h':aA} {μ μ':Mu} {w w':World} {P:Program} {M:Mem}
theorem z3C {t:TypeId}{sh:Sh}(hs:kB P t=some sh){b o n:Nat}{c:Array Value}{x:Value}(hB:gB w b n c)(hsz:x.cells.size=gA sh)(hn:o+x.cells.size<=n)
 (hone:∀v∈x.cells.toList,v.oneCell'=true) :
 ∃E lo hi,w.heap[b]?=some (.cells c E (lo,hi))/\(Instr.storeAt t (.pointer (some ⟨b,o,none⟩)) x).run P w = .ok () (uB w b (.cells (yB c o x.cells.toList) E (lo,hi))):=by
 obtain⟨E,lo,hi,h1,h2⟩:=z3D (P:=P) x.cells.toList w c 0 hB (by simpa using hn) hone
 refine⟨E,lo,hi,h1,?_⟩;unfold Instr.storeAt Instr.sureAddr storeVar;simp only[Sem.run_bind,Sem.run_pure,Result.andThen_ok,sE hs];rw[if_neg (by simp [hsz])]
 simpa using h2
theorem z13 {s:Sem Unit}{h':aA}{μ':Mu}{w':World}{x:Esc}(hr:s.run P w = .ok () w')(H:HeapRel h' μ' w')(E:Evo (imm h μ w) h μ (imm h' μ' w') h' μ')(hx:rA h h' x) :
 lA P (do s;pure .skip) h μ w .und h' x:=⟨_,w',μ',z3E hr,.inr ⟨rfl,rfl⟩,H,E,hx⟩
theorem tE {α:Type}{l:List α}{i:Nat}{x:α}(hx:l[i]?=some x):l.set i x=l:=by
 apply List.ext_getElem?
 intro j;by_cases e:i=j
 ·subst e;rw[YB hx,hx]
 ·rw[List.getElem?_set_ne e]
theorem zqA {t:TypeId}{sh:Sh}(hs:kB P t=some sh){id off:Nat}{cs vs:List AV}{v:AV}{a x:Value}(H:HeapRel h μ w)(R:RAV (imm h μ w) h μ (.ref id off) a)(Rv:RAV (imm h μ w) h μ v x)
 (ho:h[id]?=some (.box cs)) (hv:v.cells=some vs) (hl:vs.length=gA sh) (hb:off+vs.length<=cs.length) :
 lA P (do Instr.storeAt t a x;pure .skip) h μ w .und (h.set id (.box (splice cs off vs))) (GD id cs v):=by
 obtain⟨m,hm,b,c,rfl,hB,hc⟩:=iG H ho;cases R with|ref _ _ b' n cs' ho' hm'=>
 rw[hm]at hm';injection hm' with hm'
 injection hm' with hm'
 injection hm' with e1 e2
 subst e1;obtain⟨s1,s2⟩:=kJ Rv hv;have hone:∀u∈x.cells.toList,u.oneCell'=true:=by
  intro u hu;obtain⟨j,hj⟩:=List.getElem?_of_mem hu;have hj2:j<vs.length:=by have:=IA hj;simpa [s1] using this
  obtain⟨h1,u',h2,h3⟩:=s2 j vs[j] (List.getElem?_eq_getElem hj2);rw[Array.getElem?_toList,h2]at hj;injection hj with hj
  subst hj;exact xQ h3 h1
 obtain⟨E,lo,hi,g1,g2⟩:=z3C hs hB (by rw[s1,hl]) (by rw[s1];exact hb) hone
 have hcs:QG (imm h μ w) h μ cs c:=⟨hB.1,λj y hy=>by obtain⟨_,u,p,q⟩:=hc j y hy;exact⟨u,p,q⟩⟩
 have hnew:=hcs.splice (xs:=x.cells.toList) (by simp [s1]) hb (λj y hy=>by obtain⟨_,u,p,q⟩:=s2 j y hy;exact⟨u,by simpa using p,q⟩)
 have hμ:μ.set id (some (b,cs.length))=μ:=tE hm
 have hlo:¬False->lo<hi->cs.length<=lo:=by
  obtain⟨_,E',lo',hi',q1,q2⟩:=hB;rw[g1]at q1;injection q1 with q1;injection q1 with _ _ q3;injection q3 with q3 q4;subst q3;subst q4;exact q2
 have key:=H.set (w':=uB w b (.cells (yB c off x.cells.toList) E (lo,hi))) (o':=.box (splice cs off vs)) (m':=some (b,cs.length)) ho hm ⟨⟨_,rfl⟩,rfl⟩
  rfl (Nat.le_of_eq (QI _ _).symm) (λb' _ hb'=>PI (λe=>hb' cs.length (by rw[e])))
  (λb' n e=>.inl ⟨n,e⟩) (λb' n sh xs fz _ e=>by cases e)
  (λM' Ev=>⟨b,yB c off x.cells.toList,by rw[oN _ _ _ hb],⟨by rw[oG,hB.1,oN _ _ _ hb],E,lo,hi,OE g1,by rw[oN _ _ _ hb];exact hlo⟩,λj y hy=>by
   obtain⟨u,p,q⟩:=hnew.2 j y hy;refine⟨?_,u,p,q.evo Ev⟩;rw[AQ _ _ _ _ hb]at hy;split at hy
   ·exact(s2 _ y hy).1
   ·exact(hc j y hy).1⟩) (iL g1)
 rw[hμ]at key;refine z13 g2 key.1 key.2 (rA.set ho ?_);have:=zbc cs vs off;have:=QY hv;have:=AT id v;simp only[Obj.top];unfold GD;cases hq:eF cs&&decide (v.top<=AV.tops cs) with
 | false=>simp only[cond_false];omega
 | true=>
  simp only[Bool.and_eq_true,decide_eq_true_eq]at hq;simp only[cond_true];omega
theorem HV {v:PV}{x:Value}(R:RPV M v x)(hs:v.cells.all PV.sc=true) :
 x.cells.size=v.cells.length/\(∀(j:Nat) (y:PV),v.cells[j]?=some y->∃u,x.cells[j]?=some u/\RPV M y u)/\∀u∈x.cells.toList,u.oneCell'=true:=by
 have hc:∃cs,(AV.p v).cells=some cs/\cs=v.cells.map .p:=by
  cases v <;> simp [AV.cells,PV.cells]
  intro y hy;rw[List.all_eq_true]at hs;exact hs y (by simpa [PV.cells] using hy)
 obtain⟨cs,h1,h2⟩:=hc;obtain⟨s1,s2⟩:=kJ (h:=[]) (μ:=[]) (.p v x R) h1;subst h2;refine⟨by simpa using s1,λj y hy=>?_,λu hu=>?_⟩
 ·obtain⟨_,u,h3,h4⟩:=s2 j (.p y) (by simp [hy])
  exact⟨u,h3,h4.p_inv⟩
 ·obtain⟨j,hj⟩:=List.getElem?_of_mem hu
  have hj2:j<v.cells.length:=by have:=IA hj;simpa [s1] using this
  obtain⟨h3,u',h4,h5⟩:=s2 j (.p v.cells[j]) (by simp [hj2])
  rw[Array.getElem?_toList,h4]at hj;injection hj with hj
  subst hj;exact xQ h5 h3
theorem z9R {i i' e j k:Nat}(hne:i≠i')(hj:j<e)(hk:k<e):i*e+j≠i'*e+k:=by
 intro hE;rcases Nat.lt_or_ge i i' with h|h
 ·have:(i+1)*e<=i'*e:=Nat.mul_le_mul_right _ h
  rw[Nat.add_mul,Nat.one_mul]at this;omega
 ·have:(i'+1)*e<=i*e:=Nat.mul_le_mul_right _ (by omega)
  rw[Nat.add_mul,Nat.one_mul]at this;omega
theorem zaW {t:TypeId}{sh:Sh}(hs:kB P t=some sh){id g i off:Nat}{xs:List PV}{rsh:Sh}{fz:Nat}{v y y':PV}{a x:Value}(H:HeapRel h μ w)(R:RAV (imm h μ w) h μ (.rref id g i off) a)(Rv:RPV (imm h μ w) v x)
 (ho:h[id]?=some (.row rsh xs fz)) (hg:g=xs.length) (hfz:fz<=i) (hl:v.cells.length=gA sh) (hsc:v.cells.all PV.sc=true) (hy:xs[i]?=some y)
 (hb:off+v.cells.length<=y.cells.length) (hy':y'.cells=splice y.cells off v.cells) (hshp:y'.shp rsh=true) :
 lA P (do Instr.storeAt t a x;pure .skip) h μ w .und (h.set id (.row rsh (xs.set i y') fz)) []:=by
 obtain⟨m,hm,k1,k2,k3⟩:=iG H ho;cases R with|rref _ _ _ _ a' sh' xs' fz' m' ho' hm' hgg hi hval=>
 rw[ho]at ho';injection ho' with ho';injection ho' with e1 e2 e3
 subst e1;subst e2;subst e3
 rw[hm]at hm';injection hm' with hm';subst hm'
 obtain⟨b,n,rfl,rfl⟩:=hval hg;obtain⟨c,hB0,hn,hcell⟩:=k3;obtain⟨s1,s2,s3⟩:=HV Rv hsc;have hil:i<xs.length:=IA hy
 have hB:=hB0.unsl (by omega)
 have hye:y.cells.length=gA rsh:=uC (k2 y (List.mem_of_getElem? hy))
 have hrow:(i+1)*gA rsh<=xs.length*gA rsh:=Nat.mul_le_mul_right _ hil
 rw[Nat.add_mul,Nat.one_mul]at hrow;obtain⟨E,lo,hi',g1,g2⟩:=z3C (o:=i*gA rsh+off) hs hB (by rw[s1,hl]) (by rw[s1];omega) s3
 have hlo:¬False->lo<hi'->n<=lo:=by
  obtain⟨_,E',lo',hi'',q1,q2⟩:=hB;rw[g1]at q1;injection q1 with q1;injection q1 with _ _ q3;injection q3 with q3 q4;subst q3;subst q4;exact q2
 have hsz:i*gA rsh+off+x.cells.toList.length<=c.size:=by rw[hB.1];simp [s1];omega
 have hμ:μ.set id (some (b,n))=μ:=tE hm
 have key:=H.set (w':=uB w b (.cells (yB c (i*gA rsh+off) x.cells.toList) E (lo,hi'))) (o':=.row rsh (xs.set i y') fz) (m':=some (b,n)) ho hm ⟨_,fz,rfl,by simp,λ_=>rfl⟩
  rfl (Nat.le_of_eq (QI _ _).symm) (λb' _ hb'=>PI (λe=>hb' n (by rw[e])))
  (λb' n e=>.inl ⟨n,e⟩) (λb' n' sh2 xs2 fz2 e1 e2=>by
   injection e2 with e2 e3 e4
   subst e2;subst e3;subst e4
   injection e1 with e1;injection e1 with e1 _;subst e1
   refine⟨_,fz,rfl,λj hj=>⟨?_,λ_ _=>hj⟩⟩
   have hB':gB (uB w b (.cells (yB c (i*gA rsh+off) x.cells.toList) E (lo,hi'))) b n (yB c (i*gA rsh+off) x.cells.toList):=⟨by rw[oG,hB.1],E,lo,hi',OE g1,hlo⟩
   rw[SD hB',SD hB,zH _ _ _ _ hsz,if_neg];have:fz*gA rsh<=i*gA rsh:=Nat.mul_le_mul_right _ hfz
   omega)
  (λM' Ev=>by
   refine⟨by simpa using k1,λz hz=>?_,yB c (i*gA rsh+off) x.cells.toList,gB.sealed _ ⟨by rw[oG,hB.1],E,lo,hi',OE g1,hlo⟩,by simpa using hn,λi2 j z u hz hu=>?_⟩
   ·rcases List.mem_or_eq_of_mem_set hz with hz|rfl
    ·exact k2 z hz
    ·exact hshp
   ·rw[zH _ _ _ _ hsz]
    rcases fG hz with⟨hne,hz⟩|⟨rfl,rfl,_⟩
    ·have hj:j<gA rsh:=by
      have:=uC (k2 z (List.mem_of_getElem? hz));have:=IA hu;omega
     have hlo2:¬(i*gA rsh+off<=i2*gA rsh+j/\i2*gA rsh+j<i*gA rsh+off+x.cells.toList.length):=by
      rintro⟨q1,q2⟩
      simp [s1]at q2;exact z9R (j:=i2*gA rsh+j-i*gA rsh) (k:=j) hne (by omega) hj (by omega)
     rw[if_neg hlo2];obtain⟨v',q1,q2⟩:=hcell i2 j z u hz hu;exact⟨v',q1,q2.mono Ev.le⟩
    ·rw[hy',AQ _ _ _ _ hb]at hu
     split at hu
     ·rename_i hj
      rw[if_pos (by simp [s1];omega)]
      obtain⟨u',q1,q2⟩:=s2 _ u hu;refine⟨u',?_,q2.mono Ev.le⟩;rw[Array.getElem?_toList,show i*gA rsh+j-(i*gA rsh+off)=j-off by omega]
      exact q1
     ·rename_i hj
      rw[if_neg (by simp [s1];omega)]
      obtain⟨v',q1,q2⟩:=hcell i j y u hy hu;exact⟨v',q1,q2.mono Ev.le⟩) (iL g1)
 rw[hμ]at key;exact z13 g2 key.1 key.2 (rA.set ho (by simp [Obj.top]))
theorem zqt {cs vs:List PV}{off:Nat}(h1:cs.all PV.sc=true)(h2:vs.all PV.sc=true):(splice cs off vs).all PV.sc=true:=by
 rw[List.all_eq_true]at *;intro x hx;simp only[splice,List.mem_append]at hx;rcases hx with(hx|hx)|hx
 ·exact h1 x (List.mem_of_mem_take hx)
 ·exact h2 x hx
 ·exact h1 x (List.mem_of_mem_drop hx)
theorem lA.after {s:Sem Next}{v:AV}{h1 h2:aA}{x:Esc}(a:NF h μ w h1)(b:lA P s h1 μ w v h2 x):lA P s h μ w v h2 x:=by
 obtain⟨nx,w',μ',r,q,H,E,I⟩:=b;exact⟨nx,w',μ',r,q,H,a.2.1.trans E,by simpa using rA.trans a.2.2 I⟩
theorem zq9 {t:TypeId}{sh rsh:Sh}(hs:kB P t=some sh){id off g:Nat}{cs vs:List AV}{v:AV}{a x:Value}(H:HeapRel h μ w)(R:RAV (imm h μ w) h μ (.bt 4 off id g) a)(Rv:RAV (imm h μ w) h μ v x)
 (ho:h[id]?=some (.arow rsh cs)) (hg:g*gA rsh=cs.length) (hv:v.cells=some vs) (hl:vs.length=gA sh) (hb:off+vs.length<=cs.length) :
 lA P (do Instr.storeAt t a x;pure .skip) h μ w .und (h.set id (.arow rsh (splice cs off vs))) (rC id v):=by
 obtain⟨b,n,c,hm,rfl,hB,hn,hs0,hc⟩:=z5b H R ho hg;obtain⟨s1,s2⟩:=kJ Rv hv;have hone:∀u∈x.cells.toList,u.oneCell'=true:=by
  intro u hu;obtain⟨j,hj⟩:=List.getElem?_of_mem hu;have hj2:j<vs.length:=by have:=IA hj;simpa [s1] using this
  obtain⟨h1,u',h2,h3⟩:=s2 j vs[j] (List.getElem?_eq_getElem hj2);rw[Array.getElem?_toList,h2]at hj;injection hj with hj
  subst hj;exact xQ h3 h1
 obtain⟨E,lo,hi,g1,g2⟩:=z3C (o:=off) hs hB (by rw[s1,hl]) (by rw[s1];omega) hone
 have hμ:μ.set id (some (b,n))=μ:=tE hm
 have hlo:¬False->lo<hi->n<=lo:=by
  obtain⟨_,E',lo',hi',q1,q2⟩:=hB;rw[g1]at q1;injection q1 with q1;injection q1 with _ _ q3;injection q3 with q3 q4;subst q3;subst q4;exact q2
 have hsz:off+x.cells.toList.length<=c.size:=by rw[hB.1];simp [s1];omega
 have hsl:=oN cs vs off hb
 have key:=H.set (w':=uB w b (.cells (yB c off x.cells.toList) E (lo,hi))) (o':=.arow rsh (splice cs off vs)) (m':=some (b,n)) ho hm (.inl ⟨_,rfl,by rw[hsl];exact Nat.le_refl _,λ_=>rfl⟩)
  rfl (Nat.le_of_eq (QI _ _).symm) (λb' _ hb'=>PI (λe=>hb' n (by rw[e])))
  (λb' n e=>.inl ⟨n,e⟩) (λb' n sh xs fz _ e=>by cases e)
  (λM' Ev=>by
   refine⟨λy hy=>?_,yB c off x.cells.toList,⟨by rw[oG,hB.1],E,lo,hi,OE g1,hlo⟩,by rw[hsl];exact hn,λj y hy=>?_⟩
   ·obtain⟨j,hj⟩:=List.getElem?_of_mem hy
    rw[AQ _ _ _ _ hb]at hj;split at hj
    ·exact(s2 _ y hj).1
    ·exact hs0 y (List.mem_of_getElem? hj)
   ·rw[AQ _ _ _ _ hb]at hy
    rw[zH _ _ _ _ hsz];split at hy
    ·rename_i hj
     rw[if_pos (by simp [s1];omega)]
     obtain⟨_,u,p,q⟩:=s2 _ y hy;exact⟨u,by simpa using p,q.evo Ev⟩
    ·rename_i hj
     rw[if_neg (by simp [s1];omega)]
     obtain⟨u,p,q⟩:=hc j y hy;exact⟨u,p,q.evo Ev⟩) (iL g1)
 rw[hμ]at key;refine z13 g2 key.1 key.2 (rA.set ho ?_);have:=zbc cs vs off;have:=QY hv;have:=AT id v;simp only[Obj.top];omega
theorem zqB {t:TypeId}{sh:Sh}(hs:kB P t=some sh){a x:Value}{v:AV}{h1:aA}{e:Esc}(H:HeapRel h μ w)(ev:Opd->AV)(p q:Opd)(R:RAV (imm h μ w) h μ (ev p) a)(Rv:RAV (imm h μ w) h μ (ev q) x)
 (he:aop (.store sh p q) ev h=some (v,h1,e)):lA P (do Instr.storeAt t a x;pure .skip) h μ w v h1 e:=by
 simp only[aop]at he;cases hp:ev p with
 | ref id off=>
  rw[hp]at he R;dsimp only at he;split at he
  ·rename_i cs vs ho hv
   split at he
   ·rename_i hc
    simp at he;obtain⟨rfl,rfl,rfl⟩:=he;exact zqA hs H R Rv ho hv hc.1 hc.2
   ·cases he
  ·cases he
 | rref id g i off=>
  rw[hp]at he R;dsimp only at he;split at he
  ·rename_i pv h2 hpur
   obtain⟨a1,a2⟩:=MV _ H Rv hpur;refine lA.after a1 ?_;split at he
   ·rename_i rsh xs fz ho
    split at he
    ·rename_i hc
     obtain⟨c1,c2,c3,c4⟩:=hc;obtain⟨m,hm,k1,k2,k3⟩:=iG a1.1 ho;split at he
     ·rename_i cs hy
      split at he
      ·rename_i hb
       simp at he;obtain⟨rfl,rfl,rfl⟩:=he;have hk:=k2 _ (List.mem_of_getElem? hy)
       have hall:(PV.agg cs).cells.all PV.sc=true:=by rw[List.all_eq_true];exact JW hk
       refine zaW hs a1.1 (R.evo a1.2.1) a2 ho c1 c2 c3 c4 hy (y':=.agg (splice cs off pv.cells)) (by simpa [PV.cells] using hb) rfl ?_
       cases rsh with
       | none=>simp [PV.shp,PV.sc]at hk
       | some n=>
        simp only[PV.shp,Bool.and_eq_true,beq_iff_eq]at hk ⊢;exact⟨by rw[oN _ _ _ hb];exact hk.1,zqt hk.2 c4⟩
      ·cases he
     ·rename_i y hna hy
      split at he
      ·rename_i hb
       simp at he;obtain⟨rfl,rfl,rfl⟩:=he;have hk:=k2 _ (List.mem_of_getElem? hy)
       have hyc:y.cells=[y]:=by cases y <;> first|rfl|exact absurd rfl (hna _)
       have hvc:pv.cells=[pv]:=by cases pv <;> first|rfl|(simp [PV.sc]at hb)
       have hsh:gA sh=1:=by rw[<-c3,hvc];rfl
       obtain⟨hb1,hb2⟩:=hb;subst hb1;refine zaW hs a1.1 (R.evo a1.2.1) a2 ho c1 c2 c3 c4 hy (y':=pv) (by rw[hyc,hvc];simp) (by rw[hyc,hvc];simp [splice]) ?_
       cases rsh with
       | none=>exact hb2
       | some n=>cases y <;> first|(simp [PV.shp]at hk;done)|exact absurd rfl (hna _)
      ·cases he
     ·cases he
    ·cases he
   ·cases he
  ·cases he
 | bt k off id g=>
  rw[hp]at he R;dsimp only at he;unfold stA at he;cases hk:Nat.beq k 4 with
  | false=>rw[hk]at he;cases he
  | true=>
   rw[hk]at he;have hk:=Nat.eq_of_beq_eq_true hk
   subst hk;simp only[cond_true]at he;split at he
   ·rename_i rsh cs vs ho hv
    split at he
    ·rename_i hc
     simp at he;obtain⟨rfl,rfl,rfl⟩:=he;exact zq9 hs H R Rv ho hc.1 hv hc.2.1 hc.2.2
    ·cases he
   ·cases he
 | _=>rw[hp]at he;simp at he
end
section
variable {h h':aA} {μ μ':Mu} {w w':World} {P:Program} {M:Mem}
theorem z5S {sh:Sh}{off:Nat}{v u:PV}(hc:rB sh off v=some u):∀(j:Nat) (y:PV),u.cells[j]?=some y->v.cells[off+j]?=some y:=by
 intro j y hy;unfold rB at hc;split at hc
 ·rename_i cs
  cases sh with
  | none=>
   simp only[Option.bind_eq_some_iff]at hc;obtain⟨z,hz,hc⟩:=hc;split at hc <;> simp at hc
   rename_i hsc;subst hc;have:z.cells=[z]:=by cases z <;> first|rfl|(simp [PV.sc]at hsc)
   rw[this]at hy;cases j with
   | zero=>simp at hy;subst hy;simpa [PV.cells] using hz
   | succ j=>simp at hy
  | some n=>
   dsimp only at hc;split at hc
   ·simp at hc
    subst hc;simp only[PV.cells]at hy ⊢;rw[List.getElem?_take]at hy;split at hy
    ·rw[List.getElem?_drop]at hy;exact hy
    ·cases hy
   ·cases hc
 ·split at hc
  ·simp at hc;subst hc;simpa using hy
  ·cases hc
theorem zbi {sh:Sh}{off:Nat}{v u:PV}{b o:Nat}(R:RAV M h μ (.vp v) (.pointer (some ⟨b,o,none⟩)))(hc:rB sh off v=some u):RAV M h μ (.vp u) (.pointer (some ⟨b,o+off,none⟩)):=by
 cases R with|vp _ _ _ f hm hr=>
 refine .vp u b (o+off) (λj=>f (off+j)) (λj y hy=>?_) (λj y hy=>hr _ y (z5S hc j y hy))
 rw[Nat.add_assoc];exact hm _ y (z5S hc j y hy)
def nJ (P:Program)(s:TypeId)(field off:Nat)(sh:Sh):Bool:=match P.underlying s with
 | some (.struct fs)=>match fs[field]? with
  | some f=>f.offset==off&&kB P f.type==some sh&&gA sh != 0
  | none=>false
 | _=>false
theorem yW {s:TypeId}{field off:Nat}{sh:Sh}{a:Addr}(hc:nJ P s field off sh=true):(Instr.fieldAt s (.pointer (some a)) field).run P w = .ok (.pointer (some (a.add off))) w:=by
 unfold nJ at hc;split at hc
 ·rename_i fs hu
  split at hc
  ·rename_i f hf
   simp only[Bool.and_eq_true,beq_iff_eq,bne_iff_ne]at hc;unfold Instr.fieldAt;rw[Sem.run_bind,TA hu];simp only[Result.andThen_ok,hf,Instr.sureAddr,Sem.run_bind,Sem.run_pure,fieldPlace];rw[sE hc.1.2];simp only[Result.andThen_ok];rw[if_neg hc.2,hc.1.1];rfl
  ·cases hc
 ·cases hc
theorem zjK {s:TypeId}{field off:Nat}{sh:Sh}(hc:nJ P s field off sh=true){x:Value}{v:AV}{h1:aA}{e:Esc}(H:HeapRel h μ w)(ev:Opd->AV)(p:Opd)(R:RAV (imm h μ w) h μ (ev p) x)
 (he:aop (.faddr off sh p) ev h=some (v,h1,e)):lA P (do pure (.value (<-Instr.fieldAt s x field))) h μ w v h1 e:=by
 simp only[aop]at he;cases hp:ev p with
 | ref id o=>
  rw[hp]at he R;simp at he;obtain⟨rfl,rfl,rfl⟩:=he;cases R with|ref _ _ b n cs ho hm=>
  exact lA.pure H (yA (yW hc)) (by rw[wC];exact .ref id _ b n cs ho hm)
 | rref id g i o=>
  rw[hp]at he R;simp at he;obtain⟨rfl,rfl,rfl⟩:=he;cases R with|rref _ _ _ _ a sh' xs fz m ho hm hg hi hv=>
  refine lA.pure H (yA (yW hc)) (.rref id g i _ _ sh' xs fz m ho hm hg hi (λe=>?_))
  obtain⟨b,n,rfl,rfl⟩:=hv e;exact⟨b,n,rfl,by rw[wC,Nat.add_assoc]⟩
 | vp y=>
  rw[hp]at he R;simp only[Option.map_eq_some_iff,Prod.mk.injEq]at he;obtain⟨u,hu,rfl,rfl,rfl⟩:=he;have R':=R
  cases R with|vp _ b o f hm hr=>
  exact lA.pure H (yA (yW hc)) (by rw[wC];exact zbi R' hu)
 | bt k o id g=>
  rw[hp]at he R;simp only[Option.map_eq_some_iff,Prod.mk.injEq]at he;obtain⟨u,hu,rfl,rfl,rfl⟩:=he;unfold faA at hu;cases hk:Nat.beq k 4 with
  | false=>rw[hk]at hu;cases hu
  | true=>
   rw[hk]at hu;have hk:=Nat.eq_of_beq_eq_true hk
   subst hk;simp only[cond_true,Option.some.injEq]at hu;subst hu;cases R with|bt4 _ _ _ a ob m ho hm hv=>
   refine lA.pure H (yA (yW hc)) (.bt4 _ id g _ ob m ho hm (λsh cs e=>?_))
   obtain⟨q1,q2⟩:=hv sh cs e;refine⟨q1,λhe=>?_⟩
   obtain⟨b,n,rfl,rfl⟩:=q2 he;exact⟨b,n,rfl,by rw[wC]⟩
 | _=>rw[hp]at he;simp at he
theorem zjG {vs:List Value}{off n:Nat}(hl:off+n<=vs.length):vs.toArray.extract off (off+n)=(((List.range n).map λj=>(vs[off+j]?).getD undef)).toArray:=by
 apply Array.ext_getElem?
 intro i;rw[Array.getElem?_extract];by_cases hi:i<n
 ·simp [hi]
  have:off+i<vs.length:=by omega
  simp [this];omega
 ·simp [hi]
  omega
theorem OI {t:TypeId}{sh:Sh}(hs:kB P t=some sh){vs:List Value}{off:Nat}(hl:off+gA sh<=vs.length) :
 (part t vs.toArray off).run P w = .ok (yD sh λj=>(vs[off+j]?).getD undef) w:=by
 unfold part;rw[Sem.run_bind,zaa hs];simp only[Result.andThen_ok];cases sh with
 | none=>
  simp only[Option.isSome,Bool.false_eq_true,if_false];have:off<vs.length:=by simp [gA]at hl;omega
  simp [this,yD]
 | some n=>
  simp only[Option.isSome,if_true,Sem.run_bind,sE hs,Result.andThen_ok,Sem.run_pure];simp only[gA]at hl ⊢;rw[zjG hl];rfl
theorem zjR {s:TypeId}{field off:Nat}{sh:Sh}(hc:nJ P s field off sh=true){x:Value}{v:AV}{h1:aA}{e:Esc}(H:HeapRel h μ w)(ev:Opd->AV)(p:Opd)(R:RAV (imm h μ w) h μ (ev p) x)
 (he:aop (.field off sh p) ev h=some (v,h1,e)):lA P (do pure (.value (<-Instr.field s x field))) h μ w v h1 e:=by
 unfold nJ at hc;split at hc
 ·rename_i fs hu
  split at hc
  ·rename_i f hf
   simp only[Bool.and_eq_true,beq_iff_eq,bne_iff_ne]at hc;have hrun:∀(vs:List Value),off+gA sh<=vs.length->(Instr.field s (.agg vs.toArray) field).run P w = .ok (yD sh λj=>(vs[off+j]?).getD undef) w:=by
    intro vs hl;unfold Instr.field;rw[Sem.run_bind,TA hu];simp only[Result.andThen_ok,hf,asAgg,Sem.run_bind,Sem.run_pure,hc.1.1];exact OI hc.1.2 hl
   simp only[aop]at he;cases hp:ev p with
   | p y=>
    rw[hp]at he R;dsimp only at he;split at he
    ·rename_i cs
     simp only[Option.map_eq_some_iff,Prod.mk.injEq]at he;obtain⟨u,hcut,rfl,rfl,rfl⟩:=he;have Ri:=R.p_inv
     cases Ri with|agg _ vs hl hr=>
     have hf2:∀(j:Nat) (x:PV),(PV.agg cs).cells[j]?=some x->RPV (imm h μ w) x ((vs[j]?).getD undef):=by
      intro j x hx;have hj:j<vs.length:=by rw[<-hl];exact IA hx
      simp only[List.getElem?_eq_getElem hj,Option.getD_some];exact hr j x _ hx (List.getElem?_eq_getElem hj)
     obtain⟨h2,h3⟩:=yR hcut hf2;refine lA.pure H (yA (hrun vs (by rw[<-hl];simpa [PV.cells] using h2))) ?_
     cases sh <;> exact .p _ _ h3
    ·cases he
   | agg cs=>
    rw[hp]at he R;simp only[Option.map_eq_some_iff,Prod.mk.injEq]at he;obtain⟨u,hcut,rfl,rfl,rfl⟩:=he;cases R with|agg _ vs hl hr=>
    have hf2:∀(j:Nat) (x:AV),cs[j]?=some x->RAV (imm h μ w) h μ x ((vs[j]?).getD undef):=by
     intro j x hx;have hj:j<vs.length:=by rw[<-hl];exact IA hx
     simp only[List.getElem?_eq_getElem hj,Option.getD_some];exact hr j x _ hx (List.getElem?_eq_getElem hj)
    obtain⟨h2,h3⟩:=zR hcut hf2;refine lA.pure H (yA (hrun vs (by rw[<-hl];exact h2))) ?_
    cases sh <;> exact h3
   | _=>rw[hp]at he;simp at he
  ·cases hc
 ·cases hc
def oJ (P:Program)(t:TypeId)(sh:Sh):Bool:=match P.underlying t with
 | some (.slice e)=>kB P e==some sh
 | _=>false
def lJ (P:Program)(t:TypeId)(n:Nat)(sh:Sh):Bool:=match P.underlying t with
 | some (.array m e)=>m==n&&kB P e==some sh
 | _=>false
theorem z3A {t:TypeId}{sh:Sh}(hc:oJ P t sh=true){a:Addr}{len cap k:Nat}{kk:IntKind}(hk:k<len) :
 (Instr.indexAt t (.slice (some a) len cap) (.int kk (k:Int))).run P w = .ok (.pointer (some (a.add (k*gA sh)))) w:=by
 unfold oJ at hc;split at hc
 ·rename_i e hu
  simp only[beq_iff_eq]at hc;unfold Instr.indexAt;simp only[asIntOf,Sem.run_bind,Sem.run_pure,Result.andThen_ok,TA hu];have:(0:Int)<=(k:Int)/\(k:Int)<(len:Int):=by omega
  simp [this,sE hc]
 ·cases hc
theorem z39 {t:TypeId}{n:Nat}{sh:Sh}(hc:lJ P t n sh=true){a:Addr}{k:Nat}{kk:IntKind}(hk:k<n) :
 (Instr.indexAt t (.pointer (some a)) (.int kk (k:Int))).run P w = .ok (.pointer (some (a.add (k*gA sh)))) w:=by
 unfold lJ at hc;split at hc
 ·rename_i m e hu
  simp only[Bool.and_eq_true,beq_iff_eq]at hc;obtain⟨rfl,hc⟩:=hc;unfold Instr.indexAt;simp only[asIntOf,Sem.run_bind,Sem.run_pure,Result.andThen_ok,TA hu,Instr.sureAddr];have:(0:Int)<=(k:Int)/\(k:Int)<(m:Int):=by omega
  simp [this,sE hc]
 ·cases hc
theorem zqp {xs:List PV}{k:Nat}{x:PV}{y:Value}{sh:Sh}(R:RPV M (.sl sh xs) y)(hx:xs[k]?=some x) :
 ∃b o cap,y = .slice (some ⟨b,o,none⟩) xs.length cap/\k<xs.length/\RAV M h μ (.vp x) (.pointer (some ⟨b,o+k*gA sh,none⟩)):=by
 have hk:k<xs.length:=IA hx
 cases R with
 | nils _ a cap=>simp at hx
 | sl _ _ b o cap f hne hc he hm hr=>
  have he':∀x∈xs,x.cells.length=gA sh:=λx hx=>uC (he x hx)
  have hflat:∀(j:Nat) (z:PV),x.cells[j]?=some z->(xs.flatMap PV.cells)[k*gA sh+j]?=some z:=by
   intro j z hz;rw[uI he' k j (by rw[<-he' x (List.mem_of_getElem? hx)];exact IA hz),hx]
   exact hz
  refine⟨b,o,cap,rfl,hk,.vp x b (o+k*gA sh) (λj=>f (k*gA sh+j)) (λj z hz=>?_) (λj z hz=>hr _ z (hflat j z hz))⟩
  have:=hm _ z (hflat j z hz);rw[Nat.add_assoc];exact this
theorem zkv {t:TypeId}{sh:Sh}(hc:oJ P t sh=true){x i:Value}{v:AV}{h1:aA}{e:Esc}(H:HeapRel h μ w)(ev:Opd->AV)(p q:Opd)(R:RAV (imm h μ w) h μ (ev p) x)(Ri:RAV (imm h μ w) h μ (ev q) i)
 (he:aop (.iaddr sh p q) ev h=some (v,h1,e)):lA P (do pure (.value (<-Instr.indexAt t x i))) h μ w v h1 e:=by
 simp only[aop]at he;split at he
 ·rename_i sh' xs k hp hq
  rw[hp]at R;obtain⟨kk,rfl⟩:=lG hq Ri;split at he
  ·rename_i hsh
   subst hsh;simp only[Option.map_eq_some_iff,Prod.mk.injEq]at he;obtain⟨z,hz,rfl,rfl,rfl⟩:=he;obtain⟨b,o,cap,rfl,hk,hr⟩:=zqp (h:=h) (μ:=μ) R.p_inv hz;exact lA.pure H (yA (z3A hc hk)) (by rw[wC];exact hr)
  ·cases he
 ·rename_i id g off len k hp hq
  rw[hp]at R;obtain⟨kk,rfl⟩:=lG hq Ri;split at he
  ·rename_i rsh xs fz ho
   split at he
   ·rename_i hcc
    obtain⟨c1,c2,c3,c4⟩:=hcc;simp at he;obtain⟨rfl,rfl,rfl⟩:=he;subst c1;obtain⟨_,_,a,cap,rfl,hlc,hrow⟩:=tH H R ho c2;obtain⟨b,n,c,hm,rfl,hB,hn,hn2,hcell⟩:=hrow (by omega)
    refine lA.pure H (yA (z3A hc c4)) ?_;rw[wC];refine .rref id g (off+k) 0 _ rsh xs fz _ ho hm (by omega) (by omega) (λ_=>⟨b,n,rfl,?_⟩)
    rw[Nat.add_mul,Nat.add_zero]
   ·cases he
  ·cases he
 ·rename_i kk tt id g k hp hq
  rw[hp]at R;obtain⟨ki,rfl⟩:=lG hq Ri;simp only[Option.map_eq_some_iff,Prod.mk.injEq]at he;obtain⟨u,hu,rfl,rfl,rfl⟩:=he;unfold iaA at hu;cases hk:Nat.beq kk 3 with
  | false=>rw[hk]at hu;cases hu
  | true=>
   rw[hk]at hu;have hk:=Nat.eq_of_beq_eq_true hk
   subst hk;simp only[cond_true]at hu;split at hu
   ·rename_i rsh cs ho
    split at hu
    ·rename_i hcc
     obtain⟨c1,c2,c4⟩:=hcc;subst c1;simp only[Option.some.injEq]at hu;subst hu;cases R with|bt3 _ _ _ a cap ob m hl ho' hm hv=>
     rw[ho]at ho';injection ho' with ho'
     obtain⟨q1,q2⟩:=hv rsh cs ho'.symm;have q3:=q2 c2
     have hm3:∃b n,m=some (b,n)/\a=some ⟨b,0,none⟩:=by
      cases m with
      | none=>simp [vF]at q3;omega
      | some m=>
       obtain⟨b,n⟩:=m;rcases q3 with q3|q3
       ·omega
       ·exact⟨b,n,rfl,by rw[q3.1,Nat.zero_mul]⟩
     obtain⟨b,n,rfl,rfl⟩:=hm3;refine lA.pure H (yA (z3A hc c4)) ?_;rw[wC];exact .bt4 _ id g _ _ _ ho hm (λsh2 cs2 e=>by
      injection e with e1 e2
      subst e1;subst e2
      exact⟨q1,λ_=>⟨b,n,rfl,by rw[Nat.zero_add]⟩⟩)
    ·cases hu
   ·cases hu
 ·cases he
theorem zky {t:TypeId}{n:Nat}{sh:Sh}(hc:lJ P t n sh=true){x i:Value}{v:AV}{h1:aA}{e:Esc}(H:HeapRel h μ w)(ev:Opd->AV)(p q:Opd)(R:RAV (imm h μ w) h μ (ev p) x)(Ri:RAV (imm h μ w) h μ (ev q) i)
 (he:aop (.iaddra n sh p q) ev h=some (v,h1,e)):lA P (do pure (.value (<-Instr.indexAt t x i))) h μ w v h1 e:=by
 simp only[aop]at he;split at he
 ·rename_i id o k hp hq
  rw[hp]at R;obtain⟨kk,rfl⟩:=lG hq Ri;split at he
  ·rename_i hk
   simp at he;obtain⟨rfl,rfl,rfl⟩:=he;cases R with|ref _ _ b m cs ho hm=>
   exact lA.pure H (yA (z39 hc hk)) (by rw[wC];exact .ref id _ b m cs ho hm)
  ·cases he
 ·rename_i id g j o k hp hq
  rw[hp]at R;obtain⟨kk,rfl⟩:=lG hq Ri;split at he
  ·rename_i hk
   simp at he;obtain⟨rfl,rfl,rfl⟩:=he;cases R with|rref _ _ _ _ a sh' xs fz m ho hm hg hi hv=>
   refine lA.pure H (yA (z39 hc hk)) (.rref id g j _ _ sh' xs fz m ho hm hg hi (λe=>?_))
   obtain⟨b,n,rfl,rfl⟩:=hv e;exact⟨b,n,rfl,by rw[wC,Nat.add_assoc]⟩
  ·cases he
 ·rename_i y k hp hq
  rw[hp]at R;obtain⟨kk,rfl⟩:=lG hq Ri;split at he
  ·rename_i hk
   simp only[Option.map_eq_some_iff,Prod.mk.injEq]at he;obtain⟨u,hu,rfl,rfl,rfl⟩:=he;have R':=R
   cases R with|vp _ b o f hm hr=>
   exact lA.pure H (yA (z39 hc hk)) (by rw[wC];exact zbi R' hu)
  ·cases he
 ·cases he
theorem zk3 {t:TypeId}{n:Nat}{sh:Sh}(hc:lJ P t n sh=true){x i:Value}{v:AV}{h1:aA}{e:Esc}(H:HeapRel h μ w)(ev:Opd->AV)(p q:Opd)(R:RAV (imm h μ w) h μ (ev p) x)(Ri:RAV (imm h μ w) h μ (ev q) i)
 (he:aop (.idxa n sh p q) ev h=some (v,h1,e)):lA P (do pure (.value (<-Instr.index t x i))) h μ w v h1 e:=by
 unfold lJ at hc;split at hc
 ·rename_i m el hu
  simp only[Bool.and_eq_true,beq_iff_eq]at hc;obtain⟨rfl,hc⟩:=hc;simp only[aop]at he;split at he
  ·rename_i cs k hp hq
   rw[hp]at R;obtain⟨kk,rfl⟩:=lG hq Ri;split at he
   ·rename_i hk
    simp only[Option.map_eq_some_iff,Prod.mk.injEq]at he;obtain⟨u,hcut,rfl,rfl,rfl⟩:=he;have Rv:=R.p_inv
    cases Rv with|agg _ vs hl hr=>
    have hf2:∀(j:Nat) (x:PV),(PV.agg cs).cells[j]?=some x->RPV (imm h μ w) x ((vs[j]?).getD undef):=by
     intro j x hx;have hj:j<vs.length:=by rw[<-hl];exact IA hx
     simp only[List.getElem?_eq_getElem hj,Option.getD_some];exact hr j x _ hx (List.getElem?_eq_getElem hj)
    obtain⟨h2,h3⟩:=yR hcut hf2;refine lA.pure H (yA (u:=yD sh λj=>(vs[k*gA sh+j]?).getD undef) ?_) ?_
    ·unfold Instr.index
     simp only[asIntOf,Sem.run_bind,Sem.run_pure,Result.andThen_ok,TA hu];have h0:(0:Int)<=(k:Int)/\(k:Int)<(m:Int):=by omega
     rw[if_pos h0,Sem.run_bind,sE hc];simp only[Result.andThen_ok,Int.toNat_natCast];exact OI hc (by rw[<-hl];simpa [PV.cells] using h2)
    ·cases sh <;> exact .p _ _ h3
   ·cases he
  ·cases he
 ·cases hc
def EK (P:Program)(t:TypeId):Bool:=match P.underlying t with
 | some .string=>true
 | _=>false
theorem zqI (s:List UInt8)(k:Nat):(⟨s.toArray⟩:ByteArray)[k]?=s[k]?:=by
 by_cases hk:k<s.length
 ·have:k<(⟨s.toArray⟩:ByteArray).size:=by simpa [ByteArray.size] using hk
  rw[getElem?_pos _ k this,List.getElem?_eq_getElem hk];rfl
 ·have:¬k<(⟨s.toArray⟩:ByteArray).size:=by simpa [ByteArray.size] using hk
  rw[getElem?_neg _ k this,List.getElem?_eq_none (by omega)]
theorem zk4 {t:TypeId}(hc:EK P t=true){x i:Value}{v:AV}{h1:aA}{e:Esc}(H:HeapRel h μ w)(ev:Opd->AV)(p q:Opd)(R:RAV (imm h μ w) h μ (ev p) x)(Ri:RAV (imm h μ w) h μ (ev q) i)
 (he:aop (.idxs p q) ev h=some (v,h1,e)):lA P (do pure (.value (<-Instr.index t x i))) h μ w v h1 e:=by
 unfold EK at hc;split at hc
 ·rename_i hu
  simp only[aop]at he;split at he
  ·rename_i s k hp hq
   rw[hp]at R;obtain⟨kk,rfl⟩:=lG hq Ri;rw[R.p_str];simp only[Option.map_eq_some_iff,Prod.mk.injEq]at he;obtain⟨u,hu2,rfl,rfl,rfl⟩:=he;refine lA.pure H (yA (u:=.int .u8 u.toNat) ?_) (.p _ _ (.int _ _));unfold Instr.index;simp only[asIntOf,Sem.run_bind,Sem.run_pure,Result.andThen_ok,TA hu];simp [zqI,hu2]
  ·cases he
 ·cases hc
end
section
variable {h h':aA} {μ μ':Mu} {w w':World} {P:Program} {M:Mem}
def sC:Option Opd->Option Operand->Bool
 | none,none=>true
 | some x,some y=>JA x y
 | _,_=>false
theorem iN {ev:Opd->AV}{ρ:Operand->Value}{x:Opd}{y:Operand}{k:Nat}{m:Nat}{code:BoundsCode}(R:wE M h μ ev ρ)(ho:JA x y=true)(hk:sB (ev x)=some k)(hm:k<=m) :
 (Instr.sliceBound (ρ y) m code).run P w = .ok k w:=by
 obtain⟨kk,hr⟩:=lG hk (R x y ho);rw[hr];unfold Instr.sliceBound;simp only[asIntOf,Sem.run_bind,Sem.run_pure,Result.andThen_ok];rw[if_pos (by omega)]
 simp
theorem z9Y {ev:Opd->AV}{ρ:Operand->Value}(R:wE M h μ ev ρ){lo hi mx:Option Opd}{lo' hi' mx':Option Operand}(h1:sC lo lo'=true)(h2:sC hi hi'=true)(h3:sC mx mx'=true)
 {isS:Bool} {len cap l r m:Nat} (hl:bnd ev 0 lo=some l) (hr:bnd ev len hi=some r) (hm:∀x,mx=some x->sB (ev x)=some m) (hlr:l<=r) (hrm:r<=m) (hmc:m<=cap) (hmx:mx.isSome=true->hi.isSome=true)
 (hn:mx=none->m=len) (hrc:len<=cap) :
 (Instr.sliceBounds isS len cap (lo'.map ρ) (hi'.map ρ) (mx'.map ρ)).run P w = .ok (l,r,if mx.isSome then m else cap) w:=by
 unfold Instr.sliceBounds;cases mx with
 | none=>
  cases mx' with
  | some _=>simp [sC]at h3
  | none=>
   have:=hn rfl;subst this
   simp only[Option.map_none,Option.isSome_none,Bool.false_eq_true,if_false];cases hi with
   | none=>
    cases hi' with
    | some _=>simp [sC]at h2
    | none=>
     simp [bnd]at hr;subst hr
     cases lo with
     | none=>cases lo' with
      | some _=>simp [sC]at h1
      | none=>simp [bnd]at hl;subst hl;simp
     | some x=>cases lo' with
      | none=>simp [sC]at h1
      | some y=>simp [iN R h1 hl hlr]
   | some x=>
    cases hi' with
    | none=>simp [sC]at h2
    | some y=>
     have hb:=λcode=>iN (P:=P) (w:=w) (code:=code) (m:=cap) R h2 hr (by omega)
     cases lo with
     | none=>cases lo' with
      | some _=>simp [sC]at h1
      | none=>simp [bnd]at hl;subst hl;simp [hb]
     | some x=>cases lo' with
      | none=>simp [sC]at h1
      | some y=>simp [hb,iN R h1 hl hlr]
 | some z=>
  cases mx' with
  | none=>simp [sC]at h3
  | some zz=>
   have hz:=λcode=>iN (P:=P) (w:=w) (code:=code) (m:=cap) R h3 (hm z rfl) hmc
   cases hi with
   | none=>simp at hmx
   | some x=>
    cases hi' with
    | none=>simp [sC]at h2
    | some y=>
     have hb:=λcode=>iN (P:=P) (w:=w) (code:=code) (m:=m) R h2 hr hrm
     cases lo with
     | none=>cases lo' with
      | some _=>simp [sC]at h1
      | none=>simp [bnd]at hl;subst hl;simp [hb,hz]
     | some x=>cases lo' with
      | none=>simp [sC]at h1
      | some y=>simp [hb,hz,iN R h1 hl hlr]
theorem z7X {xs:List PV}{sh:Sh}(he:∀ x∈xs,x.shp sh=true){l n j:Nat}{y:PV}(hj:((win xs l n).flatMap PV.cells)[j]?=some y):(xs.flatMap PV.cells)[l*gA sh+j]?=some y:=by
 have he':∀x∈win xs l n,x.cells.length=gA sh:=λx hx=>uC (he x (WI hx))
 obtain⟨x,h1,h2,h3,h4⟩:=mH he' hj;have h5:=(SW h1).2
 have:=uI (λx hx=>uC (he x hx)) (l+j / gA sh) (j%gA sh) h3
 rw[h5]at this;rw[show(l+j / gA sh)*gA sh+j%gA sh=l*gA sh+j by rw[Nat.add_mul];omega]at this
 rw[this];exact h2
theorem zqq {sh:Sh}{xs:List PV}{a:Option Addr}{cap l r:Nat}(R:RPV M (.sl sh xs) (.slice a xs.length cap))(hlr:l<=r)(hr:r<=xs.length){a':Option Addr}(ha:l<r->a'=a.map (·.add (l*gA sh))){cap':Nat}(hc:r-l<=cap') :
 RPV M (.sl sh (win xs l (r-l))) (.slice a' (r-l) cap'):=by
 by_cases e:l=r
 ·subst e
  simp [win];exact .nils _ _ _
 ·have hlen:(win xs l (r-l)).length=r-l:=TW (by omega)
  cases R with
  | nils=>simp at hr;omega
  | sl _ _ b o cap f hne hcap he hm hr'=>
   rw[ha (by omega)]
   simp only[Option.map_some,wC];have hw:win xs l (r-l)≠[]:=by
    intro e';rw[e']at hlen;simp at hlen;omega
   have:=RPV.sl (M:=M) sh (win xs l (r-l)) b (o+l*gA sh) cap' (λj=>f (l*gA sh+j)) hw (by omega) (λx hx=>he x (WI hx))
    (λj y hy=>by rw[Nat.add_assoc];exact hm _ y (z7X he hy)) (λj y hy=>hr' _ y (z7X he hy))
   rwa [hlen]at this
theorem zaT {sh:Sh}{xs:List PV}{y:Value}(R:RPV M (.sl sh xs) y):∃a cap,y = .slice a xs.length cap/\xs.length<=cap:=by
 cases R with
 | nils _ a cap=>exact⟨a,cap,rfl,Nat.zero_le _⟩
 | sl _ _ b o cap f hne hc he hm hr=>exact⟨_,cap,rfl,hc⟩
theorem z9u {id g off len:Nat}{x:Value}(R:RAV M h μ (.own id g off len) x):∃a cap sh xs fz m,x = .slice a len cap/\len<=cap/\h[id]?=some (.row sh xs fz)/\μ[id]?=some m/\g<=xs.length/\off+len<=g/\(g=xs.length->vF m (gA sh) off a cap):=by
 cases R with|own _ _ _ _ a cap sh xs fz m hl ho hm hg hgl hv=>exact⟨a,cap,sh,xs,fz,m,rfl,hl,ho,hm,hg,hgl,hv⟩
theorem nN {sh:Sh}{x:Value}(R:RAV M h μ (.sl0 sh) x):∃a,x = .slice a 0 0:=by
 cases R with|sl0 _ a=>exact⟨a,rfl⟩
theorem zqr {t:TypeId}{sh:Sh}(hc:oJ P t sh=true){ev:Opd->AV}{ρ:Operand->Value}{p:Opd}{q:Operand}{lo hi mx:Option Opd}{lo' hi' mx':Option Operand}{v:AV}{h1:aA}{e:Esc}(H:HeapRel h μ w)
 (R:wE (imm h μ w) h μ ev ρ) (hp:JA p q=true) (g1:sC lo lo'=true) (g2:sC hi hi'=true) (g3:sC mx mx'=true) (g4:mx.isSome=true->hi.isSome=true)
 (he:aop (.slice sh p lo hi mx) ev h=some (v,h1,e)):lA P (do pure (.value (<-Instr.sliceAt t (ρ q) (lo'.map ρ) (hi'.map ρ) (mx'.map ρ)))) h μ w v h1 e:=by
 have Rp:=R p q hp
 simp only[aop,Option.map_eq_some_iff,Prod.mk.injEq]at he;obtain⟨v',hv,rfl,rfl,rfl⟩:=he;have slc:∀{a:Option Addr} {len cap:Nat} {l r m:Nat},ρ q = .slice a len cap->bnd ev 0 lo=some l->bnd ev len hi=some r->bnd ev len mx=some m->l<=r->r<=m->m<=len->len<=cap ->
  (Instr.sliceAt t (ρ q) (lo'.map ρ) (hi'.map ρ) (mx'.map ρ)).run P w = .ok (.slice (if(if mx.isSome then m else cap)=l then a else a.map (·.add (l*gA sh))) (r-l) ((if mx.isSome then m else cap)-l)) w:=by
  intro a len cap l r m hq b1 b2 b3 hlr hrm hml hlc;unfold oJ at hc;split at hc
  ·rename_i el hu
   simp only[beq_iff_eq]at hc;unfold Instr.sliceAt;rw[Sem.run_bind,TA hu];simp only[Result.andThen_ok];unfold Instr.slice;rw[Sem.run_bind,TA hu,hq];simp only[Result.andThen_ok,Sem.run_bind];rw[z9Y R g1 g2 g3 b1 b2 (m:=m) (cap:=cap) (λx hx=>by rw[hx]at b3;exact b3) hlr hrm (by omega) g4 (λhx=>by rw[hx]at b3;simpa [bnd] using b3.symm) hlc]
   simp only[Result.andThen_ok,sE hc,Sem.run_pure]
  ·cases hc
 unfold asl at hv;split at hv
 ·rename_i sh' xs hx
  rw[hx]at Rp;split at hv
  ·rename_i l r m b1 b2 b3
   split at hv
   ·rename_i hb
    obtain⟨rfl,c1,c2,c3⟩:=hb;simp at hv;have Ri:=Rp.p_inv
    obtain⟨a,cap,hq,hcap⟩:=zaT Ri;refine lA.pure H (yA (slc hq b1 b2 b3 c1 c2 c3 hcap)) ?_;by_cases hmm:mx.isSome=true/\m=l
    ·rw[if_pos hmm]at hv
     subst hv;have hrl:r=l:=by omega
     subst hrl;rw[hmm.1];simp [hmm.2];exact .sl0 _ _
    ·rw[if_neg hmm]at hv
     subst hv;have hcm:r<=(if mx.isSome=true then m else cap):=by split <;> omega
     generalize hM:(if mx.isSome=true then m else cap)=M' at *;exact .p _ _ (zqq (hq ▸ Ri) c1 (by omega) (λhlr=>by rw[if_neg (by omega)]) (by omega))
   ·cases hv
  ·cases hv
 ·rename_i sh' hx
  rw[hx]at Rp;split at hv
  ·rename_i l r m b1 b2 b3
   split at hv
   ·rename_i hb
    obtain⟨rfl,rfl,rfl⟩:=hb;simp at hv;subst hv;obtain⟨a,hq⟩:=nN Rp;refine lA.pure H (yA (slc hq b1 b2 b3 (Nat.le_refl _) (Nat.le_refl _) (Nat.le_refl _) (Nat.le_refl _))) ?_;simp;exact .sl0 _ _
   ·cases hv
  ·cases hv
 ·rename_i id g off len hx
  rw[hx]at Rp;split at hv
  ·rename_i rsh xs fz ho
   split at hv
   ·rename_i l r m b1 b2 b3
    split at hv
    ·rename_i hb
     obtain⟨rfl,c1,c2,c3,c4,c5⟩:=hb;simp at hv;obtain⟨a,cap,sh2,xs2,fz2,mm,hq,hl,ho2,hm2,hgx,hgl,hval⟩:=z9u Rp;rw[ho]at ho2;injection ho2 with ho2;injection ho2 with e1 e2 e3
     subst e1;subst e2;subst e3
     refine lA.pure H (yA (slc hq b1 b2 b3 c3 c4 c5 hl)) ?_;by_cases hmm:mx.isSome=true/\m=l
     ·rw[if_pos hmm]at hv
      subst hv;have hrl:r=l:=by omega
      subst hrl;rw[hmm.1];simp [hmm.2];exact .sl0 _ _
     ·rw[if_neg hmm]at hv
      subst hv;have hcm:l<=(if mx.isSome=true then m else cap)/\r<=(if mx.isSome=true then m else cap)/\(if mx.isSome=true then m else cap)<=cap:=by split <;> omega
      generalize hM:(if mx.isSome=true then m else cap)=M' at *;refine .own id g (off+l) (r-l) _ _ rsh xs fz mm (by omega) ho hm2 hgx (by omega) (λhge=>?_)
      have hv2:=hval hge
      unfold vF at hv2 ⊢;split at hv2
      ·omega
      ·rename_i b n
       rcases hv2 with hv2|⟨rfl,hv2⟩
       ·left;omega
       ·by_cases hMl:M'=l
        ·left;omega
        ·right
         rw[if_neg hMl];simp only[Option.map_some,wC,Option.some.injEq,Addr.mk.injEq,true_and,and_true];refine⟨by rw[Nat.add_mul],?_⟩
         have:(off+l+(M'-l))*gA rsh<=(off+cap)*gA rsh:=Nat.mul_le_mul_right _ (by omega)
         omega
    ·cases hv
   ·cases hv
  ·cases hv
 ·cases hv
theorem zqs {t:TypeId}(hc:EK P t=true){ev:Opd->AV}{ρ:Operand->Value}{p:Opd}{q:Operand}{lo hi:Option Opd}{lo' hi':Option Operand}{v:AV}{h1:aA}{e:Esc}(H:HeapRel h μ w)
 (R:wE (imm h μ w) h μ ev ρ) (hp:JA p q=true) (g1:sC lo lo'=true) (g2:sC hi hi'=true)
 (he:aop (.slstr p lo hi) ev h=some (v,h1,e)):lA P (do pure (.value (<-Instr.sliceAt t (ρ q) (lo'.map ρ) (hi'.map ρ) none))) h μ w v h1 e:=by
 have Rp:=R p q hp
 simp only[aop]at he;split at he
 ·rename_i s hx
  rw[hx]at Rp;split at he
  ·rename_i l r b1 b2
   split at he
   ·rename_i hb
    simp at he;obtain⟨rfl,rfl,rfl⟩:=he;rw[Rp.p_str];unfold EK at hc;split at hc
    ·rename_i hu
     refine lA.pure H (yA (u:=.string ⟨(win s l (r-l)).toArray⟩) ?_) (.p _ _ (.str _));unfold Instr.sliceAt;rw[Sem.run_bind,TA hu];simp only[Result.andThen_ok];unfold Instr.slice;rw[Sem.run_bind,TA hu];have hsz:(⟨s.toArray⟩:ByteArray).size=s.length:=by simp [ByteArray.size]
     have:=z9Y (P:=P) (w:=w) (isS:=false) R g1 g2 (mx:=none) (mx':=none) rfl (len:=s.length) (cap:=s.length) b1 b2 (m:=s.length) (by simp) hb.1 hb.2 (Nat.le_refl _) (by simp) (λ_=>rfl) (Nat.le_refl _)
     simp only[Option.map_none]at this;simp only[Result.andThen_ok,Option.isSome_none,Bool.false_eq_true,if_false,Sem.run_bind,Sem.run_pure,hsz,this];congr 2
     apply ByteArray.ext
     simp [ByteArray.data_extract,win,List.extract_eq_take_drop]
    ·cases hc
   ·cases he
  ·cases he
 ·cases he
end
section
variable {h h':aA} {μ μ':Mu} {w w':World} {P:Program} {M M':Mem}
def fE (M:Mem)(sh:Sh)(xs:List PV)(c:Array Value):Prop:=
 xs.length*gA sh<=c.size/\(∀x∈xs,x.shp sh=true)/\∀(i j:Nat) (x y:PV),xs[i]?=some x->x.cells[j]?=some y->∃v,c[i*gA sh+j]?=some v/\RPV M y v
theorem fE.mono (hM:M.le M'){sh:Sh}{xs:List PV}{c:Array Value}(H:fE M sh xs c):fE M' sh xs c:=
 ⟨H.1,H.2.1,λi j x y hx hy=>by obtain⟨v,h1,h2⟩:=H.2.2 i j x y hx hy;exact⟨v,h1,h2.mono hM⟩⟩
theorem fE.set {sh:Sh}{xs:List PV}{c:Array Value}(H:fE M sh xs c){i:Nat}{v:PV}{vs:List Value}(hi:i<xs.length)(hv:v.shp sh=true)(hl:vs.length=gA sh)
 (hr:∀(j:Nat) (y:PV),v.cells[j]?=some y->∃u,vs[j]?=some u/\RPV M y u):fE M sh (xs.set i v) (yB c (i*gA sh) vs):=by
 have hb:i*gA sh+vs.length<=c.size:=by
  have:(i+1)*gA sh<=xs.length*gA sh:=Nat.mul_le_mul_right _ hi
  rw[Nat.add_mul,Nat.one_mul]at this;have:=H.1;omega
 refine⟨by rw[oG];simpa using H.1,λx hx=>?_,λi2 j z u hz hu=>?_⟩
 ·rcases List.mem_or_eq_of_mem_set hx with hx|rfl
  ·exact H.2.1 x hx
  ·exact hv
 ·rw[zH _ _ _ _ hb]
  rcases fG hz with⟨hne,hz⟩|⟨rfl,rfl,_⟩
  ·have hj:j<gA sh:=by
    have:=uC (H.2.1 z (List.mem_of_getElem? hz));have:=IA hu;omega
   rw[if_neg]
   ·exact H.2.2 i2 j z u hz hu
   ·rintro⟨q1,q2⟩
    exact z9R (j:=i2*gA sh+j-i*gA sh) (k:=j) hne (by omega) hj (by omega)
  ·have hj:j<gA sh:=by have:=uC hv;have:=IA hu;omega
   rw[if_pos (by omega)]
   obtain⟨u',q1,q2⟩:=hr j u hu;exact⟨u',by rw[<-q1];congr 1;omega,q2⟩
def MN (P:Program)(e:TypeId)(sh:Sh)(z:PV):Bool:=match P.info? e with
 | some i=>match i.zero with
  | some v=>qJ (.p z) v&&z.shp sh&&i.size==gA sh
  | none=>false
 | none=>false
theorem z4k {e:TypeId}{sh:Sh}{z:PV}(hc:MN P e sh z=true):∃i v,P.info? e=some i/\i.zero=some v/\i.size=gA sh/\z.shp sh=true/\v.cells.size=gA sh /\
 ∀(M:Mem) (j:Nat) (y:PV),z.cells[j]?=some y->∃u,v.cells[j]?=some u/\RPV M y u:=by
 unfold MN at hc;split at hc
 ·rename_i i hi
  split at hc
  ·rename_i v hv
   simp only[Bool.and_eq_true,beq_iff_eq]at hc;obtain⟨⟨h1,h2⟩,h3⟩:=hc;have hall:z.cells.all PV.sc=true:=by rw[List.all_eq_true];exact JW h2
   have R:∀M:Mem,RPV M z v:=λM=>(wR (M:=M) (h:=[]) (μ:=[]) h1).p_inv
   have hs:=HV (R ⟨λ_ _=>none,λ_=>none,none,λ_=>none⟩) hall
   refine⟨i,v,hi,hv,h3,h2,by rw[hs.1,uC h2],λM j y hy=>(HV (R M) hall).2.1 j y hy⟩
  ·cases hc
 ·cases hc
theorem vQ {e:TypeId}{i:TypeInfo}{v:Value}(hi:P.info? e=some i)(hv:i.zero=some v):(zeroValue e).run P w = .ok v w:=by
 unfold zeroValue;rw[Sem.run_bind,xH hi];simp [hv]
theorem zo0 {α:Type}{n i:Nat}{a x:α}(hx:(List.replicate n a)[i]?=some x):i<n/\x=a:=by
 have hi:i<n:=by simpa using IA hx
 rw[List.getElem?_replicate,if_pos hi]at hx;exact⟨hi,by simpa using hx.symm⟩
theorem z4j {sh:Sh}{z:PV}{zc:Array Value}{n N:Nat}(hz:z.shp sh=true)(hsz:zc.size=gA sh)(hr:∀ (j:Nat) (y:PV),z.cells[j]?=some y->∃ u,zc[j]?=some u/\RPV M y u)(hN:n*gA sh<=N) :
 fE M sh (List.replicate n z) ((Array.range N).map (λk=>zc[k%zc.size]!)):=by
 refine⟨by simpa using hN,λx hx=>by rw[List.eq_of_mem_replicate hx];exact hz,λi j x y hx hy=>?_⟩
 obtain⟨hi,rfl⟩:=zo0 hx;have hj:j<gA sh:=by have:=uC hz;have:=IA hy;omega
 obtain⟨u,h1,h2⟩:=hr j y hy;refine⟨u,?_,h2⟩;have hlt:i*gA sh+j<N:=by
  have:(i+1)*gA sh<=n*gA sh:=Nat.mul_le_mul_right _ hi
  rw[Nat.add_mul,Nat.one_mul]at this;omega
 simp only[Array.getElem?_map,Array.getElem?_range,hlt,if_true,Option.map_some,hsz];rw[Nat.mul_comm,Nat.mul_add_mod,Nat.mod_eq_of_lt hj,getElem!_def,h1]
theorem z9E:Array.range 0 = #[]:=by simp [Array.range]
def aK:List (Nat × Opd)->List (Nat × Operand)->Bool
 | [],[]=>true
 | a::r,b::s=>a.1==b.1&&JA a.2 b.2&&aK r s
 | _,_=>false
theorem z7M {ev:Opd->AV}{ρ:Operand->Value}{sh:Sh}:∀{ps:List (Nat×Opd)} {qs:List (Nat×Operand)} {h h':aA} {xs xs':List PV} {c:Array Value},
 HeapRel h μ w->wE (imm h μ w) h μ ev ρ->aK ps qs=true->fE (imm h μ w) sh xs c->mE ev sh ps h xs=some (xs',h') ->
 NF h μ w h'/\xs'.length=xs.length/\∃c',Instr.fill (λi=>some (i*gA sh,gA sh)) c (qs.map λy=>(y.1,ρ y.2))=some c'/\c'.size=c.size/\fE (imm h' μ w) sh xs' c'
 | [],[],h,h',xs,xs',c,H,R,_,hc,e=>by
  simp [mE]at e;obtain⟨rfl,rfl⟩:=e;exact⟨⟨H,Evo.refl _ _ _,rA.refl _ _⟩,rfl,c,rfl,rfl,hc⟩
 | [],_::_,_,_,_,_,_,_,_,e,_,_=>by simp [aK]at e
 | _::_,[],_,_,_,_,_,_,_,e,_,_=>by simp [aK]at e
 | (i,x)::r,(i',y)::s,h,h',xs,xs',c,H,R,hk,hc,e=>by
  simp only[aK,Bool.and_eq_true,beq_iff_eq]at hk;obtain⟨⟨rfl,k2⟩,k3⟩:=hk;simp only[mE]at e;split at e
  ·rename_i v h1 hp
   split at e
   ·rename_i hb
    obtain⟨⟨a1,a2,a3⟩,a4⟩:=MV _ H (R x y k2) hp;have hall:v.cells.all PV.sc=true:=by rw[List.all_eq_true];exact JW hb.1
    obtain⟨s1,s2,s3⟩:=HV a4 hall;have hrow:=(hc.mono a2.le).set (vs:=(ρ y).cells.toList) hb.2 hb.1 (by simp [s1,uC hb.1]) (λj z hz=>by obtain⟨u,q1,q2⟩:=s2 j z hz;exact⟨u,by simpa using q1,q2⟩)
    obtain⟨⟨b1,b2,b3⟩,b4,c',b5,b6,b7⟩:=z7M a1 (λp q hpq=>(R p q hpq).evo a2) k3 hrow e
    refine⟨⟨b1,a2.trans b2,by simpa using rA.trans a3 b3⟩,by simpa using b4,c',?_,by rw[b6,oG],b7⟩
    simp only[List.map_cons,Instr.fill];have hsz:(i+1)*gA sh<=xs.length*gA sh:=Nat.mul_le_mul_right _ hb.2
    rw[Nat.add_mul,Nat.one_mul]at hsz;have hneg:¬((decide ((ρ y).cells.size≠gA sh)||decide (i*gA sh+(ρ y).cells.size>c.size))=true):=by
     have:=hc.1;have:=uC hb.1;simp;omega
    rw[if_neg hneg,z1i];exact b5
   ·cases e
  ·cases e
def SY (P:Program)(sh:Sh)(n:Nat)(z:PV)(ps:List (Nat × Opd))(t:TypeId)(n':Nat)(qs:List (Nat × Operand)):Bool:=match P.underlying t with
 | some (.slice e)=>kB P e==some sh&&MN P e sh z&&n==n'&&decide (n*gA sh<=2^24)&&decide (gA sh≠0)&&aK ps qs
 | _=>false
theorem zem {own:Bool}{sh:Sh}{n n':Nat}{z:PV}{ps:List (Nat × Opd)}{t:TypeId}{qs:Array (Nat × Operand)}(hc:SY P sh n z ps t n' qs.toList=true){ev:Opd->AV}{ρ:Operand->Value}{v:AV}{h1:aA}{e:Esc}
 (H:HeapRel h μ w) (R:wE (imm h μ w) h μ ev ρ) (he:aop (.bsl own sh n z ps) ev h=some (v,h1,e)) :
 lA P (do pure (.value (<-Instr.buildSlice t n' (qs.map λ(i,x)=>(i,ρ x))))) h μ w v h1 e:=by
 unfold SY at hc;split at hc
 ·rename_i el hu
  simp only[Bool.and_eq_true,beq_iff_eq,decide_eq_true_eq]at hc;obtain⟨⟨⟨⟨⟨c1,c2⟩,rfl⟩,c4⟩,c5⟩,c6⟩:=hc;obtain⟨i,zv,z1,z2,z3,z4,z5,z6⟩:=z4k c2;simp only[aop]at he;split at he
  ·rename_i xs h2 hf
   split at he
   ·cases he
   ·injection he with he
    have hrow0:fE (imm h μ w) sh (List.replicate n z) ((Array.range (n*gA sh)).map (λk=>zv.cells[k%zv.cells.size]!)):=z4j z4 z5 (z6 _) (Nat.le_refl _)
    obtain⟨hp,hlen,c',f1,f2,f3⟩:=z7M H R c6 hrow0 hf;simp at hlen;have hrun:(Instr.buildSlice t n (qs.map λ(i,x)=>(i,ρ x))).run P w = .ok (.slice (some ⟨w.heap.size,0,none⟩) n n) { w with heap:=w.heap.push (.cells c' el (0,0)) }:=by
     unfold Instr.buildSlice;rw[Sem.run_bind,TA hu];simp only[Result.andThen_ok,Sem.run_bind,sE c1];rw[if_neg (by omega)]
     have hq:(Array.map (λx=>(x.fst,ρ x.snd)) qs).toList=qs.toList.map λy=>(y.1,ρ y.2):=by simp
     by_cases hn:n*gA sh=0
     ·have hn0:n=0:=by
       rcases Nat.eq_zero_or_pos n with h0|h0
       ·exact h0
       ·have:0<n*gA sh:=Nat.mul_pos h0 (by omega);omega
      subst hn0;have hqs:qs.toList=[]:=by
       cases ps with
       | nil=>cases hqq:qs.toList with
        | nil=>rfl
        | cons a b=>rw[hqq]at c6;simp [aK]at c6
       | cons a b=>simp [mE]at hf;split at hf <;> simp at hf
      have hc0:c' = #[]:=by apply Array.eq_empty_of_size_eq_zero;rw[f2];simp
      subst hc0;simp [hqs,Instr.fill,nG,z9E]
     ·simp only[hn,if_false,Sem.run_bind,vQ z1 z2,Result.andThen_ok,Sem.run_pure,hq,f1,nG]
    have hsz:c'.size=n*gA sh:=by rw[f2];simp
    have hB:gB { w with heap:=w.heap.push (.cells c' el (0,0)) } w.heap.size c'.size c':=gB.push c' el
    cases own with
    | false=>
     simp only[cond_false,Prod.mk.injEq]at he;obtain⟨rfl,rfl,rfl⟩:=he;refine lA.after hp (lA.ext hp.1 (WExt.push w _) (yA hrun) ?_);have:=zmj (cap:=n) hp.1 (WExt.push w (.cells c' el (0,0))) (Nat.le_refl _) hB (by omega) f3.2.1 f3.2.2
     rw[hlen]at this;exact .p _ _ this
    | true=>
     simp only[cond_true,Prod.mk.injEq]at he;obtain⟨rfl,rfl,rfl⟩:=he;refine lA.after hp ?_;obtain⟨n1,n2⟩:=LJ hp.1 (WExt.push w (.cells c' el (0,0))) (Nat.le_refl _) (by simp) hB (by rw[hsz,hlen];exact Nat.le_refl _) f3.2.1 f3.2.2
     refine⟨_,_,_,yA hrun,.inl ⟨_,rfl,?_⟩,n1,n2,rA.push (by simp [Obj.top])⟩
     refine .own h2.length n 0 n _ n sh xs 0 (some (w.heap.size,c'.size)) (Nat.le_refl _) (by simp) (by rw[<-hp.1.len];simp) (by omega) (by omega) (λ_=>?_)
     right;refine⟨by simp,by rw[hsz];simp⟩
  ·cases he
 ·cases hc
def YY (P:Program)(sh:Sh)(z:PV)(t:TypeId):Bool:=match P.underlying t with
 | some (.slice e)=>kB P e==some sh&&MN P e sh z&&decide (gA sh≠0)&&(match P.info? e with|some i=>decide (i.bytes<=256)|none=>false)
 | _=>false
theorem zbv {n:Nat}(hn:n<=LA):IntKind.i64.wrap (n:Int)=(n:Int):=by
 unfold LA at hn;simp [IntKind.wrap,IntKind.bits,IntKind.signed];omega
theorem zlU {sh:Sh}{z:PV}{t:TypeId}(hc:YY P sh z t=true){ev:Opd->AV}{p q:Opd}{x y:Value}{v:AV}{h1:aA}{e:Esc}(H:HeapRel h μ w)(Rp:RAV (imm h μ w) h μ (ev p) x)(Rq:RAV (imm h μ w) h μ (ev q) y)
 (he:aop (.mksl sh z p q) ev h=some (v,h1,e)):lA P (do pure (.value (<-Instr.makeSlice t x y))) h μ w v h1 e:=by
 unfold YY at hc;split at hc
 ·rename_i el hu
  simp only[Bool.and_eq_true,beq_iff_eq,decide_eq_true_eq]at hc;obtain⟨⟨⟨c1,c2⟩,c3⟩,c4⟩:=hc;obtain⟨i,zv,z1,z2,z3,z4,z5,z6⟩:=z4k c2;rw[z1]at c4;simp only[decide_eq_true_eq]at c4;simp only[aop]at he;split at he
  ·rename_i n m hn hm
   split at he
   ·rename_i hb
    simp at he;obtain⟨rfl,rfl,rfl⟩:=he;obtain⟨kk,rfl⟩:=lG hn Rp;obtain⟨kk',rfl⟩:=lG hm Rq;have hrow:fE (imm h μ w) sh (List.replicate n z) ((Array.range (m*gA sh)).map (λk=>zv.cells[k%zv.cells.size]!)):=z4j z4 z5 (z6 _) (Nat.mul_le_mul_right _ hb.1)
    have hrun:(Instr.makeSlice t (.int kk n) (.int kk' m)).run P w = .ok (.slice (some ⟨w.heap.size,0,none⟩) n m) { w with heap:=w.heap.push (.cells ((Array.range (m*gA sh)).map (λk=>zv.cells[k%zv.cells.size]!)) el (0,0)) }:=by
     unfold Instr.makeSlice;rw[Sem.run_bind,TA hu];simp only[Result.andThen_ok,asInt,asIntOf,Sem.run_bind,Sem.run_map,Sem.run_pure,xH z1,zbv hb.2.1,zbv (Nat.le_trans hb.1 hb.2.1)];have hbig:(i.bytes:Int)*(m:Int)<=70368744177664:=by
      have h1:m<=274877906944:=hb.2.1
      have h2:i.bytes*m<=70368744177664:=Nat.mul_le_mul c4 h1
      have h3:=Int.ofNat_le.2 h2
      rwa [Int.natCast_mul]at h3
     rw[if_neg]
     ·simp only[Sem.run_bind,run_askRoom,Result.andThen_ok,sE c1,Int.toNat_natCast]
      by_cases hn0:m*gA sh=0
      ·simp only[hn0,if_true,Sem.run_pure,Result.andThen_ok,nG,z9E]
       simp only[Array.map_empty,List.map_toArray,List.map_nil,Sem.run_bind,Sem.run_pure,Result.andThen_ok];rw[nG];rfl
      ·simp only[hn0,if_false,Sem.run_bind,vQ z1 z2,Result.andThen_ok,Sem.run_pure,nG]
     ·simp
      omega
    have hB:gB { w with heap:=w.heap.push (.cells ((Array.range (m*gA sh)).map (λk=>zv.cells[k%zv.cells.size]!)) el (0,0)) } w.heap.size (m*gA sh) ((Array.range (m*gA sh)).map (λk=>zv.cells[k%zv.cells.size]!)):=by
     have:=gB.push (w:=w) ((Array.range (m*gA sh)).map (λk=>zv.cells[k%zv.cells.size]!)) el
     simpa using this
    obtain⟨n1,n2⟩:=LJ (sh:=sh) (xs:=List.replicate n z) H (WExt.push w (.cells ((Array.range (m*gA sh)).map (λk=>zv.cells[k%zv.cells.size]!)) el (0,0))) (Nat.le_refl _) (by simp) hB (by rw[List.length_replicate];exact Nat.mul_le_mul_right _ hb.1) hrow.2.1 hrow.2.2
    refine⟨_,_,_,yA hrun,.inl ⟨_,rfl,?_⟩,n1,n2,rA.push (by simp [Obj.top])⟩
    refine .own h.length n 0 n _ m sh (List.replicate n z) 0 (some (w.heap.size,m*gA sh)) hb.1 (by simp) (by rw[<-H.len];simp) (by simp) (by omega) (λ_=>?_)
    right;exact⟨by simp,by simp⟩
   ·cases he
  ·cases he
 ·cases hc
end
section
variable {h h':aA} {μ μ':Mu} {w w':World} {P:Program} {M M':Mem}
theorem z1f {xs:List PV}{e:Nat}(he:∀ x∈xs,x.cells.length=e):(xs.flatMap PV.cells).length=xs.length*e:=by
 induction xs with
 | nil=>simp
 | cons x r ih=>
  rw[List.flatMap_cons,List.length_append,he x (by simp),ih (λy hy=>he y (by simp [hy])),List.length_cons,Nat.add_mul]
  omega
def FH (M:Mem)(sh:Sh)(ys:List PV)(c:List Value):Prop:=
 c.length=ys.length*gA sh/\(∀y∈ys,y.shp sh=true)/\∀(j:Nat) (y:PV),(ys.flatMap PV.cells)[j]?=some y->∃v,c[j]?=some v/\RPV M y v
theorem z5t (s:List UInt8):(tA s).flatMap PV.cells=tA s:=by
 induction s with
 | nil=>rfl
 | cons b r ih=>simp only[tA,List.map_cons,List.flatMap_cons]at ih ⊢;rw[ih];rfl
theorem CQ (H:HeapRel h μ w){v:AV}{x:Value}{sh:Sh}{ys:List PV}(R:RAV (imm h μ w) h μ v x)(hr:rds h v=some (sh,ys)) :
 (Builtin.lenOf x).run P w = .ok ys.length w/\∀n,n<=ys.length->∃c,(∀k,(Builtin.firstCells (gA sh) n x).run P { w with drawn:=k } = .ok c { w with drawn:=k })/\FH (imm h μ w) sh (ys.take n) c.toList:=by
 have key:rd h v=some (sh,ys)->(Builtin.lenOf x).run P w = .ok ys.length w/\∀n,n<=ys.length->∃c,(∀k,(Builtin.firstCells (gA sh) n x).run P { w with drawn:=k } = .ok c { w with drawn:=k })/\FH (imm h μ w) sh (ys.take n) c.toList:=by
  intro hr;obtain⟨a,cap,rfl,hcap,hrd⟩:=z9H H R hr;refine⟨by simp [Builtin.lenOf],λn hn=>?_⟩
  by_cases hne:ys=[]
  ·subst hne
   have:n=0:=by simpa using hn
   subst this;refine⟨#[],λk=>?_,by simp,by simp,λj y hy=>by simp at hy⟩
   cases a with
   | none=>simp [Builtin.firstCells]
   | some a=>simp [Builtin.firstCells,loadCells,loadCellsFrom]
  ·obtain⟨b,o,f,rfl,he,hcell⟩:=hrd hne
   have he':∀x∈ys,x.cells.length=gA sh:=λx hx=>uC (he x hx)
   have hfl:=z1f he'
   have hsub:∀(j:Nat) (y:PV),((ys.take n).flatMap PV.cells)[j]?=some y->(ys.flatMap PV.cells)[j]?=some y:=by
    intro j y hy;have:ys.flatMap PV.cells=(ys.take n).flatMap PV.cells++(ys.drop n).flatMap PV.cells:=by rw[<-List.flatMap_append,List.take_append_drop]
    rw[this];exact nH hy
   refine⟨((List.range (n*gA sh)).map f).toArray,λk=>?_,by simp [Nat.min_eq_left hn],λy hy=>he y (List.mem_of_mem_take hy),λj y hy=>?_⟩
   ·simp only[Builtin.firstCells]
    refine z3B (λj hj=>?_)
    have hlt:j<(ys.flatMap PV.cells).length:=by
     rw[hfl];have:n*gA sh<=ys.length*gA sh:=Nat.mul_le_mul_right _ hn
     omega
    exact(hcell j _ (List.getElem?_eq_getElem hlt)).1
   ·have hlt:j<n*gA sh:=by
     have h1:=IA hy
     rw[z1f (λx hx=>he' x (List.mem_of_mem_take hx))]at h1
     simp at h1;rw[Nat.min_eq_left hn]at h1;exact h1
    exact⟨f j,by simp [hlt],(hcell j y (hsub j y hy)).2⟩
 cases v with
 | p pv=>
  cases pv with
  | str s=>
   simp only[rds,Option.some.injEq,Prod.mk.injEq]at hr;obtain⟨rfl,rfl⟩:=hr;rw[R.p_str];refine⟨by simp [Builtin.lenOf,tA,ByteArray.size],λn hn=>?_⟩
   refine⟨((s.take n).map λb=>Value.int .u8 b.toNat).toArray,λk=>?_,by simp [tA,gA],λy hy=>?_,λj y hy=>?_⟩
   ·simp only[Builtin.firstCells]
    have:(ByteArray.extract ⟨s.toArray⟩ 0 n).data=(s.take n).toArray:=by
     simp [ByteArray.data_extract,List.extract_eq_take_drop]
    simp [this]
   ·have:=List.mem_of_mem_take hy
    simp only[tA,List.mem_map]at this;obtain⟨b,_,rfl⟩:=this;rfl
   ·have h2:(tA s).take n=tA (s.take n):=by simp [tA]
    rw[h2,z5t]at hy;simp only[tA,List.getElem?_map,Option.map_eq_some_iff]at hy;obtain⟨b,hb,rfl⟩:=hy;exact⟨.int .u8 b.toNat,by rw[List.getElem?_toArray.symm] <;> simp [<-List.map_take,hb],.int _ _⟩
  | sl sh' xs=>exact key (by simpa [rds] using hr)
  | _=>simp [rds,rd]at hr
 | sl0 sh'=>exact key (by simpa [rds] using hr)
 | own a b c d=>exact key (by simpa only[rds] using hr)
 | _=>simp [rds,rd]at hr
def VE (P:Program)(sh:Sh)(t:TypeId)(u:TypeId):Bool:=match P.underlying t with
 | some (.slice e)=>kB P e==some sh&&(match P.info? e with|some i=>decide (i.bytes<=256)&&decide (0<i.bytes)&&(match i.zero with|some v=>v.cells.size==i.size|none=>false)&&i.size==gA sh|none=>false) &&
  decide (gA sh≠0)&&(match P.underlying u with|some (.int _)=>false|some _=>true|none=>false)
 | _=>false
theorem z87 (n:Nat):∀(r c:Nat),c<=2*n+768->Builtin.growBy n r c<=2*n+768
 | 0,c,hc=>hc
 | r+1,c,hc=>by
  unfold Builtin.growBy;split
  ·exact hc
  ·rename_i h
   exact z87 n r _ (by omega)
theorem zmm {need cap:Nat}(h:cap<need):Builtin.nextslicecap need cap<=2*need+768:=by
 unfold Builtin.nextslicecap;split
 ·omega
 ·split
  ·omega
  ·exact z87 need 4 cap (by omega)
theorem z4Z (need old:Nat)(e:TypeId)(t:Nat):need<=(Question.appendCap need old e).cut t:=by
 simp [Question.cut]
theorem oF {sh:Sh}{t u ty:TypeId}(hc:VE P sh t u=true){base:Option Addr}{sLen sCap n:Nat}{x:Value}{c:Array Value}(hl:(Builtin.lenOf x).run P w = .ok n w)
 (hf:(Builtin.firstCells (gA sh) n x).run P w = .ok c w) (hroom:sLen+n<=sCap) {w':World} (hst:(match base with|some a=>storeCells (a.add (sLen*gA sh)) c.toList|none=>(pure ():Sem Unit)).run P w = .ok () w') :
 (Builtin.append_ #[t,u] ty #[.slice base sLen sCap,x]).run P w = .ok (.slice base (sLen+n) sCap) w':=by
 unfold VE at hc;split at hc
 ·rename_i e hu
  simp only[Bool.and_eq_true,beq_iff_eq,decide_eq_true_eq]at hc;obtain⟨⟨⟨c1,c2⟩,c3⟩,c4⟩:=hc;have hu2:∃d,P.underlying u=some d/\(match d with | .int _=>true|_=>false)=false:=by
   cases hd:P.underlying u with
   | none=>rw[hd]at c4;simp at c4
   | some d=>refine⟨d,rfl,?_⟩;rw[hd]at c4;cases d <;> simp_all
  obtain⟨d,hd1,hd2⟩:=hu2;cases base with
  | none=>
   simp only at hst;have hw:w'=w:=by simpa using hst.symm
   subst hw;cases d <;> first|(exact Bool.noConfusion hd2)|simp only[Builtin.append_,List.getElem?_toArray,List.getElem?_cons_zero,List.getElem?_cons_succ,Sem.run_bind,TA hu,Result.andThen_ok,sE c1,TA hd1,Sem.run_pure,Sem.run_map,hl,Bool.false_eq_true,if_false,hroom,if_true,Bool.not_false,hf]
  | some a=>
   simp only at hst;cases d <;> first|(exact Bool.noConfusion hd2)|simp only[Builtin.append_,List.getElem?_toArray,List.getElem?_cons_zero,List.getElem?_cons_succ,Sem.run_bind,TA hu,Result.andThen_ok,sE c1,TA hd1,Sem.run_pure,Sem.run_map,hl,Bool.false_eq_true,if_false,hroom,if_true,Bool.not_false,hf,hst]
 ·cases hc
theorem z9X {sh:Sh}{t u ty:TypeId}(hc:VE P sh t u=true){base:Option Addr}{sLen sCap n:Nat}{x:Value}{c old:Array Value}(hl:(Builtin.lenOf x).run P w = .ok n w)
 (hf:∀k,(Builtin.firstCells (gA sh) n x).run P { w with drawn:=k } = .ok c { w with drawn:=k }) (hroom:sCap<sLen+n) (hn:sLen+n<=LA)
 (ho:∀k,(Builtin.firstCells (gA sh) sLen (.slice base sLen sCap)).run P { w with drawn:=k } = .ok old { w with drawn:=k }) :
 ∃e newCap rest,P.underlying t=some (.slice e)/\sLen+n<=newCap/\rest.size=(newCap-(sLen+n))*gA sh /\
  (Builtin.append_ #[t,u] ty #[.slice base sLen sCap,x]).run P w = .ok (.slice (some ⟨w.heap.size,0,none⟩) (sLen+n) newCap) { w with drawn:=w.drawn+1,heap:=w.heap.push (.cells (old++c++rest) e (0,0)) }:=by
 unfold VE at hc;split at hc
 ·rename_i e hu
  simp only[Bool.and_eq_true,beq_iff_eq,decide_eq_true_eq]at hc;obtain⟨⟨⟨c1,c2⟩,c3⟩,c4⟩:=hc;have hu2:∃d,P.underlying u=some d/\(match d with | .int _=>true|_=>false)=false:=by
   cases hd:P.underlying u with
   | none=>rw[hd]at c4;simp at c4
   | some d=>refine⟨d,rfl,?_⟩;rw[hd]at c4;cases d <;> simp_all
  obtain⟨d,hd1,hd2⟩:=hu2;have hi2:∃i z,P.info? e=some i/\i.bytes<=256/\0<i.bytes/\i.zero=some z/\z.cells.size=gA sh:=by
   cases hi:P.info? e with
   | none=>rw[hi]at c2;simp at c2
   | some i=>
    rw[hi]at c2;simp only[Bool.and_eq_true,decide_eq_true_eq,beq_iff_eq]at c2;obtain⟨⟨⟨b1,b2⟩,b3⟩,b4⟩:=c2;cases hz:i.zero with
    | none=>rw[hz]at b3;simp at b3
    | some z=>rw[hz]at b3;simp at b3;exact⟨i,z,rfl,b1,b2,hz,by rw[b3,b4]⟩
  obtain⟨i,z,hi,b1,b2,hz,hzs⟩:=hi2;have hcapb:¬(Builtin.nextslicecap (sLen+n) sCap*i.bytes>2^48):=by
   have h1:=zmm hroom
   have h2:sLen+n<=274877906944:=hn
   have h3:Builtin.nextslicecap (sLen+n) sCap*i.bytes<=549755814656*256:=Nat.mul_le_mul (by omega) b1
   omega
  have hno:¬sLen+n<=sCap:=by omega
  have hby0:¬i.bytes=0:=by omega
  refine⟨e,(Question.appendCap (sLen+n) sCap e).cut (w.tape w.drawn (.appendCap (sLen+n) sCap e)),Builtin.zeroCells z.cells ((Question.appendCap (sLen+n) sCap e).cut (w.tape w.drawn (.appendCap (sLen+n) sCap e))-(sLen+n)),hu,z4Z _ _ _ _,?_,?_⟩
  ·rw[size_zeroCells,hzs]
  ·have hforced:(Question.appendCap (sLen+n) sCap e).forced=false:=rfl
   cases d <;> first|(exact Bool.noConfusion hd2)|simp only[Builtin.append_,List.getElem?_toArray,List.getElem?_cons_zero,List.getElem?_cons_succ,Sem.run_bind,TA hu,Result.andThen_ok,sE c1,TA hd1,Sem.run_pure,Sem.run_map,hl,Bool.false_eq_true,if_false,hno,hby0,or_self,and_false,xH hi,hcapb,run_choose,hforced,run_askRoom,hf,ho,vQ hi hz,nG,Bool.not_false,if_true,decide_false,false_or]
 ·cases hc
end
end Go.Am
