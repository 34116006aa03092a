/- Texts of the proof, laid together: Am9, Am10, Am11, Am12, Am13, Am14, Am15, Am16, Am17. -/
import Derived.Laws.MakeOwn
import Derived.Laws.AppendOwn
import Derived.Laws.IdiomStrings
import Derived.Laws.Runes
import Derived.ChangeKeysEq
import Derived.Test.YtahgfbhabpiplaaGreatDoorlawRE0
set_option linter.all false
section
/- The abstract machine,part 9: each operation does in the model what it does here (second lot: boxes,structs,loads,stores). -/
set_option linter.unusedSimpArgs false
set_option linter.unusedVariables false
namespace Go.Am
variable {h h':aA} {μ μ':Mu} {w w':World} {P:Program} {M:Mem}
def zOk:List AV→List Value→Bool
 | [],[]=>true
 | a::r,b::s=>a.sc&&xF a b&&zOk r s
 | _,_=>false
def NE (M:Mem)(h:aA)(μ:Mu)(cs:List AV)(c:Array Value):Prop:=
 c.size=cs.length∧∀(j:Nat) (x:AV),cs[j]?=some x→∃v,c[j]?=some v∧RAV M h μ x v
theorem tX:∀ {cs:List AV} {vs:List Value},zOk cs vs=true→cs.length=vs.length∧∀ (j:Nat) (x:AV),cs[j]?=some x→x.sc=true∧∃ v,vs[j]?=some v∧RAV M h μ x v
 | [],[],_=>⟨rfl,fun j x hx=>by simp at hx⟩
 | [],_::_,e=>by simp [zOk]at e
 | _::_,[],e=>by simp [zOk]at e
 | a::r,b::s,e=>by
  simp only[zOk,Bool.and_eq_true]at e;have ih:=tX e.2
  refine⟨by simp [ih.1],fun j x hx=>?_⟩
  cases j with
  | zero=>simp at hx;subst hx;exact⟨e.1.1,b,rfl,AG e.1.2⟩
  | succ j=>exact ih.2 j x (by simpa using hx)
theorem jF (c:Array Value)(E:TypeId):(newRow E c).run P w = .ok ⟨w.heap.size,0,none⟩ { w with heap:=w.heap.push (.cells c E (0,0)) }:=by
 simp [newRow]
theorem VU (H:HeapRel h μ w){s:Sem Next}{cs:List AV}{c:Array Value}(E:TypeId)(hl:c.size=cs.length)
 (hc:∀(j:Nat) (x:AV),cs[j]?=some x→x.sc=true∧∃v,c[j]?=some v∧RAV (imm h μ w) h μ x v)
 (hr:s.run P w = .ok (.value (.pointer (some ⟨w.heap.size,0,none⟩))) { w with heap:=w.heap.push (.cells c E (0,0)) }) :
 kA P s h μ w (.ref h.length 0) (h++[.box cs]) []:=by
 have hB:QA { w with heap:=w.heap.push (.cells c E (0,0)) } w.heap.size cs.length c:=hl ▸ QA.push c E
 obtain⟨h1,h2⟩:=zeL H (WExt.push w _) (Nat.le_refl _) (by simp) hB hc
 refine⟨_,_,_,hr,.inl ⟨_,rfl,.ref h.length 0 w.heap.size cs.length cs (by simp) (by rw[←H.len];simp)⟩,h1,h2,mA.push ?_⟩
 exact AY H hc
def KJ (P:Program)(z:List AV)(t:TypeId):Bool:=match P.info? t with
 | some i=>match i.zero with
  | some v=>zOk z v.cells.toList
  | none=>false
 | none=>false
theorem z69 {z:List AV}{t:TypeId}(hc:KJ P z t=true)(H:HeapRel h μ w) :
 kA P (do pure (.value (←Instr.alloc t true (.tuple #[])))) h μ w (.ref h.length 0) (h++[.box z]) []:=by
 unfold KJ at hc;split at hc
 ·rename_i i hi
  split at hc
  ·rename_i v hv
   have hz:=tX (M:=imm h μ w) (h:=h) (μ:=μ) hc
   refine VU H (c:=v.cells) t (by rw[hz.1];simp) (fun j x hx=>by simpa using hz.2 j x hx) ?_
   refine sA ?_;unfold Instr.alloc;rw[Sem.run_bind];have:(zeroValue t).run P w = .ok v w:=by
    unfold zeroValue;rw[Sem.run_bind,eG hi];simp [hv]
   rw[this];simp [newVar,jF]
  ·cases hc
 ·cases hc
theorem z7m {t:TypeId}{v:AV}{x:Value}{cs:List AV}(H:HeapRel h μ w)(R:RAV (imm h μ w) h μ v x)(hc:v.cells=some cs) :
 kA P (do pure (.value (←Instr.box t x))) h μ w (.ref h.length 0) (h++[.box cs]) []:=by
 have hs:=tH R hc
 refine VU H (c:=x.cells) t hs.1 hs.2 (sA ?_);simp [Instr.box,newVar,jF]
theorem zcF (vs:List Value):∀(c:Array Value) (off i:Nat),(vs.zipIdx i).foldl (fun cs (y:Value×Nat)=>cs.setIfInBounds (off+y.2) y.1) c=zB c (off+i) vs:=by
 induction vs with
 | nil=>intro c off i;rfl
 | cons v r ih=>
  intro c off i;simp only[List.zipIdx_cons,List.foldl_cons,zB];rw[ih];rfl
theorem z1n (c:Array Value)(off:Nat)(v:Array Value):v.zipIdx.foldl (fun cs (y:Value×Nat)=>cs.setIfInBounds (off+y.2) y.1) c=zB c off v.toList:=by
 rw[←Array.foldl_toList,Array.toList_zipIdx];have:=zcF v.toList c off 0;simpa using this
def eH (place:Nat→Option (Nat × Nat)):List (Nat×Nat×Opd)→List (Nat×Operand)→Bool
 | [],[]=>true
 | a::r,b::s=>place b.1==some (a.1,a.2.1)&&xA a.2.2 b.2&&eH place r s
 | _,_=>false
theorem uL {α:Type}(cs vs:List α)(off j:Nat)(hl:off+vs.length≤cs.length):(splice cs off vs)[j]?=if off≤j∧j<off+vs.length then vs[j-off]? else cs[j]?:=by
 unfold splice;by_cases h1:j<off
 ·rw[List.getElem?_append_left (by simp;omega),List.getElem?_append_left (by simp;omega),List.getElem?_take,if_pos h1,if_neg (by omega)]
 ·by_cases h2:j<off+vs.length
  ·rw[List.getElem?_append_left (by simp;omega),List.getElem?_append_right (by simp;omega),if_pos (by omega)]
   simp [Nat.min_eq_left (show off≤cs.length by omega)]
  ·rw[List.getElem?_append_right (by simp;omega),if_neg (by omega),List.getElem?_drop]
   congr 1
   simp;omega
theorem tJ {α:Type}(cs vs:List α)(off:Nat)(hl:off+vs.length≤cs.length):(splice cs off vs).length=cs.length:=by
 unfold splice;simp;omega
theorem NE.splice {cs vs:List AV}{c:Array Value}{xs:List Value}{off:Nat}(hc:NE M h μ cs c)(hl:vs.length=xs.length)(hb:off+vs.length≤cs.length)
 (hv:∀(j:Nat) (x:AV),vs[j]?=some x→∃v,xs[j]?=some v∧RAV M h μ x v):NE M h μ (splice cs off vs) (zB c off xs):=by
 refine⟨by rw[kF,tJ _ _ _ hb,hc.1],fun j x hx=>?_⟩
 rw[uL _ _ _ _ hb]at hx;rw[jH _ _ _ _ (by rw[hc.1];omega),←hl]
 split at hx
 ·rename_i hj;rw[if_pos hj];exact hv _ x hx
 ·rename_i hj;rw[if_neg hj];exact hc.2 j x hx
theorem HU {ev:Opd→AV}{ρ:Operand→Value}{place:Nat→Option (Nat × Nat)}(R:LC M h μ ev ρ):∀{ps:List (Nat×Nat×Opd)} {qs:List (Nat×Operand)} {cs cs':List AV} {c:Array Value},
 eH place ps qs=true→NE M h μ cs c→ZE ev ps cs=some cs'→∃c',Instr.fill place c (qs.map fun y=>(y.1,ρ y.2))=some c'∧NE M h μ cs' c'
 | [],[],cs,cs',c,_,hc,e=>by simp [ZE]at e;subst e;exact⟨c,rfl,hc⟩
 | [],_::_,_,_,_,e,_,_=>by simp [eH]at e
 | _::_,[],_,_,_,e,_,_=>by simp [eH]at e
 | (off,n,x)::r,(i,y)::s,cs,cs',c,hk,hc,e=>by
  simp only[eH,Bool.and_eq_true,beq_iff_eq]at hk;obtain⟨⟨h1,h2⟩,h3⟩:=hk;simp only[ZE]at e;split at e
  ·rename_i vs hvs
   split at e
   ·rename_i hb
    obtain⟨s1,s2⟩:=tH (R x y h2) hvs;have hc':NE M h μ (splice cs off vs) (zB c off (ρ y).cells.toList):=
     hc.splice (by simp [s1]) (by omega) (fun j x hx=>by obtain⟨_,v,h4,h5⟩:=s2 j x hx;exact⟨v,by simpa using h4,h5⟩)
    obtain⟨c',h4,h5⟩:=HU R h3 hc' e;refine⟨c',?_,h5⟩;simp only[List.map_cons,Instr.fill,h1];have hneg:¬((decide ((ρ y).cells.size≠n)||decide (off+(ρ y).cells.size>c.size))=true):=by have:=hc.1;simp;omega
    rw[if_neg hneg,z1n];exact h4
   ·cases e
  ·cases e
def qL (P:Program):List Field→Option (List (Nat×Nat))
 | []=>some []
 | f::r=>match P.info? f.type,qL P r with
  | some i,some l=>some ((f.offset,i.size)::l)
  | _,_=>none
theorem z3m {t:TypeId}{i:TypeInfo}(hi:P.info? t=some i):(sizeOf t).run P w = .ok i.size w:=by
 unfold sizeOf;rw[Sem.run_bind,eG hi];rfl
def CW (f:Field):Sem (Nat×Nat):=do pure (f.offset,←sizeOf f.type)
theorem z3l:∀ {fs:List Field} {l:List (Nat × Nat)},qL P fs=some l→(fs.mapM CW).run P w = .ok l w
 | [],l,e=>by simp [qL]at e;subst e;rfl
 | f::r,l,e=>by
  simp only[qL]at e;split at e
  ·rename_i i l' hi hl
   simp at e;subst e;rw[List.mapM_cons,Sem.run_bind];have:(CW f).run P w = .ok (f.offset,i.size) w:=by simp [CW,z3m hi]
   rw[this];simp [z3l hl]
  ·cases e
def JR (P:Program)(z:List AV)(ps:List (Nat × Nat × Opd))(t:TypeId)(qs:List (Nat × Operand)):Bool:=
 KJ P z t&&match P.underlying t with
  | some (.struct fs)=>match qL P fs.toList with
   | some l=>eH (l.toArray[·]?) ps qs
   | none=>false
  | some (.array _ e)=>match P.info? e with
   | some i=>eH (fun j=>some (j*i.size,i.size)) ps qs
   | none=>false
  | _=>false
theorem z7p {ev:Opd→AV}{ρ:Operand→Value}{z:List AV}{ps:List (Nat × Nat × Opd)}{t:TypeId}{qs:Array (Nat × Operand)}{cs:List AV}(hc:JR P z ps t qs.toList=true)(H:HeapRel h μ w)
 (R:LC (imm h μ w) h μ ev ρ) (he:ZE ev ps z=some cs) :
 kA P (do pure (.value (←Instr.build t (qs.map fun(i,x)=>(i,ρ x))))) h μ w (mkA cs) h []:=by
 unfold JR at hc;rw[Bool.and_eq_true]at hc;obtain⟨hz,hc⟩:=hc;unfold KJ at hz;split at hz
 ·rename_i i hi
  split at hz
  ·rename_i v hv
   have hz:=tX (M:=imm h μ w) (h:=h) (μ:=μ) hz
   have hzero:(zeroValue t).run P w = .ok v w:=by
    unfold zeroValue;rw[Sem.run_bind,eG hi];simp [hv]
   have hz':NE (imm h μ w) h μ z v.cells:=⟨by rw[hz.1];simp,fun j x hx=>by obtain⟨_,v,h1,h2⟩:=hz.2 j x hx;exact⟨v,by simpa using h1,h2⟩⟩
   have fin:∀c',NE (imm h μ w) h μ cs c'→RAV (imm h μ w) h μ (mkA cs) (.agg c'):=by
    intro c' hc';have:=TU (M:=imm h μ w) (h:=h) (μ:=μ) (cs:=cs) (vs:=c'.toList) (by simp [hc'.1]) (fun j y v hy hv=>by
     obtain⟨v',h1,h2⟩:=hc'.2 j y hy;simp at hv;rw[h1]at hv;injection hv with hv;subst hv;exact h2)
    simpa using this
   split at hc
   ·rename_i fs hu
    split at hc
    ·rename_i l hl
     obtain⟨c',h1,h2⟩:=HU R hc hz' he;refine kA.pure H (sA ?_) (fin c' h2);unfold Instr.build;rw[Sem.run_bind,hzero];simp only[Result.andThen_ok];rw[Sem.run_bind,AA hu];have hp:(fs.toList.mapM fun(f:Field)=>(do pure (f.offset,←sizeOf f.type):Sem (Nat×Nat))).run P w = .ok l w:=z3l hl
     simp only[Result.andThen_ok,Array.mapM_eq_mapM_toList,Sem.run_bind,Sem.run_map];rw[hp];have:(Array.map (fun x=>(x.fst,ρ x.snd)) qs).toList=qs.toList.map fun y=>(y.1,ρ y.2):=by simp
     simp only[Result.andThen_ok,this,h1,Sem.run_pure]
    ·cases hc
   ·rename_i len e hu
    split at hc
    ·rename_i ie hie
     obtain⟨c',h1,h2⟩:=HU R hc hz' he;refine kA.pure H (sA ?_) (fin c' h2);unfold Instr.build;rw[Sem.run_bind,hzero];simp only[Result.andThen_ok];rw[Sem.run_bind,AA hu];simp only[Result.andThen_ok,Sem.run_bind,z3m hie];have:(Array.map (fun x=>(x.fst,ρ x.snd)) qs).toList=qs.toList.map fun y=>(y.1,ρ y.2):=by simp
     rw[this];simp [h1]
    ·cases hc
   ·cases hc
  ·cases hz
 ·cases hz
theorem kM {sh:Sh}{off:Nat}{cs:List AV}{v:AV}{f:Nat→Value}(hc:cut sh off cs=some v)(hf:∀ (j:Nat) (x:AV),cs[j]?=some x→RAV M h μ x (f j)) :
 off+gA sh≤cs.length∧RAV M h μ v (oC sh fun j=>f (off+j)):=by
 cases sh with
 | none=>
  simp only[cut]at hc;exact⟨by have:=tA hc;simp [gA];omega,hf off v hc⟩
 | some n=>
  simp only[cut]at hc;split at hc
  ·rename_i hl
   simp at hc;subst hc;refine⟨hl,TU (by simp;omega) (fun j y v hy hv=>?_)⟩
   rw[List.getElem?_take]at hy;split at hy
   ·rename_i hj
    rw[List.getElem?_drop]at hy;rw[List.getElem?_map,List.getElem?_range hj]at hv;simp at hv;subst hv;exact hf _ y hy
   ·cases hy
  ·cases hc
theorem jM {sh:Sh}{off:Nat}{v u:PV}{f:Nat→Value}(hc:qB sh off v=some u)(hf:∀ (j:Nat) (x:PV),v.cells[j]?=some x→RPV M x (f j)) :
 off+gA sh≤v.cells.length∧RPV M u (oC sh fun j=>f (off+j)):=by
 unfold qB at hc;split at hc
 ·rename_i cs
  cases sh with
  | none=>
   simp only[Option.bind_eq_some_iff]at hc;obtain⟨z,hz,hc⟩:=hc;split at hc <;> simp at hc
   subst hc;exact⟨by have:=tA hz;simp [gA,PV.cells];omega,hf off z (by simpa [PV.cells] using hz)⟩
  | some n=>
   dsimp only at hc;split at hc
   ·rename_i hl
    simp at hc;subst hc;refine⟨by simpa [PV.cells,gA] using hl,.agg _ _ (by simp;omega) (fun j y v hy hv=>?_)⟩
    rw[List.getElem?_take]at hy;split at hy
    ·rename_i hj
     rw[List.getElem?_drop]at hy;rw[List.getElem?_map,List.getElem?_range hj]at hv;simp at hv;subst hv;exact hf _ y (by simpa [PV.cells] using hy)
    ·cases hy
   ·cases hc
 ·rename_i hne
  split at hc
  ·simp at hc
   subst hc;have:v.cells=[v]:=by cases v <;> first|rfl|exact absurd rfl (hne _)
   refine⟨by rw[this];simp [gA],?_⟩
   exact hf 0 v (by rw[this];rfl)
  ·cases hc
theorem iE (H:HeapRel h μ w){id:Nat}{o:Obj}(ho:h[id]?=some o):∃m,μ[id]?=some m∧qG (imm h μ w) h μ w o m:=by
 have hl:id<μ.length:=by rw[H.len];exact tA ho
 exact⟨μ[id],List.getElem?_eq_getElem hl,H.obj id o _ ho (List.getElem?_eq_getElem hl)⟩
theorem YP {t:TypeId}{sh:Sh}(hs:PA P t=some sh){b o:Nat}{f:Nat→Value}(hf:∀ j,j<gA sh→w.cell? ⟨b,o+j,none⟩=some (f j)) :
 (Instr.loadAt t (.pointer (some ⟨b,o,none⟩))).run P w = .ok (oC sh f) w:=by
 unfold Instr.loadAt Instr.sureAddr;simp only[Sem.run_bind,Sem.run_pure,Result.andThen_ok];exact z3j hs hf
theorem rY (H:HeapRel h μ w){off id g:Nat}{x:Value}(R:RAV (imm h μ w) h μ (.bt 4 off id g) x){sh:Sh}{cs:List AV}(ho:h[id]?=some (.arow sh cs))(hg:g*gA sh=cs.length) :
 ∃b n c,μ[id]?=some (some (b,n))∧x = .pointer (some ⟨b,off,none⟩)∧QA w b n c∧cs.length≤n∧(∀x∈cs,x.sc=true)∧∀(j:Nat) (x:AV),cs[j]?=some x→∃v,c[j]?=some v∧RAV (imm h μ w) h μ x v:=by
 cases R with|bt4 _ _ _ a o m ho' hm hv=>
 rw[ho]at ho';injection ho' with ho'
 obtain⟨_,q⟩:=hv sh cs ho'.symm;obtain⟨b,n,rfl,rfl⟩:=q hg;obtain⟨k1,c,k2,k3,k4⟩:=H.obj id _ _ ho hm;exact⟨b,n,c,hm,rfl,k2,k3,k1,k4⟩
theorem ze1 {t:TypeId}{sh:Sh}(hs:PA P t=some sh){a:AV}{x:Value}{v:AV}{h1:aA}{e:Esc}(H:HeapRel h μ w)(R:RAV (imm h μ w) h μ a x)(ev:Opd→AV)(p:Opd)(hp:ev p=a)
 (he:aop (.load sh p) ev h=some (v,h1,e)):kA P (do pure (.value (←Instr.loadAt t x))) h μ w v h1 e:=by
 simp only[aop,hp]at he;cases a with
 | ref id off=>
  dsimp only at he;split at he
  ·rename_i cs ho
   simp only[Option.map_eq_some_iff,Prod.mk.injEq]at he;obtain⟨v',hv,rfl,rfl,rfl⟩:=he;obtain⟨m,hm,b,c,rfl,hB,hc⟩:=iE H ho;cases R with|ref _ _ b' n cs' ho' hm'=>
   rw[hm]at hm';injection hm' with hm'
   injection hm' with hm'
   injection hm' with e1 e2
   subst e1;have hf:∀(j:Nat) (x:AV),cs[j]?=some x→RAV (imm h μ w) h μ x ((c[j]?).getD undef):=by
    intro j x hx;obtain⟨_,u,h2,h3⟩:=hc j x hx;rw[h2];exact h3
   obtain⟨hl,hr⟩:=kM hv hf;refine kA.pure H (sA (YP hs (f:=fun j=>(c[off+j]?).getD undef) (fun j hj=>?_))) ?_
   ·rw[PC hB]
    have:off+j<c.size:=by rw[hB.1];omega
    simp [this]
   ·cases sh <;> exact hr
  ·cases he
 | rref id g i off=>
  dsimp only at he;split at he
  ·rename_i rsh xs fz ho
   split at he
   ·rename_i hg
    simp only[Option.map_eq_some_iff,Prod.mk.injEq,Option.bind_eq_some_iff]at he;obtain⟨v',⟨y,hy,hv⟩,rfl,rfl,rfl⟩:=he;obtain⟨m,hm,h2,h3,h4⟩:=iE H ho;cases R with|rref _ _ _ _ a sh' xs' fz' m' ho' hm' hgg hi hval=>
    rw[ho]at ho';injection ho' with ho';injection ho' with e1 e2 e3
    subst e1;subst e2;subst e3
    rw[hm]at hm';injection hm' with hm';subst hm'
    obtain⟨b,n,rfl,rfl⟩:=hval hg;obtain⟨c,hB,hn,hcell⟩:=h4;have hf:∀(j:Nat) (x:PV),y.cells[j]?=some x→RPV (imm h μ w) x ((c[i*gA rsh+j]?).getD undef):=by
     intro j x hx;obtain⟨u,h5,h6⟩:=hcell i j y x hy hx;rw[h5];exact h6
    obtain⟨hl,hr⟩:=jM hv hf;refine kA.pure H (sA (YP hs (f:=fun j=>(c[i*gA rsh+(off+j)]?).getD undef) (fun j hj=>?_))) ?_
    ·rw[PC hB]
     obtain⟨z,hz⟩:∃z,y.cells[off+j]?=some z:=⟨_,List.getElem?_eq_getElem (by omega)⟩
     obtain⟨u,h5,h6⟩:=hcell i (off+j) y z hy hz;rw[Nat.add_assoc,h5];simp
    ·cases sh <;> exact .p _ _ hr
   ·cases he
  ·cases he
 | vp y=>
  dsimp only at he;simp only[Option.map_eq_some_iff,Prod.mk.injEq]at he;obtain⟨v',hv,rfl,rfl,rfl⟩:=he;cases R with|vp _ b o f hm hr=>
  obtain⟨hl,hr'⟩:=jM hv hr;refine kA.pure H (sA (YP hs (f:=f) (fun j hj=>?_))) ?_
  ·obtain⟨z,hz⟩:∃z,y.cells[j]?=some z:=⟨_,List.getElem?_eq_getElem (by omega)⟩
   exact(tC.1 (hm j z hz)).2
  ·cases sh
   ·exact .p _ _ hr'
   ·simp only[Nat.zero_add]at hr';exact .p _ _ hr'
 | bt k off id g=>
  dsimp only at he;simp only[Option.map_eq_some_iff,Prod.mk.injEq]at he;obtain⟨v',hv,rfl,rfl,rfl⟩:=he;unfold ldA at hv;cases hk:Nat.beq k 4 with
  | false=>rw[hk]at hv;cases hv
  | true=>
   rw[hk]at hv;have hk:=Nat.eq_of_beq_eq_true hk
   subst hk;simp only[cond_true]at hv;split at hv
   ·rename_i rsh cs ho
    split at hv
    ·rename_i hg
     obtain⟨b,n,c,hm,rfl,hB,hn,hs0,hc⟩:=rY H R ho hg;have hf:∀(j:Nat) (x:AV),cs[j]?=some x→RAV (imm h μ w) h μ x ((c[j]?).getD undef):=by
      intro j x hx;obtain⟨u,h2,h3⟩:=hc j x hx;rw[h2];exact h3
     obtain⟨hl,hr⟩:=kM hv hf;refine kA.pure H (sA (YP hs (f:=fun j=>(c[off+j]?).getD undef) (fun j hj=>?_))) ?_
     ·rw[PC hB]
      have:off+j<c.size:=by rw[hB.1];omega
      simp [this]
     ·cases sh <;> exact hr
    ·cases hv
   ·cases hv
 | _=>simp at he
end Go.Am
end
section
/- The abstract machine,part 10: each operation does in the model what it does here (third lot: stores,addresses,comparisons). -/
set_option linter.unusedSimpArgs false
set_option linter.unusedVariables false
namespace Go.Am
variable {h h':aA} {μ μ':Mu} {w w':World} {P:Program} {M:Mem}
theorem TW {t:TypeId}{sh:Sh}(hs:PA P t=some sh){b o n:Nat}{c:Array Value}{x:Value}(hB:QA w b n c)(hsz:x.cells.size=gA sh)(hn:o+x.cells.size≤n)
 (hone:∀v∈x.cells.toList,v.oneCell'=true) :
 ∃E lo hi,w.heap[b]?=some (.cells c E (lo,hi))∧(Instr.storeAt t (.pointer (some ⟨b,o,none⟩)) x).run P w = .ok () (XA w b (.cells (zB c o x.cells.toList) E (lo,hi))):=by
 obtain⟨E,lo,hi,h1,h2⟩:=z3n (P:=P) x.cells.toList w c 0 hB (by simpa using hn) hone
 refine⟨E,lo,hi,h1,?_⟩;unfold Instr.storeAt Instr.sureAddr storeVar;simp only[Sem.run_bind,Sem.run_pure,Result.andThen_ok,JC hs];rw[if_neg (by simp [hsz])]
 simpa using h2
theorem WU {s:Sem Unit}{h':aA}{μ':Mu}{w':World}{x:Esc}(hr:s.run P w = .ok () w')(H:HeapRel h' μ' w')(E:Evo (imm h μ w) h μ (imm h' μ' w') h' μ')(hx:mA h h' x) :
 kA P (do s;pure .skip) h μ w .und h' x:=⟨_,w',μ',ZP hr,.inr ⟨rfl,rfl⟩,H,E,hx⟩
theorem GE {α:Type}{l:List α}{i:Nat}{x:α}(hx:l[i]?=some x):l.set i x=l:=by
 apply List.ext_getElem?
 intro j;by_cases e:i=j
 ·subst e;rw[nC hx,hx]
 ·rw[List.getElem?_set_ne e]
theorem zj8 {t:TypeId}{sh:Sh}(hs:PA P t=some sh){id off:Nat}{cs vs:List AV}{v:AV}{a x:Value}(H:HeapRel h μ w)(R:RAV (imm h μ w) h μ (.ref id off) a)(Rv:RAV (imm h μ w) h μ v x)
 (ho:h[id]?=some (.box cs)) (hv:v.cells=some vs) (hl:vs.length=gA sh) (hb:off+vs.length≤cs.length) :
 kA P (do Instr.storeAt t a x;pure .skip) h μ w .und (h.set id (.box (splice cs off vs))) (BF id cs v):=by
 obtain⟨m,hm,b,c,rfl,hB,hc⟩:=iE H ho;cases R with|ref _ _ b' n cs' ho' hm'=>
 rw[hm]at hm';injection hm' with hm'
 injection hm' with hm'
 injection hm' with e1 e2
 subst e1;obtain⟨s1,s2⟩:=tH Rv hv;have hone:∀u∈x.cells.toList,u.oneCell'=true:=by
  intro u hu;obtain⟨j,hj⟩:=List.getElem?_of_mem hu;have hj2:j<vs.length:=by have:=tA hj;simpa [s1] using this
  obtain⟨h1,u',h2,h3⟩:=s2 j vs[j] (List.getElem?_eq_getElem hj2);rw[Array.getElem?_toList,h2]at hj;injection hj with hj
  subst hj;exact dQ h3 h1
 obtain⟨E,lo,hi,g1,g2⟩:=TW hs hB (by rw[s1,hl]) (by rw[s1];exact hb) hone
 have hcs:NE (imm h μ w) h μ cs c:=⟨hB.1,fun j y hy=>by obtain⟨_,u,p,q⟩:=hc j y hy;exact⟨u,p,q⟩⟩
 have hnew:=hcs.splice (xs:=x.cells.toList) (by simp [s1]) hb (fun j y hy=>by obtain⟨_,u,p,q⟩:=s2 j y hy;exact⟨u,by simpa using p,q⟩)
 have hμ:μ.set id (some (b,cs.length))=μ:=GE hm
 have hlo:¬False→lo<hi→cs.length≤lo:=by
  obtain⟨_,E',lo',hi',q1,q2⟩:=hB;rw[g1]at q1;injection q1 with q1;injection q1 with _ _ q3;injection q3 with q3 q4;subst q3;subst q4;exact q2
 have key:=H.set (w':=XA w b (.cells (zB c off x.cells.toList) E (lo,hi))) (o':=.box (splice cs off vs)) (m':=some (b,cs.length)) ho hm ⟨⟨_,rfl⟩,rfl⟩
  rfl (Nat.le_of_eq (oJ _ _).symm) (fun b' _ hb'=>nJ (fun e=>hb' cs.length (by rw[e])))
  (fun b' n e=>.inl ⟨n,e⟩) (fun b' n sh xs fz _ e=>by cases e)
  (fun M' Ev=>⟨b,zB c off x.cells.toList,by rw[tJ _ _ _ hb],⟨by rw[kF,hB.1,tJ _ _ _ hb],E,lo,hi,lE g1,by rw[tJ _ _ _ hb];exact hlo⟩,fun j y hy=>by
   obtain⟨u,p,q⟩:=hnew.2 j y hy;refine⟨?_,u,p,q.evo Ev⟩;rw[uL _ _ _ _ hb]at hy;split at hy
   ·exact(s2 _ y hy).1
   ·exact(hc j y hy).1⟩) (uN g1)
 rw[hμ]at key;refine WU g2 key.1 key.2 (mA.set ho ?_);have:=z4a cs vs off;have:=IY hv;have:=ZJ id v;simp only[Obj.top];unfold BF;cases hq:MF cs&&decide (v.top≤AV.tops cs) with
 | false=>simp only[cond_false];omega
 | true=>
  simp only[Bool.and_eq_true,decide_eq_true_eq]at hq;simp only[cond_true];omega
theorem FP {v:PV}{x:Value}(R:RPV M v x)(hs:v.cells.all PV.sc=true) :
 x.cells.size=v.cells.length∧(∀(j:Nat) (y:PV),v.cells[j]?=some y→∃u,x.cells[j]?=some u∧RPV M y u)∧∀u∈x.cells.toList,u.oneCell'=true:=by
 have hc:∃cs,(AV.p v).cells=some cs∧cs=v.cells.map .p:=by
  cases v <;> simp [AV.cells,PV.cells]
  intro y hy;rw[List.all_eq_true]at hs;exact hs y (by simpa [PV.cells] using hy)
 obtain⟨cs,h1,h2⟩:=hc;obtain⟨s1,s2⟩:=tH (h:=[]) (μ:=[]) (.p v x R) h1;subst h2;refine⟨by simpa using s1,fun j y hy=>?_,fun u hu=>?_⟩
 ·obtain⟨_,u,h3,h4⟩:=s2 j (.p y) (by simp [hy])
  exact⟨u,h3,h4.p_inv⟩
 ·obtain⟨j,hj⟩:=List.getElem?_of_mem hu
  have hj2:j<v.cells.length:=by have:=tA hj;simpa [s1] using this
  obtain⟨h3,u',h4,h5⟩:=s2 j (.p v.cells[j]) (by simp [hj2])
  rw[Array.getElem?_toList,h4]at hj;injection hj with hj
  subst hj;exact dQ h5 h3
theorem z3a {i i' e j k:Nat}(hne:i≠i')(hj:j<e)(hk:k<e):i*e+j≠i'*e+k:=by
 intro hE;rcases Nat.lt_or_ge i i' with h|h
 ·have:(i+1)*e≤i'*e:=Nat.mul_le_mul_right _ h
  rw[Nat.add_mul,Nat.one_mul]at this;omega
 ·have:(i'+1)*e≤i*e:=Nat.mul_le_mul_right _ (by omega)
  rw[Nat.add_mul,Nat.one_mul]at this;omega
theorem z3R {t:TypeId}{sh:Sh}(hs:PA P t=some sh){id g i off:Nat}{xs:List PV}{rsh:Sh}{fz:Nat}{v y y':PV}{a x:Value}(H:HeapRel h μ w)(R:RAV (imm h μ w) h μ (.rref id g i off) a)(Rv:RPV (imm h μ w) v x)
 (ho:h[id]?=some (.row rsh xs fz)) (hg:g=xs.length) (hfz:fz≤i) (hl:v.cells.length=gA sh) (hsc:v.cells.all PV.sc=true) (hy:xs[i]?=some y)
 (hb:off+v.cells.length≤y.cells.length) (hy':y'.cells=splice y.cells off v.cells) (hshp:y'.shp rsh=true) :
 kA P (do Instr.storeAt t a x;pure .skip) h μ w .und (h.set id (.row rsh (xs.set i y') fz)) []:=by
 obtain⟨m,hm,k1,k2,k3⟩:=iE H ho;cases R with|rref _ _ _ _ a' sh' xs' fz' m' ho' hm' hgg hi hval=>
 rw[ho]at ho';injection ho' with ho';injection ho' with e1 e2 e3
 subst e1;subst e2;subst e3
 rw[hm]at hm';injection hm' with hm';subst hm'
 obtain⟨b,n,rfl,rfl⟩:=hval hg;obtain⟨c,hB0,hn,hcell⟩:=k3;obtain⟨s1,s2,s3⟩:=FP Rv hsc;have hil:i<xs.length:=tA hy
 have hB:=hB0.unsl (by omega)
 have hye:y.cells.length=gA rsh:=MB (k2 y (List.mem_of_getElem? hy))
 have hrow:(i+1)*gA rsh≤xs.length*gA rsh:=Nat.mul_le_mul_right _ hil
 rw[Nat.add_mul,Nat.one_mul]at hrow;obtain⟨E,lo,hi',g1,g2⟩:=TW (o:=i*gA rsh+off) hs hB (by rw[s1,hl]) (by rw[s1];omega) s3
 have hlo:¬False→lo<hi'→n≤lo:=by
  obtain⟨_,E',lo',hi'',q1,q2⟩:=hB;rw[g1]at q1;injection q1 with q1;injection q1 with _ _ q3;injection q3 with q3 q4;subst q3;subst q4;exact q2
 have hsz:i*gA rsh+off+x.cells.toList.length≤c.size:=by rw[hB.1];simp [s1];omega
 have hμ:μ.set id (some (b,n))=μ:=GE hm
 have key:=H.set (w':=XA w b (.cells (zB c (i*gA rsh+off) x.cells.toList) E (lo,hi'))) (o':=.row rsh (xs.set i y') fz) (m':=some (b,n)) ho hm ⟨_,fz,rfl,by simp,fun _=>rfl⟩
  rfl (Nat.le_of_eq (oJ _ _).symm) (fun b' _ hb'=>nJ (fun e=>hb' n (by rw[e])))
  (fun b' n e=>.inl ⟨n,e⟩) (fun b' n' sh2 xs2 fz2 e1 e2=>by
   injection e2 with e2 e3 e4
   subst e2;subst e3;subst e4
   injection e1 with e1;injection e1 with e1 _;subst e1
   refine⟨_,fz,rfl,fun j hj=>⟨?_,fun _ _=>hj⟩⟩
   have hB':QA (XA w b (.cells (zB c (i*gA rsh+off) x.cells.toList) E (lo,hi'))) b n (zB c (i*gA rsh+off) x.cells.toList):=⟨by rw[kF,hB.1],E,lo,hi',lE g1,hlo⟩
   rw[PC hB',PC hB,jH _ _ _ _ hsz,if_neg];have:fz*gA rsh≤i*gA rsh:=Nat.mul_le_mul_right _ hfz
   omega)
  (fun M' Ev=>by
   refine⟨by simpa using k1,fun z hz=>?_,zB c (i*gA rsh+off) x.cells.toList,QA.sealed _ ⟨by rw[kF,hB.1],E,lo,hi',lE g1,hlo⟩,by simpa using hn,fun i2 j z u hz hu=>?_⟩
   ·rcases List.mem_or_eq_of_mem_set hz with hz|rfl
    ·exact k2 z hz
    ·exact hshp
   ·rw[jH _ _ _ _ hsz]
    rcases dE hz with⟨hne,hz⟩|⟨rfl,rfl,_⟩
    ·have hj:j<gA rsh:=by
      have:=MB (k2 z (List.mem_of_getElem? hz));have:=tA hu;omega
     have hlo2:¬(i*gA rsh+off≤i2*gA rsh+j∧i2*gA rsh+j<i*gA rsh+off+x.cells.toList.length):=by
      rintro⟨q1,q2⟩
      simp [s1]at q2;exact z3a (j:=i2*gA rsh+j-i*gA rsh) (k:=j) hne (by omega) hj (by omega)
     rw[if_neg hlo2];obtain⟨v',q1,q2⟩:=hcell i2 j z u hz hu;exact⟨v',q1,q2.mono Ev.le⟩
    ·rw[hy',uL _ _ _ _ hb]at hu
     split at hu
     ·rename_i hj
      rw[if_pos (by simp [s1];omega)]
      obtain⟨u',q1,q2⟩:=s2 _ u hu;refine⟨u',?_,q2.mono Ev.le⟩;rw[Array.getElem?_toList,show i*gA rsh+j-(i*gA rsh+off)=j-off by omega]
      exact q1
     ·rename_i hj
      rw[if_neg (by simp [s1];omega)]
      obtain⟨v',q1,q2⟩:=hcell i j y u hy hu;exact⟨v',q1,q2.mono Ev.le⟩) (uN g1)
 rw[hμ]at key;exact WU g2 key.1 key.2 (mA.set ho (by simp [Obj.top]))
theorem zjt {cs vs:List PV}{off:Nat}(h1:cs.all PV.sc=true)(h2:vs.all PV.sc=true):(splice cs off vs).all PV.sc=true:=by
 rw[List.all_eq_true]at *;intro x hx;simp only[splice,List.mem_append]at hx;rcases hx with(hx|hx)|hx
 ·exact h1 x (List.mem_of_mem_take hx)
 ·exact h2 x hx
 ·exact h1 x (List.mem_of_mem_drop hx)
theorem kA.after {s:Sem Next}{v:AV}{h1 h2:aA}{x:Esc}(a:YD h μ w h1)(b:kA P s h1 μ w v h2 x):kA P s h μ w v h2 x:=by
 obtain⟨nx,w',μ',r,q,H,E,I⟩:=b;exact⟨nx,w',μ',r,q,H,a.2.1.trans E,by simpa using mA.trans a.2.2 I⟩
theorem zj7 {t:TypeId}{sh rsh:Sh}(hs:PA P t=some sh){id off g:Nat}{cs vs:List AV}{v:AV}{a x:Value}(H:HeapRel h μ w)(R:RAV (imm h μ w) h μ (.bt 4 off id g) a)(Rv:RAV (imm h μ w) h μ v x)
 (ho:h[id]?=some (.arow rsh cs)) (hg:g*gA rsh=cs.length) (hv:v.cells=some vs) (hl:vs.length=gA sh) (hb:off+vs.length≤cs.length) :
 kA P (do Instr.storeAt t a x;pure .skip) h μ w .und (h.set id (.arow rsh (splice cs off vs))) (GB id v):=by
 obtain⟨b,n,c,hm,rfl,hB,hn,hs0,hc⟩:=rY H R ho hg;obtain⟨s1,s2⟩:=tH Rv hv;have hone:∀u∈x.cells.toList,u.oneCell'=true:=by
  intro u hu;obtain⟨j,hj⟩:=List.getElem?_of_mem hu;have hj2:j<vs.length:=by have:=tA hj;simpa [s1] using this
  obtain⟨h1,u',h2,h3⟩:=s2 j vs[j] (List.getElem?_eq_getElem hj2);rw[Array.getElem?_toList,h2]at hj;injection hj with hj
  subst hj;exact dQ h3 h1
 obtain⟨E,lo,hi,g1,g2⟩:=TW (o:=off) hs hB (by rw[s1,hl]) (by rw[s1];omega) hone
 have hμ:μ.set id (some (b,n))=μ:=GE hm
 have hlo:¬False→lo<hi→n≤lo:=by
  obtain⟨_,E',lo',hi',q1,q2⟩:=hB;rw[g1]at q1;injection q1 with q1;injection q1 with _ _ q3;injection q3 with q3 q4;subst q3;subst q4;exact q2
 have hsz:off+x.cells.toList.length≤c.size:=by rw[hB.1];simp [s1];omega
 have hsl:=tJ cs vs off hb
 have key:=H.set (w':=XA w b (.cells (zB c off x.cells.toList) E (lo,hi))) (o':=.arow rsh (splice cs off vs)) (m':=some (b,n)) ho hm (.inl ⟨_,rfl,by rw[hsl];exact Nat.le_refl _,fun _=>rfl⟩)
  rfl (Nat.le_of_eq (oJ _ _).symm) (fun b' _ hb'=>nJ (fun e=>hb' n (by rw[e])))
  (fun b' n e=>.inl ⟨n,e⟩) (fun b' n sh xs fz _ e=>by cases e)
  (fun M' Ev=>by
   refine⟨fun y hy=>?_,zB c off x.cells.toList,⟨by rw[kF,hB.1],E,lo,hi,lE g1,hlo⟩,by rw[hsl];exact hn,fun j y hy=>?_⟩
   ·obtain⟨j,hj⟩:=List.getElem?_of_mem hy
    rw[uL _ _ _ _ hb]at hj;split at hj
    ·exact(s2 _ y hj).1
    ·exact hs0 y (List.mem_of_getElem? hj)
   ·rw[uL _ _ _ _ hb]at hy
    rw[jH _ _ _ _ hsz];split at hy
    ·rename_i hj
     rw[if_pos (by simp [s1];omega)]
     obtain⟨_,u,p,q⟩:=s2 _ y hy;exact⟨u,by simpa using p,q.evo Ev⟩
    ·rename_i hj
     rw[if_neg (by simp [s1];omega)]
     obtain⟨u,p,q⟩:=hc j y hy;exact⟨u,p,q.evo Ev⟩) (uN g1)
 rw[hμ]at key;refine WU g2 key.1 key.2 (mA.set ho ?_);have:=z4a cs vs off;have:=IY hv;have:=ZJ id v;simp only[Obj.top];omega
theorem zj9 {t:TypeId}{sh:Sh}(hs:PA P t=some sh){a x:Value}{v:AV}{h1:aA}{e:Esc}(H:HeapRel h μ w)(ev:Opd→AV)(p q:Opd)(R:RAV (imm h μ w) h μ (ev p) a)(Rv:RAV (imm h μ w) h μ (ev q) x)
 (he:aop (.store sh p q) ev h=some (v,h1,e)):kA P (do Instr.storeAt t a x;pure .skip) h μ w v h1 e:=by
 simp only[aop]at he;cases hp:ev p with
 | ref id off=>
  rw[hp]at he R;dsimp only at he;split at he
  ·rename_i cs vs ho hv
   split at he
   ·rename_i hc
    simp at he;obtain⟨rfl,rfl,rfl⟩:=he;exact zj8 hs H R Rv ho hv hc.1 hc.2
   ·cases he
  ·cases he
 | rref id g i off=>
  rw[hp]at he R;dsimp only at he;split at he
  ·rename_i pv h2 hpur
   obtain⟨a1,a2⟩:=OP _ H Rv hpur;refine kA.after a1 ?_;split at he
   ·rename_i rsh xs fz ho
    split at he
    ·rename_i hc
     obtain⟨c1,c2,c3,c4⟩:=hc;obtain⟨m,hm,k1,k2,k3⟩:=iE a1.1 ho;split at he
     ·rename_i cs hy
      split at he
      ·rename_i hb
       simp at he;obtain⟨rfl,rfl,rfl⟩:=he;have hk:=k2 _ (List.mem_of_getElem? hy)
       have hall:(PV.agg cs).cells.all PV.sc=true:=by rw[List.all_eq_true];exact eQ hk
       refine z3R hs a1.1 (R.evo a1.2.1) a2 ho c1 c2 c3 c4 hy (y':=.agg (splice cs off pv.cells)) (by simpa [PV.cells] using hb) rfl ?_
       cases rsh with
       | none=>simp [PV.shp,PV.sc]at hk
       | some n=>
        simp only[PV.shp,Bool.and_eq_true,beq_iff_eq]at hk ⊢;exact⟨by rw[tJ _ _ _ hb];exact hk.1,zjt hk.2 c4⟩
      ·cases he
     ·rename_i y hna hy
      split at he
      ·rename_i hb
       simp at he;obtain⟨rfl,rfl,rfl⟩:=he;have hk:=k2 _ (List.mem_of_getElem? hy)
       have hyc:y.cells=[y]:=by cases y <;> first|rfl|exact absurd rfl (hna _)
       have hvc:pv.cells=[pv]:=by cases pv <;> first|rfl|(simp [PV.sc]at hb)
       have hsh:gA sh=1:=by rw[←c3,hvc];rfl
       obtain⟨hb1,hb2⟩:=hb;subst hb1;refine z3R hs a1.1 (R.evo a1.2.1) a2 ho c1 c2 c3 c4 hy (y':=pv) (by rw[hyc,hvc];simp) (by rw[hyc,hvc];simp [splice]) ?_
       cases rsh with
       | none=>exact hb2
       | some n=>cases y <;> first|(simp [PV.shp]at hk;done)|exact absurd rfl (hna _)
      ·cases he
     ·cases he
    ·cases he
   ·cases he
  ·cases he
 | bt k off id g=>
  rw[hp]at he R;dsimp only at he;unfold stA at he;cases hk:Nat.beq k 4 with
  | false=>rw[hk]at he;cases he
  | true=>
   rw[hk]at he;have hk:=Nat.eq_of_beq_eq_true hk
   subst hk;simp only[cond_true]at he;split at he
   ·rename_i rsh cs vs ho hv
    split at he
    ·rename_i hc
     simp at he;obtain⟨rfl,rfl,rfl⟩:=he;exact zj7 hs H R Rv ho hc.1 hv hc.2.1 hc.2.2
    ·cases he
   ·cases he
 | _=>rw[hp]at he;simp at he
end Go.Am
end
section
/- The abstract machine,part 11: addresses,elements,parts,comparisons. -/
set_option linter.unusedSimpArgs false
set_option linter.unusedVariables false
namespace Go.Am
variable {h h':aA} {μ μ':Mu} {w w':World} {P:Program} {M:Mem}
theorem gZ {sh:Sh}{off:Nat}{v u:PV}(hc:qB sh off v=some u):∀(j:Nat) (y:PV),u.cells[j]?=some y→v.cells[off+j]?=some y:=by
 intro j y hy;unfold qB at hc;split at hc
 ·rename_i cs
  cases sh with
  | none=>
   simp only[Option.bind_eq_some_iff]at hc;obtain⟨z,hz,hc⟩:=hc;split at hc <;> simp at hc
   rename_i hsc;subst hc;have:z.cells=[z]:=by cases z <;> first|rfl|(simp [PV.sc]at hsc)
   rw[this]at hy;cases j with
   | zero=>simp at hy;subst hy;simpa [PV.cells] using hz
   | succ j=>simp at hy
  | some n=>
   dsimp only at hc;split at hc
   ·simp at hc
    subst hc;simp only[PV.cells]at hy ⊢;rw[List.getElem?_take]at hy;split at hy
    ·rw[List.getElem?_drop]at hy;exact hy
    ·cases hy
   ·cases hc
 ·split at hc
  ·simp at hc;subst hc;simpa using hy
  ·cases hc
theorem z4n {sh:Sh}{off:Nat}{v u:PV}{b o:Nat}(R:RAV M h μ (.vp v) (.pointer (some ⟨b,o,none⟩)))(hc:qB sh off v=some u):RAV M h μ (.vp u) (.pointer (some ⟨b,o+off,none⟩)):=by
 cases R with|vp _ _ _ f hm hr=>
 refine .vp u b (o+off) (fun j=>f (off+j)) (fun j y hy=>?_) (fun j y hy=>hr _ y (gZ hc j y hy))
 rw[Nat.add_assoc];exact hm _ y (gZ hc j y hy)
def vG (P:Program)(s:TypeId)(field off:Nat)(sh:Sh):Bool:=match P.underlying s with
 | some (.struct fs)=>match fs[field]? with
  | some f=>f.offset==off&&PA P f.type==some sh&&gA sh != 0
  | none=>false
 | _=>false
theorem XP {s:TypeId}{field off:Nat}{sh:Sh}{a:Addr}(hc:vG P s field off sh=true):(Instr.fieldAt s (.pointer (some a)) field).run P w = .ok (.pointer (some (a.add off))) w:=by
 unfold vG at hc;split at hc
 ·rename_i fs hu
  split at hc
  ·rename_i f hf
   simp only[Bool.and_eq_true,beq_iff_eq,bne_iff_ne]at hc;unfold Instr.fieldAt;rw[Sem.run_bind,AA hu];simp only[Result.andThen_ok,hf,Instr.sureAddr,Sem.run_bind,Sem.run_pure,fieldPlace];rw[JC hc.1.2];simp only[Result.andThen_ok];rw[if_neg hc.2,hc.1.1];rfl
  ·cases hc
 ·cases hc
theorem zc6 {s:TypeId}{field off:Nat}{sh:Sh}(hc:vG P s field off sh=true){x:Value}{v:AV}{h1:aA}{e:Esc}(H:HeapRel h μ w)(ev:Opd→AV)(p:Opd)(R:RAV (imm h μ w) h μ (ev p) x)
 (he:aop (.faddr off sh p) ev h=some (v,h1,e)):kA P (do pure (.value (←Instr.fieldAt s x field))) h μ w v h1 e:=by
 simp only[aop]at he;cases hp:ev p with
 | ref id o=>
  rw[hp]at he R;simp at he;obtain⟨rfl,rfl,rfl⟩:=he;cases R with|ref _ _ b n cs ho hm=>
  exact kA.pure H (sA (XP hc)) (by rw[bC];exact .ref id _ b n cs ho hm)
 | rref id g i o=>
  rw[hp]at he R;simp at he;obtain⟨rfl,rfl,rfl⟩:=he;cases R with|rref _ _ _ _ a sh' xs fz m ho hm hg hi hv=>
  refine kA.pure H (sA (XP hc)) (.rref id g i _ _ sh' xs fz m ho hm hg hi (fun e=>?_))
  obtain⟨b,n,rfl,rfl⟩:=hv e;exact⟨b,n,rfl,by rw[bC,Nat.add_assoc]⟩
 | vp y=>
  rw[hp]at he R;simp only[Option.map_eq_some_iff,Prod.mk.injEq]at he;obtain⟨u,hu,rfl,rfl,rfl⟩:=he;have R':=R
  cases R with|vp _ b o f hm hr=>
  exact kA.pure H (sA (XP hc)) (by rw[bC];exact z4n R' hu)
 | bt k o id g=>
  rw[hp]at he R;simp only[Option.map_eq_some_iff,Prod.mk.injEq]at he;obtain⟨u,hu,rfl,rfl,rfl⟩:=he;unfold faA at hu;cases hk:Nat.beq k 4 with
  | false=>rw[hk]at hu;cases hu
  | true=>
   rw[hk]at hu;have hk:=Nat.eq_of_beq_eq_true hk
   subst hk;simp only[cond_true,Option.some.injEq]at hu;subst hu;cases R with|bt4 _ _ _ a ob m ho hm hv=>
   refine kA.pure H (sA (XP hc)) (.bt4 _ id g _ ob m ho hm (fun sh cs e=>?_))
   obtain⟨q1,q2⟩:=hv sh cs e;refine⟨q1,fun he=>?_⟩
   obtain⟨b,n,rfl,rfl⟩:=q2 he;exact⟨b,n,rfl,by rw[bC]⟩
 | _=>rw[hp]at he;simp at he
theorem zcq {vs:List Value}{off n:Nat}(hl:off+n≤vs.length):vs.toArray.extract off (off+n)=(((List.range n).map fun j=>(vs[off+j]?).getD undef)).toArray:=by
 apply Array.ext_getElem?
 intro i;rw[Array.getElem?_extract];by_cases hi:i<n
 ·simp [hi]
  have:off+i<vs.length:=by omega
  simp [this];omega
 ·simp [hi]
  omega
theorem dG {t:TypeId}{sh:Sh}(hs:PA P t=some sh){vs:List Value}{off:Nat}(hl:off+gA sh≤vs.length) :
 (part t vs.toArray off).run P w = .ok (oC sh fun j=>(vs[off+j]?).getD undef) w:=by
 unfold part;rw[Sem.run_bind,z3g hs];simp only[Result.andThen_ok];cases sh with
 | none=>
  simp only[Option.isSome,Bool.false_eq_true,if_false];have:off<vs.length:=by simp [gA]at hl;omega
  simp [this,oC]
 | some n=>
  simp only[Option.isSome,if_true,Sem.run_bind,JC hs,Result.andThen_ok,Sem.run_pure];simp only[gA]at hl ⊢;rw[zcq hl];rfl
theorem zcB {s:TypeId}{field off:Nat}{sh:Sh}(hc:vG P s field off sh=true){x:Value}{v:AV}{h1:aA}{e:Esc}(H:HeapRel h μ w)(ev:Opd→AV)(p:Opd)(R:RAV (imm h μ w) h μ (ev p) x)
 (he:aop (.field off sh p) ev h=some (v,h1,e)):kA P (do pure (.value (←Instr.field s x field))) h μ w v h1 e:=by
 unfold vG at hc;split at hc
 ·rename_i fs hu
  split at hc
  ·rename_i f hf
   simp only[Bool.and_eq_true,beq_iff_eq,bne_iff_ne]at hc;have hrun:∀(vs:List Value),off+gA sh≤vs.length→(Instr.field s (.agg vs.toArray) field).run P w = .ok (oC sh fun j=>(vs[off+j]?).getD undef) w:=by
    intro vs hl;unfold Instr.field;rw[Sem.run_bind,AA hu];simp only[Result.andThen_ok,hf,asAgg,Sem.run_bind,Sem.run_pure,hc.1.1];exact dG hc.1.2 hl
   simp only[aop]at he;cases hp:ev p with
   | p y=>
    rw[hp]at he R;dsimp only at he;split at he
    ·rename_i cs
     simp only[Option.map_eq_some_iff,Prod.mk.injEq]at he;obtain⟨u,hcut,rfl,rfl,rfl⟩:=he;have Ri:=R.p_inv
     cases Ri with|agg _ vs hl hr=>
     have hf2:∀(j:Nat) (x:PV),(PV.agg cs).cells[j]?=some x→RPV (imm h μ w) x ((vs[j]?).getD undef):=by
      intro j x hx;have hj:j<vs.length:=by rw[←hl];exact tA hx
      simp only[List.getElem?_eq_getElem hj,Option.getD_some];exact hr j x _ hx (List.getElem?_eq_getElem hj)
     obtain⟨h2,h3⟩:=jM hcut hf2;refine kA.pure H (sA (hrun vs (by rw[←hl];simpa [PV.cells] using h2))) ?_
     cases sh <;> exact .p _ _ h3
    ·cases he
   | agg cs=>
    rw[hp]at he R;simp only[Option.map_eq_some_iff,Prod.mk.injEq]at he;obtain⟨u,hcut,rfl,rfl,rfl⟩:=he;cases R with|agg _ vs hl hr=>
    have hf2:∀(j:Nat) (x:AV),cs[j]?=some x→RAV (imm h μ w) h μ x ((vs[j]?).getD undef):=by
     intro j x hx;have hj:j<vs.length:=by rw[←hl];exact tA hx
     simp only[List.getElem?_eq_getElem hj,Option.getD_some];exact hr j x _ hx (List.getElem?_eq_getElem hj)
    obtain⟨h2,h3⟩:=kM hcut hf2;refine kA.pure H (sA (hrun vs (by rw[←hl];exact h2))) ?_
    cases sh <;> exact h3
   | _=>rw[hp]at he;simp at he
  ·cases hc
 ·cases hc
def yG (P:Program)(t:TypeId)(sh:Sh):Bool:=match P.underlying t with
 | some (.slice e)=>PA P e==some sh
 | _=>false
def tG (P:Program)(t:TypeId)(n:Nat)(sh:Sh):Bool:=match P.underlying t with
 | some (.array m e)=>m==n&&PA P e==some sh
 | _=>false
theorem SW {t:TypeId}{sh:Sh}(hc:yG P t sh=true){a:Addr}{len cap k:Nat}{kk:IntKind}(hk:k<len) :
 (Instr.indexAt t (.slice (some a) len cap) (.int kk (k:Int))).run P w = .ok (.pointer (some (a.add (k*gA sh)))) w:=by
 unfold yG at hc;split at hc
 ·rename_i e hu
  simp only[beq_iff_eq]at hc;unfold Instr.indexAt;simp only[asIntOf,Sem.run_bind,Sem.run_pure,Result.andThen_ok,AA hu];have:(0:Int)≤(k:Int)∧(k:Int)<(len:Int):=by omega
  simp [this,JC hc]
 ·cases hc
theorem RW {t:TypeId}{n:Nat}{sh:Sh}(hc:tG P t n sh=true){a:Addr}{k:Nat}{kk:IntKind}(hk:k<n) :
 (Instr.indexAt t (.pointer (some a)) (.int kk (k:Int))).run P w = .ok (.pointer (some (a.add (k*gA sh)))) w:=by
 unfold tG at hc;split at hc
 ·rename_i m e hu
  simp only[Bool.and_eq_true,beq_iff_eq]at hc;obtain⟨rfl,hc⟩:=hc;unfold Instr.indexAt;simp only[asIntOf,Sem.run_bind,Sem.run_pure,Result.andThen_ok,AA hu,Instr.sureAddr];have:(0:Int)≤(k:Int)∧(k:Int)<(m:Int):=by omega
  simp [this,JC hc]
 ·cases hc
theorem zjo {xs:List PV}{k:Nat}{x:PV}{y:Value}{sh:Sh}(R:RPV M (.sl sh xs) y)(hx:xs[k]?=some x) :
 ∃b o cap,y = .slice (some ⟨b,o,none⟩) xs.length cap∧k<xs.length∧RAV M h μ (.vp x) (.pointer (some ⟨b,o+k*gA sh,none⟩)):=by
 have hk:k<xs.length:=tA hx
 cases R with
 | nils _ a cap=>simp at hx
 | sl _ _ b o cap f hne hc he hm hr=>
  have he':∀x∈xs,x.cells.length=gA sh:=fun x hx=>MB (he x hx)
  have hflat:∀(j:Nat) (z:PV),x.cells[j]?=some z→(xs.flatMap PV.cells)[k*gA sh+j]?=some z:=by
   intro j z hz;rw[RG he' k j (by rw[←he' x (List.mem_of_getElem? hx)];exact tA hz),hx]
   exact hz
  refine⟨b,o,cap,rfl,hk,.vp x b (o+k*gA sh) (fun j=>f (k*gA sh+j)) (fun j z hz=>?_) (fun j z hz=>hr _ z (hflat j z hz))⟩
  have:=hm _ z (hflat j z hz);rw[Nat.add_assoc];exact this
theorem zdd {t:TypeId}{sh:Sh}(hc:yG P t sh=true){x i:Value}{v:AV}{h1:aA}{e:Esc}(H:HeapRel h μ w)(ev:Opd→AV)(p q:Opd)(R:RAV (imm h μ w) h μ (ev p) x)(Ri:RAV (imm h μ w) h μ (ev q) i)
 (he:aop (.iaddr sh p q) ev h=some (v,h1,e)):kA P (do pure (.value (←Instr.indexAt t x i))) h μ w v h1 e:=by
 simp only[aop]at he;split at he
 ·rename_i sh' xs k hp hq
  rw[hp]at R;obtain⟨kk,rfl⟩:=QD hq Ri;split at he
  ·rename_i hsh
   subst hsh;simp only[Option.map_eq_some_iff,Prod.mk.injEq]at he;obtain⟨z,hz,rfl,rfl,rfl⟩:=he;obtain⟨b,o,cap,rfl,hk,hr⟩:=zjo (h:=h) (μ:=μ) R.p_inv hz;exact kA.pure H (sA (SW hc hk)) (by rw[bC];exact hr)
  ·cases he
 ·rename_i id g off len k hp hq
  rw[hp]at R;obtain⟨kk,rfl⟩:=QD hq Ri;split at he
  ·rename_i rsh xs fz ho
   split at he
   ·rename_i hcc
    obtain⟨c1,c2,c3,c4⟩:=hcc;simp at he;obtain⟨rfl,rfl,rfl⟩:=he;subst c1;obtain⟨_,_,a,cap,rfl,hlc,hrow⟩:=CE H R ho c2;obtain⟨b,n,c,hm,rfl,hB,hn,hn2,hcell⟩:=hrow (by omega)
    refine kA.pure H (sA (SW hc c4)) ?_;rw[bC];refine .rref id g (off+k) 0 _ rsh xs fz _ ho hm (by omega) (by omega) (fun _=>⟨b,n,rfl,?_⟩)
    rw[Nat.add_mul,Nat.add_zero]
   ·cases he
  ·cases he
 ·rename_i kk tt id g k hp hq
  rw[hp]at R;obtain⟨ki,rfl⟩:=QD hq Ri;simp only[Option.map_eq_some_iff,Prod.mk.injEq]at he;obtain⟨u,hu,rfl,rfl,rfl⟩:=he;unfold iaA at hu;cases hk:Nat.beq kk 3 with
  | false=>rw[hk]at hu;cases hu
  | true=>
   rw[hk]at hu;have hk:=Nat.eq_of_beq_eq_true hk
   subst hk;simp only[cond_true]at hu;split at hu
   ·rename_i rsh cs ho
    split at hu
    ·rename_i hcc
     obtain⟨c1,c2,c4⟩:=hcc;subst c1;simp only[Option.some.injEq]at hu;subst hu;cases R with|bt3 _ _ _ a cap ob m hl ho' hm hv=>
     rw[ho]at ho';injection ho' with ho'
     obtain⟨q1,q2⟩:=hv rsh cs ho'.symm;have q3:=q2 c2
     have hm3:∃b n,m=some (b,n)∧a=some ⟨b,0,none⟩:=by
      cases m with
      | none=>simp [pE]at q3;omega
      | some m=>
       obtain⟨b,n⟩:=m;rcases q3 with q3|q3
       ·omega
       ·exact⟨b,n,rfl,by rw[q3.1,Nat.zero_mul]⟩
     obtain⟨b,n,rfl,rfl⟩:=hm3;refine kA.pure H (sA (SW hc c4)) ?_;rw[bC];exact .bt4 _ id g _ _ _ ho hm (fun sh2 cs2 e=>by
      injection e with e1 e2
      subst e1;subst e2
      exact⟨q1,fun _=>⟨b,n,rfl,by rw[Nat.zero_add]⟩⟩)
    ·cases hu
   ·cases hu
 ·cases he
theorem zdg {t:TypeId}{n:Nat}{sh:Sh}(hc:tG P t n sh=true){x i:Value}{v:AV}{h1:aA}{e:Esc}(H:HeapRel h μ w)(ev:Opd→AV)(p q:Opd)(R:RAV (imm h μ w) h μ (ev p) x)(Ri:RAV (imm h μ w) h μ (ev q) i)
 (he:aop (.iaddra n sh p q) ev h=some (v,h1,e)):kA P (do pure (.value (←Instr.indexAt t x i))) h μ w v h1 e:=by
 simp only[aop]at he;split at he
 ·rename_i id o k hp hq
  rw[hp]at R;obtain⟨kk,rfl⟩:=QD hq Ri;split at he
  ·rename_i hk
   simp at he;obtain⟨rfl,rfl,rfl⟩:=he;cases R with|ref _ _ b m cs ho hm=>
   exact kA.pure H (sA (RW hc hk)) (by rw[bC];exact .ref id _ b m cs ho hm)
  ·cases he
 ·rename_i id g j o k hp hq
  rw[hp]at R;obtain⟨kk,rfl⟩:=QD hq Ri;split at he
  ·rename_i hk
   simp at he;obtain⟨rfl,rfl,rfl⟩:=he;cases R with|rref _ _ _ _ a sh' xs fz m ho hm hg hi hv=>
   refine kA.pure H (sA (RW hc hk)) (.rref id g j _ _ sh' xs fz m ho hm hg hi (fun e=>?_))
   obtain⟨b,n,rfl,rfl⟩:=hv e;exact⟨b,n,rfl,by rw[bC,Nat.add_assoc]⟩
  ·cases he
 ·rename_i y k hp hq
  rw[hp]at R;obtain⟨kk,rfl⟩:=QD hq Ri;split at he
  ·rename_i hk
   simp only[Option.map_eq_some_iff,Prod.mk.injEq]at he;obtain⟨u,hu,rfl,rfl,rfl⟩:=he;have R':=R
   cases R with|vp _ b o f hm hr=>
   exact kA.pure H (sA (RW hc hk)) (by rw[bC];exact z4n R' hu)
  ·cases he
 ·cases he
theorem zdk {t:TypeId}{n:Nat}{sh:Sh}(hc:tG P t n sh=true){x i:Value}{v:AV}{h1:aA}{e:Esc}(H:HeapRel h μ w)(ev:Opd→AV)(p q:Opd)(R:RAV (imm h μ w) h μ (ev p) x)(Ri:RAV (imm h μ w) h μ (ev q) i)
 (he:aop (.idxa n sh p q) ev h=some (v,h1,e)):kA P (do pure (.value (←Instr.index t x i))) h μ w v h1 e:=by
 unfold tG at hc;split at hc
 ·rename_i m el hu
  simp only[Bool.and_eq_true,beq_iff_eq]at hc;obtain⟨rfl,hc⟩:=hc;simp only[aop]at he;split at he
  ·rename_i cs k hp hq
   rw[hp]at R;obtain⟨kk,rfl⟩:=QD hq Ri;split at he
   ·rename_i hk
    simp only[Option.map_eq_some_iff,Prod.mk.injEq]at he;obtain⟨u,hcut,rfl,rfl,rfl⟩:=he;have Rv:=R.p_inv
    cases Rv with|agg _ vs hl hr=>
    have hf2:∀(j:Nat) (x:PV),(PV.agg cs).cells[j]?=some x→RPV (imm h μ w) x ((vs[j]?).getD undef):=by
     intro j x hx;have hj:j<vs.length:=by rw[←hl];exact tA hx
     simp only[List.getElem?_eq_getElem hj,Option.getD_some];exact hr j x _ hx (List.getElem?_eq_getElem hj)
    obtain⟨h2,h3⟩:=jM hcut hf2;refine kA.pure H (sA (u:=oC sh fun j=>(vs[k*gA sh+j]?).getD undef) ?_) ?_
    ·unfold Instr.index
     simp only[asIntOf,Sem.run_bind,Sem.run_pure,Result.andThen_ok,AA hu];have h0:(0:Int)≤(k:Int)∧(k:Int)<(m:Int):=by omega
     rw[if_pos h0,Sem.run_bind,JC hc];simp only[Result.andThen_ok,Int.toNat_natCast];exact dG hc (by rw[←hl];simpa [PV.cells] using h2)
    ·cases sh <;> exact .p _ _ h3
   ·cases he
  ·cases he
 ·cases hc
def vH (P:Program)(t:TypeId):Bool:=match P.underlying t with
 | some .string=>true
 | _=>false
theorem zjE (s:List UInt8)(k:Nat):(⟨s.toArray⟩:ByteArray)[k]?=s[k]?:=by
 by_cases hk:k<s.length
 ·have:k<(⟨s.toArray⟩:ByteArray).size:=by simpa [ByteArray.size] using hk
  rw[getElem?_pos _ k this,List.getElem?_eq_getElem hk];rfl
 ·have:¬k<(⟨s.toArray⟩:ByteArray).size:=by simpa [ByteArray.size] using hk
  rw[getElem?_neg _ k this,List.getElem?_eq_none (by omega)]
theorem zdl {t:TypeId}(hc:vH P t=true){x i:Value}{v:AV}{h1:aA}{e:Esc}(H:HeapRel h μ w)(ev:Opd→AV)(p q:Opd)(R:RAV (imm h μ w) h μ (ev p) x)(Ri:RAV (imm h μ w) h μ (ev q) i)
 (he:aop (.idxs p q) ev h=some (v,h1,e)):kA P (do pure (.value (←Instr.index t x i))) h μ w v h1 e:=by
 unfold vH at hc;split at hc
 ·rename_i hu
  simp only[aop]at he;split at he
  ·rename_i s k hp hq
   rw[hp]at R;obtain⟨kk,rfl⟩:=QD hq Ri;rw[R.p_str];simp only[Option.map_eq_some_iff,Prod.mk.injEq]at he;obtain⟨u,hu2,rfl,rfl,rfl⟩:=he;refine kA.pure H (sA (u:=.int .u8 u.toNat) ?_) (.p _ _ (.int _ _));unfold Instr.index;simp only[asIntOf,Sem.run_bind,Sem.run_pure,Result.andThen_ok,AA hu];simp [zjE,hu2]
  ·cases he
 ·cases hc
end Go.Am
end
section
/- The abstract machine,part 12: slices,lengths,comparisons,functions,new rows. -/
set_option linter.unusedSimpArgs false
set_option linter.unusedVariables false
namespace Go.Am
variable {h h':aA} {μ μ':Mu} {w w':World} {P:Program} {M:Mem}
def LB:Option Opd→Option Operand→Bool
 | none,none=>true
 | some x,some y=>xA x y
 | _,_=>false
theorem jJ {ev:Opd→AV}{ρ:Operand→Value}{x:Opd}{y:Operand}{k:Nat}{m:Nat}{code:BoundsCode}(R:LC M h μ ev ρ)(ho:xA x y=true)(hk:WA (ev x)=some k)(hm:k≤m) :
 (Instr.sliceBound (ρ y) m code).run P w = .ok k w:=by
 obtain⟨kk,hr⟩:=QD hk (R x y ho);rw[hr];unfold Instr.sliceBound;simp only[asIntOf,Sem.run_bind,Sem.run_pure,Result.andThen_ok];rw[if_pos (by omega)]
 simp
theorem z3e {ev:Opd→AV}{ρ:Operand→Value}(R:LC M h μ ev ρ){lo hi mx:Option Opd}{lo' hi' mx':Option Operand}(h1:LB lo lo'=true)(h2:LB hi hi'=true)(h3:LB mx mx'=true)
 {isS:Bool} {len cap l r m:Nat} (hl:bnd ev 0 lo=some l) (hr:bnd ev len hi=some r) (hm:∀x,mx=some x→WA (ev x)=some m) (hlr:l≤r) (hrm:r≤m) (hmc:m≤cap) (hmx:mx.isSome=true→hi.isSome=true)
 (hn:mx=none→m=len) (hrc:len≤cap) :
 (Instr.sliceBounds isS len cap (lo'.map ρ) (hi'.map ρ) (mx'.map ρ)).run P w = .ok (l,r,if mx.isSome then m else cap) w:=by
 unfold Instr.sliceBounds;cases mx with
 | none=>
  cases mx' with
  | some _=>simp [LB]at h3
  | none=>
   have:=hn rfl;subst this
   simp only[Option.map_none,Option.isSome_none,Bool.false_eq_true,if_false];cases hi with
   | none=>
    cases hi' with
    | some _=>simp [LB]at h2
    | none=>
     simp [bnd]at hr;subst hr
     cases lo with
     | none=>cases lo' with
      | some _=>simp [LB]at h1
      | none=>simp [bnd]at hl;subst hl;simp
     | some x=>cases lo' with
      | none=>simp [LB]at h1
      | some y=>simp [jJ R h1 hl hlr]
   | some x=>
    cases hi' with
    | none=>simp [LB]at h2
    | some y=>
     have hb:=fun code=>jJ (P:=P) (w:=w) (code:=code) (m:=cap) R h2 hr (by omega)
     cases lo with
     | none=>cases lo' with
      | some _=>simp [LB]at h1
      | none=>simp [bnd]at hl;subst hl;simp [hb]
     | some x=>cases lo' with
      | none=>simp [LB]at h1
      | some y=>simp [hb,jJ R h1 hl hlr]
 | some z=>
  cases mx' with
  | none=>simp [LB]at h3
  | some zz=>
   have hz:=fun code=>jJ (P:=P) (w:=w) (code:=code) (m:=cap) R h3 (hm z rfl) hmc
   cases hi with
   | none=>simp at hmx
   | some x=>
    cases hi' with
    | none=>simp [LB]at h2
    | some y=>
     have hb:=fun code=>jJ (P:=P) (w:=w) (code:=code) (m:=m) R h2 hr hrm
     cases lo with
     | none=>cases lo' with
      | some _=>simp [LB]at h1
      | none=>simp [bnd]at hl;subst hl;simp [hb,hz]
     | some x=>cases lo' with
      | none=>simp [LB]at h1
      | some y=>simp [hb,hz,jJ R h1 hl hlr]
theorem z1f {xs:List PV}{sh:Sh}(he:∀ x∈xs,x.shp sh=true){l n j:Nat}{y:PV}(hj:((win xs l n).flatMap PV.cells)[j]?=some y):(xs.flatMap PV.cells)[l*gA sh+j]?=some y:=by
 have he':∀x∈win xs l n,x.cells.length=gA sh:=fun x hx=>MB (he x (nG hx))
 obtain⟨x,h1,h2,h3,h4⟩:=bF he' hj;have h5:=(kQ h1).2
 have:=RG (fun x hx=>MB (he x hx)) (l+j / gA sh) (j%gA sh) h3
 rw[h5]at this;rw[show(l+j / gA sh)*gA sh+j%gA sh=l*gA sh+j by rw[Nat.add_mul];omega]at this
 rw[this];exact h2
theorem zjp {sh:Sh}{xs:List PV}{a:Option Addr}{cap l r:Nat}(R:RPV M (.sl sh xs) (.slice a xs.length cap))(hlr:l≤r)(hr:r≤xs.length){a':Option Addr}(ha:l<r→a'=a.map (·.add (l*gA sh))){cap':Nat}(hc:r-l≤cap') :
 RPV M (.sl sh (win xs l (r-l))) (.slice a' (r-l) cap'):=by
 by_cases e:l=r
 ·subst e
  simp [win];exact .nils _ _ _
 ·have hlen:(win xs l (r-l)).length=r-l:=lQ (by omega)
  cases R with
  | nils=>simp at hr;omega
  | sl _ _ b o cap f hne hcap he hm hr'=>
   rw[ha (by omega)]
   simp only[Option.map_some,bC];have hw:win xs l (r-l)≠[]:=by
    intro e';rw[e']at hlen;simp at hlen;omega
   have:=RPV.sl (M:=M) sh (win xs l (r-l)) b (o+l*gA sh) cap' (fun j=>f (l*gA sh+j)) hw (by omega) (fun x hx=>he x (nG hx))
    (fun j y hy=>by rw[Nat.add_assoc];exact hm _ y (z1f he hy)) (fun j y hy=>hr' _ y (z1f he hy))
   rwa [hlen]at this
theorem z3L {sh:Sh}{xs:List PV}{y:Value}(R:RPV M (.sl sh xs) y):∃a cap,y = .slice a xs.length cap∧xs.length≤cap:=by
 cases R with
 | nils _ a cap=>exact⟨a,cap,rfl,Nat.zero_le _⟩
 | sl _ _ b o cap f hne hc he hm hr=>exact⟨_,cap,rfl,hc⟩
theorem z24 {id g off len:Nat}{x:Value}(R:RAV M h μ (.own id g off len) x):∃a cap sh xs fz m,x = .slice a len cap∧len≤cap∧h[id]?=some (.row sh xs fz)∧μ[id]?=some m∧g≤xs.length∧off+len≤g∧(g=xs.length→pE m (gA sh) off a cap):=by
 cases R with|own _ _ _ _ a cap sh xs fz m hl ho hm hg hgl hv=>exact⟨a,cap,sh,xs,fz,m,rfl,hl,ho,hm,hg,hgl,hv⟩
theorem sJ {sh:Sh}{x:Value}(R:RAV M h μ (.sl0 sh) x):∃a,x = .slice a 0 0:=by
 cases R with|sl0 _ a=>exact⟨a,rfl⟩
theorem zjq {t:TypeId}{sh:Sh}(hc:yG P t sh=true){ev:Opd→AV}{ρ:Operand→Value}{p:Opd}{q:Operand}{lo hi mx:Option Opd}{lo' hi' mx':Option Operand}{v:AV}{h1:aA}{e:Esc}(H:HeapRel h μ w)
 (R:LC (imm h μ w) h μ ev ρ) (hp:xA p q=true) (g1:LB lo lo'=true) (g2:LB hi hi'=true) (g3:LB mx mx'=true) (g4:mx.isSome=true→hi.isSome=true)
 (he:aop (.slice sh p lo hi mx) ev h=some (v,h1,e)):kA P (do pure (.value (←Instr.sliceAt t (ρ q) (lo'.map ρ) (hi'.map ρ) (mx'.map ρ)))) h μ w v h1 e:=by
 have Rp:=R p q hp
 simp only[aop,Option.map_eq_some_iff,Prod.mk.injEq]at he;obtain⟨v',hv,rfl,rfl,rfl⟩:=he;have slc:∀{a:Option Addr} {len cap:Nat} {l r m:Nat},ρ q = .slice a len cap→bnd ev 0 lo=some l→bnd ev len hi=some r→bnd ev len mx=some m→l≤r→r≤m→m≤len→len≤cap →
  (Instr.sliceAt t (ρ q) (lo'.map ρ) (hi'.map ρ) (mx'.map ρ)).run P w = .ok (.slice (if(if mx.isSome then m else cap)=l then a else a.map (·.add (l*gA sh))) (r-l) ((if mx.isSome then m else cap)-l)) w:=by
  intro a len cap l r m hq b1 b2 b3 hlr hrm hml hlc;unfold yG at hc;split at hc
  ·rename_i el hu
   simp only[beq_iff_eq]at hc;unfold Instr.sliceAt;rw[Sem.run_bind,AA hu];simp only[Result.andThen_ok];unfold Instr.slice;rw[Sem.run_bind,AA hu,hq];simp only[Result.andThen_ok,Sem.run_bind];rw[z3e R g1 g2 g3 b1 b2 (m:=m) (cap:=cap) (fun x hx=>by rw[hx]at b3;exact b3) hlr hrm (by omega) g4 (fun hx=>by rw[hx]at b3;simpa [bnd] using b3.symm) hlc]
   simp only[Result.andThen_ok,JC hc,Sem.run_pure]
  ·cases hc
 unfold asl at hv;split at hv
 ·rename_i sh' xs hx
  rw[hx]at Rp;split at hv
  ·rename_i l r m b1 b2 b3
   split at hv
   ·rename_i hb
    obtain⟨rfl,c1,c2,c3⟩:=hb;simp at hv;have Ri:=Rp.p_inv
    obtain⟨a,cap,hq,hcap⟩:=z3L Ri;refine kA.pure H (sA (slc hq b1 b2 b3 c1 c2 c3 hcap)) ?_;by_cases hmm:mx.isSome=true∧m=l
    ·rw[if_pos hmm]at hv
     subst hv;have hrl:r=l:=by omega
     subst hrl;rw[hmm.1];simp [hmm.2];exact .sl0 _ _
    ·rw[if_neg hmm]at hv
     subst hv;have hcm:r≤(if mx.isSome=true then m else cap):=by split <;> omega
     generalize hM:(if mx.isSome=true then m else cap)=M' at *;exact .p _ _ (zjp (hq ▸ Ri) c1 (by omega) (fun hlr=>by rw[if_neg (by omega)]) (by omega))
   ·cases hv
  ·cases hv
 ·rename_i sh' hx
  rw[hx]at Rp;split at hv
  ·rename_i l r m b1 b2 b3
   split at hv
   ·rename_i hb
    obtain⟨rfl,rfl,rfl⟩:=hb;simp at hv;subst hv;obtain⟨a,hq⟩:=sJ Rp;refine kA.pure H (sA (slc hq b1 b2 b3 (Nat.le_refl _) (Nat.le_refl _) (Nat.le_refl _) (Nat.le_refl _))) ?_;simp;exact .sl0 _ _
   ·cases hv
  ·cases hv
 ·rename_i id g off len hx
  rw[hx]at Rp;split at hv
  ·rename_i rsh xs fz ho
   split at hv
   ·rename_i l r m b1 b2 b3
    split at hv
    ·rename_i hb
     obtain⟨rfl,c1,c2,c3,c4,c5⟩:=hb;simp at hv;obtain⟨a,cap,sh2,xs2,fz2,mm,hq,hl,ho2,hm2,hgx,hgl,hval⟩:=z24 Rp;rw[ho]at ho2;injection ho2 with ho2;injection ho2 with e1 e2 e3
     subst e1;subst e2;subst e3
     refine kA.pure H (sA (slc hq b1 b2 b3 c3 c4 c5 hl)) ?_;by_cases hmm:mx.isSome=true∧m=l
     ·rw[if_pos hmm]at hv
      subst hv;have hrl:r=l:=by omega
      subst hrl;rw[hmm.1];simp [hmm.2];exact .sl0 _ _
     ·rw[if_neg hmm]at hv
      subst hv;have hcm:l≤(if mx.isSome=true then m else cap)∧r≤(if mx.isSome=true then m else cap)∧(if mx.isSome=true then m else cap)≤cap:=by split <;> omega
      generalize hM:(if mx.isSome=true then m else cap)=M' at *;refine .own id g (off+l) (r-l) _ _ rsh xs fz mm (by omega) ho hm2 hgx (by omega) (fun hge=>?_)
      have hv2:=hval hge
      unfold pE at hv2 ⊢;split at hv2
      ·omega
      ·rename_i b n
       rcases hv2 with hv2|⟨rfl,hv2⟩
       ·left;omega
       ·by_cases hMl:M'=l
        ·left;omega
        ·right
         rw[if_neg hMl];simp only[Option.map_some,bC,Option.some.injEq,Addr.mk.injEq,true_and,and_true];refine⟨by rw[Nat.add_mul],?_⟩
         have:(off+l+(M'-l))*gA rsh≤(off+cap)*gA rsh:=Nat.mul_le_mul_right _ (by omega)
         omega
    ·cases hv
   ·cases hv
  ·cases hv
 ·cases hv
theorem zjr {t:TypeId}(hc:vH P t=true){ev:Opd→AV}{ρ:Operand→Value}{p:Opd}{q:Operand}{lo hi:Option Opd}{lo' hi':Option Operand}{v:AV}{h1:aA}{e:Esc}(H:HeapRel h μ w)
 (R:LC (imm h μ w) h μ ev ρ) (hp:xA p q=true) (g1:LB lo lo'=true) (g2:LB hi hi'=true)
 (he:aop (.slstr p lo hi) ev h=some (v,h1,e)):kA P (do pure (.value (←Instr.sliceAt t (ρ q) (lo'.map ρ) (hi'.map ρ) none))) h μ w v h1 e:=by
 have Rp:=R p q hp
 simp only[aop]at he;split at he
 ·rename_i s hx
  rw[hx]at Rp;split at he
  ·rename_i l r b1 b2
   split at he
   ·rename_i hb
    simp at he;obtain⟨rfl,rfl,rfl⟩:=he;rw[Rp.p_str];unfold vH at hc;split at hc
    ·rename_i hu
     refine kA.pure H (sA (u:=.string ⟨(win s l (r-l)).toArray⟩) ?_) (.p _ _ (.str _));unfold Instr.sliceAt;rw[Sem.run_bind,AA hu];simp only[Result.andThen_ok];unfold Instr.slice;rw[Sem.run_bind,AA hu];have hsz:(⟨s.toArray⟩:ByteArray).size=s.length:=by simp [ByteArray.size]
     have:=z3e (P:=P) (w:=w) (isS:=false) R g1 g2 (mx:=none) (mx':=none) rfl (len:=s.length) (cap:=s.length) b1 b2 (m:=s.length) (by simp) hb.1 hb.2 (Nat.le_refl _) (by simp) (fun _=>rfl) (Nat.le_refl _)
     simp only[Option.map_none]at this;simp only[Result.andThen_ok,Option.isSome_none,Bool.false_eq_true,if_false,Sem.run_bind,Sem.run_pure,hsz,this];congr 2
     apply ByteArray.ext
     simp [ByteArray.data_extract,win,List.extract_eq_take_drop]
    ·cases hc
   ·cases he
  ·cases he
 ·cases he
end Go.Am
end
section
/- The abstract machine,part 13: new rows: literals,make,append,copy. -/
set_option linter.unusedSimpArgs false
set_option linter.unusedVariables false
namespace Go.Am
variable {h h':aA} {μ μ':Mu} {w w':World} {P:Program} {M M':Mem}
def NC (M:Mem)(sh:Sh)(xs:List PV)(c:Array Value):Prop:=
 xs.length*gA sh≤c.size∧(∀x∈xs,x.shp sh=true)∧∀(i j:Nat) (x y:PV),xs[i]?=some x→x.cells[j]?=some y→∃v,c[i*gA sh+j]?=some v∧RPV M y v
theorem NC.mono (hM:M.le M'){sh:Sh}{xs:List PV}{c:Array Value}(H:NC M sh xs c):NC M' sh xs c:=
 ⟨H.1,H.2.1,fun i j x y hx hy=>by obtain⟨v,h1,h2⟩:=H.2.2 i j x y hx hy;exact⟨v,h1,h2.mono hM⟩⟩
theorem NC.set {sh:Sh}{xs:List PV}{c:Array Value}(H:NC M sh xs c){i:Nat}{v:PV}{vs:List Value}(hi:i<xs.length)(hv:v.shp sh=true)(hl:vs.length=gA sh)
 (hr:∀(j:Nat) (y:PV),v.cells[j]?=some y→∃u,vs[j]?=some u∧RPV M y u):NC M sh (xs.set i v) (zB c (i*gA sh) vs):=by
 have hb:i*gA sh+vs.length≤c.size:=by
  have:(i+1)*gA sh≤xs.length*gA sh:=Nat.mul_le_mul_right _ hi
  rw[Nat.add_mul,Nat.one_mul]at this;have:=H.1;omega
 refine⟨by rw[kF];simpa using H.1,fun x hx=>?_,fun i2 j z u hz hu=>?_⟩
 ·rcases List.mem_or_eq_of_mem_set hx with hx|rfl
  ·exact H.2.1 x hx
  ·exact hv
 ·rw[jH _ _ _ _ hb]
  rcases dE hz with⟨hne,hz⟩|⟨rfl,rfl,_⟩
  ·have hj:j<gA sh:=by
    have:=MB (H.2.1 z (List.mem_of_getElem? hz));have:=tA hu;omega
   rw[if_neg]
   ·exact H.2.2 i2 j z u hz hu
   ·rintro⟨q1,q2⟩
    exact z3a (j:=i2*gA sh+j-i*gA sh) (k:=j) hne (by omega) hj (by omega)
  ·have hj:j<gA sh:=by have:=MB hv;have:=tA hu;omega
   rw[if_pos (by omega)]
   obtain⟨u',q1,q2⟩:=hr j u hu;exact⟨u',by rw[←q1];congr 1;omega,q2⟩
def LJ (P:Program)(e:TypeId)(sh:Sh)(z:PV):Bool:=match P.info? e with
 | some i=>match i.zero with
  | some v=>xF (.p z) v&&z.shp sh&&i.size==gA sh
  | none=>false
 | none=>false
theorem vX {e:TypeId}{sh:Sh}{z:PV}(hc:LJ P e sh z=true):∃i v,P.info? e=some i∧i.zero=some v∧i.size=gA sh∧z.shp sh=true∧v.cells.size=gA sh ∧
 ∀(M:Mem) (j:Nat) (y:PV),z.cells[j]?=some y→∃u,v.cells[j]?=some u∧RPV M y u:=by
 unfold LJ at hc;split at hc
 ·rename_i i hi
  split at hc
  ·rename_i v hv
   simp only[Bool.and_eq_true,beq_iff_eq]at hc;obtain⟨⟨h1,h2⟩,h3⟩:=hc;have hall:z.cells.all PV.sc=true:=by rw[List.all_eq_true];exact eQ h2
   have R:∀M:Mem,RPV M z v:=fun M=>(AG (M:=M) (h:=[]) (μ:=[]) h1).p_inv
   have hs:=FP (R ⟨fun _ _=>none,fun _=>none,none,fun _=>none⟩) hall
   refine⟨i,v,hi,hv,h3,h2,by rw[hs.1,MB h2],fun M j y hy=>(FP (R M) hall).2.1 j y hy⟩
  ·cases hc
 ·cases hc
theorem aQ {e:TypeId}{i:TypeInfo}{v:Value}(hi:P.info? e=some i)(hv:i.zero=some v):(zeroValue e).run P w = .ok v w:=by
 unfold zeroValue;rw[Sem.run_bind,eG hi];simp [hv]
theorem ziu {α:Type}{n i:Nat}{a x:α}(hx:(List.replicate n a)[i]?=some x):i<n∧x=a:=by
 have hi:i<n:=by simpa using tA hx
 rw[List.getElem?_replicate,if_pos hi]at hx;exact⟨hi,by simpa using hx.symm⟩
theorem uX {sh:Sh}{z:PV}{zc:Array Value}{n N:Nat}(hz:z.shp sh=true)(hsz:zc.size=gA sh)(hr:∀ (j:Nat) (y:PV),z.cells[j]?=some y→∃ u,zc[j]?=some u∧RPV M y u)(hN:n*gA sh≤N) :
 NC M sh (List.replicate n z) ((Array.range N).map (fun k=>zc[k%zc.size]!)):=by
 refine⟨by simpa using hN,fun x hx=>by rw[List.eq_of_mem_replicate hx];exact hz,fun i j x y hx hy=>?_⟩
 obtain⟨hi,rfl⟩:=ziu hx;have hj:j<gA sh:=by have:=MB hz;have:=tA hy;omega
 obtain⟨u,h1,h2⟩:=hr j y hy;refine⟨u,?_,h2⟩;have hlt:i*gA sh+j<N:=by
  have:(i+1)*gA sh≤n*gA sh:=Nat.mul_le_mul_right _ hi
  rw[Nat.add_mul,Nat.one_mul]at this;omega
 simp only[Array.getElem?_map,Array.getElem?_range,hlt,if_true,Option.map_some,hsz];rw[Nat.mul_comm,Nat.mul_add_mod,Nat.mod_eq_of_lt hj,getElem!_def,h1]
theorem z2H:Array.range 0 = #[]:=by simp [Array.range]
def fH:List (Nat × Opd)→List (Nat × Operand)→Bool
 | [],[]=>true
 | a::r,b::s=>a.1==b.1&&xA a.2 b.2&&fH r s
 | _,_=>false
theorem z0U {ev:Opd→AV}{ρ:Operand→Value}{sh:Sh}:∀{ps:List (Nat×Opd)} {qs:List (Nat×Operand)} {h h':aA} {xs xs':List PV} {c:Array Value},
 HeapRel h μ w→LC (imm h μ w) h μ ev ρ→fH ps qs=true→NC (imm h μ w) sh xs c→aF ev sh ps h xs=some (xs',h') →
 YD h μ w h'∧xs'.length=xs.length∧∃c',Instr.fill (fun i=>some (i*gA sh,gA sh)) c (qs.map fun y=>(y.1,ρ y.2))=some c'∧c'.size=c.size∧NC (imm h' μ w) sh xs' c'
 | [],[],h,h',xs,xs',c,H,R,_,hc,e=>by
  simp [aF]at e;obtain⟨rfl,rfl⟩:=e;exact⟨⟨H,Evo.refl _ _ _,mA.refl _ _⟩,rfl,c,rfl,rfl,hc⟩
 | [],_::_,_,_,_,_,_,_,_,e,_,_=>by simp [fH]at e
 | _::_,[],_,_,_,_,_,_,_,e,_,_=>by simp [fH]at e
 | (i,x)::r,(i',y)::s,h,h',xs,xs',c,H,R,hk,hc,e=>by
  simp only[fH,Bool.and_eq_true,beq_iff_eq]at hk;obtain⟨⟨rfl,k2⟩,k3⟩:=hk;simp only[aF]at e;split at e
  ·rename_i v h1 hp
   split at e
   ·rename_i hb
    obtain⟨⟨a1,a2,a3⟩,a4⟩:=OP _ H (R x y k2) hp;have hall:v.cells.all PV.sc=true:=by rw[List.all_eq_true];exact eQ hb.1
    obtain⟨s1,s2,s3⟩:=FP a4 hall;have hrow:=(hc.mono a2.le).set (vs:=(ρ y).cells.toList) hb.2 hb.1 (by simp [s1,MB hb.1]) (fun j z hz=>by obtain⟨u,q1,q2⟩:=s2 j z hz;exact⟨u,by simpa using q1,q2⟩)
    obtain⟨⟨b1,b2,b3⟩,b4,c',b5,b6,b7⟩:=z0U a1 (fun p q hpq=>(R p q hpq).evo a2) k3 hrow e
    refine⟨⟨b1,a2.trans b2,by simpa using mA.trans a3 b3⟩,by simpa using b4,c',?_,by rw[b6,kF],b7⟩
    simp only[List.map_cons,Instr.fill];have hsz:(i+1)*gA sh≤xs.length*gA sh:=Nat.mul_le_mul_right _ hb.2
    rw[Nat.add_mul,Nat.one_mul]at hsz;have hneg:¬((decide ((ρ y).cells.size≠gA sh)||decide (i*gA sh+(ρ y).cells.size>c.size))=true):=by
     have:=hc.1;have:=MB hb.1;simp;omega
    rw[if_neg hneg,z1n];exact b5
   ·cases e
  ·cases e
def IR (P:Program)(sh:Sh)(n:Nat)(z:PV)(ps:List (Nat × Opd))(t:TypeId)(n':Nat)(qs:List (Nat × Operand)):Bool:=match P.underlying t with
 | some (.slice e)=>PA P e==some sh&&LJ P e sh z&&n==n'&&decide (n*gA sh≤2^24)&&decide (gA sh≠0)&&fH ps qs
 | _=>false
theorem z7o {own:Bool}{sh:Sh}{n n':Nat}{z:PV}{ps:List (Nat × Opd)}{t:TypeId}{qs:Array (Nat × Operand)}(hc:IR P sh n z ps t n' qs.toList=true){ev:Opd→AV}{ρ:Operand→Value}{v:AV}{h1:aA}{e:Esc}
 (H:HeapRel h μ w) (R:LC (imm h μ w) h μ ev ρ) (he:aop (.bsl own sh n z ps) ev h=some (v,h1,e)) :
 kA P (do pure (.value (←Instr.buildSlice t n' (qs.map fun(i,x)=>(i,ρ x))))) h μ w v h1 e:=by
 unfold IR at hc;split at hc
 ·rename_i el hu
  simp only[Bool.and_eq_true,beq_iff_eq,decide_eq_true_eq]at hc;obtain⟨⟨⟨⟨⟨c1,c2⟩,rfl⟩,c4⟩,c5⟩,c6⟩:=hc;obtain⟨i,zv,z1,z2,z3,z4,z5,z6⟩:=vX c2;simp only[aop]at he;split at he
  ·rename_i xs h2 hf
   split at he
   ·cases he
   ·injection he with he
    have hrow0:NC (imm h μ w) sh (List.replicate n z) ((Array.range (n*gA sh)).map (fun k=>zv.cells[k%zv.cells.size]!)):=uX z4 z5 (z6 _) (Nat.le_refl _)
    obtain⟨hp,hlen,c',f1,f2,f3⟩:=z0U H R c6 hrow0 hf;simp at hlen;have hrun:(Instr.buildSlice t n (qs.map fun(i,x)=>(i,ρ x))).run P w = .ok (.slice (some ⟨w.heap.size,0,none⟩) n n) { w with heap:=w.heap.push (.cells c' el (0,0)) }:=by
     unfold Instr.buildSlice;rw[Sem.run_bind,AA hu];simp only[Result.andThen_ok,Sem.run_bind,JC c1];rw[if_neg (by omega)]
     have hq:(Array.map (fun x=>(x.fst,ρ x.snd)) qs).toList=qs.toList.map fun y=>(y.1,ρ y.2):=by simp
     by_cases hn:n*gA sh=0
     ·have hn0:n=0:=by
       rcases Nat.eq_zero_or_pos n with h0|h0
       ·exact h0
       ·have:0<n*gA sh:=Nat.mul_pos h0 (by omega);omega
      subst hn0;have hqs:qs.toList=[]:=by
       cases ps with
       | nil=>cases hqq:qs.toList with
        | nil=>rfl
        | cons a b=>rw[hqq]at c6;simp [fH]at c6
       | cons a b=>simp [aF]at hf;split at hf <;> simp at hf
      have hc0:c' = #[]:=by apply Array.eq_empty_of_size_eq_zero;rw[f2];simp
      subst hc0;simp [hqs,Instr.fill,jF,z2H]
     ·simp only[hn,if_false,Sem.run_bind,aQ z1 z2,Result.andThen_ok,Sem.run_pure,hq,f1,jF]
    have hsz:c'.size=n*gA sh:=by rw[f2];simp
    have hB:QA { w with heap:=w.heap.push (.cells c' el (0,0)) } w.heap.size c'.size c':=QA.push c' el
    cases own with
    | false=>
     simp only[cond_false,Prod.mk.injEq]at he;obtain⟨rfl,rfl,rfl⟩:=he;refine kA.after hp (kA.ext hp.1 (WExt.push w _) (sA hrun) ?_);have:=zeN (cap:=n) hp.1 (WExt.push w (.cells c' el (0,0))) (Nat.le_refl _) hB (by omega) f3.2.1 f3.2.2
     rw[hlen]at this;exact .p _ _ this
    | true=>
     simp only[cond_true,Prod.mk.injEq]at he;obtain⟨rfl,rfl,rfl⟩:=he;refine kA.after hp ?_;obtain⟨n1,n2⟩:=QF hp.1 (WExt.push w (.cells c' el (0,0))) (Nat.le_refl _) (by simp) hB (by rw[hsz,hlen];exact Nat.le_refl _) f3.2.1 f3.2.2
     refine⟨_,_,_,sA hrun,.inl ⟨_,rfl,?_⟩,n1,n2,mA.push (by simp [Obj.top])⟩
     refine .own h2.length n 0 n _ n sh xs 0 (some (w.heap.size,c'.size)) (Nat.le_refl _) (by simp) (by rw[←hp.1.len];simp) (by omega) (by omega) (fun _=>?_)
     right;refine⟨by simp,by rw[hsz];simp⟩
  ·cases he
 ·cases hc
def PR (P:Program)(sh:Sh)(z:PV)(t:TypeId):Bool:=match P.underlying t with
 | some (.slice e)=>PA P e==some sh&&LJ P e sh z&&decide (gA sh≠0)&&(match P.info? e with|some i=>decide (i.bytes≤256)|none=>false)
 | _=>false
theorem z4z {n:Nat}(hn:n≤IA):IntKind.i64.wrap (n:Int)=(n:Int):=by
 unfold IA at hn;simp [IntKind.wrap,IntKind.bits,IntKind.signed];omega
theorem zeC {sh:Sh}{z:PV}{t:TypeId}(hc:PR P sh z t=true){ev:Opd→AV}{p q:Opd}{x y:Value}{v:AV}{h1:aA}{e:Esc}(H:HeapRel h μ w)(Rp:RAV (imm h μ w) h μ (ev p) x)(Rq:RAV (imm h μ w) h μ (ev q) y)
 (he:aop (.mksl sh z p q) ev h=some (v,h1,e)):kA P (do pure (.value (←Instr.makeSlice t x y))) h μ w v h1 e:=by
 unfold PR at hc;split at hc
 ·rename_i el hu
  simp only[Bool.and_eq_true,beq_iff_eq,decide_eq_true_eq]at hc;obtain⟨⟨⟨c1,c2⟩,c3⟩,c4⟩:=hc;obtain⟨i,zv,z1,z2,z3,z4,z5,z6⟩:=vX c2;rw[z1]at c4;simp only[decide_eq_true_eq]at c4;simp only[aop]at he;split at he
  ·rename_i n m hn hm
   split at he
   ·rename_i hb
    simp at he;obtain⟨rfl,rfl,rfl⟩:=he;obtain⟨kk,rfl⟩:=QD hn Rp;obtain⟨kk',rfl⟩:=QD hm Rq;have hrow:NC (imm h μ w) sh (List.replicate n z) ((Array.range (m*gA sh)).map (fun k=>zv.cells[k%zv.cells.size]!)):=uX z4 z5 (z6 _) (Nat.mul_le_mul_right _ hb.1)
    have hrun:(Instr.makeSlice t (.int kk n) (.int kk' m)).run P w = .ok (.slice (some ⟨w.heap.size,0,none⟩) n m) { w with heap:=w.heap.push (.cells ((Array.range (m*gA sh)).map (fun k=>zv.cells[k%zv.cells.size]!)) el (0,0)) }:=by
     unfold Instr.makeSlice;rw[Sem.run_bind,AA hu];simp only[Result.andThen_ok,asInt,asIntOf,Sem.run_bind,Sem.run_map,Sem.run_pure,eG z1,z4z hb.2.1,z4z (Nat.le_trans hb.1 hb.2.1)];have hbig:(i.bytes:Int)*(m:Int)≤70368744177664:=by
      have h1:m≤274877906944:=hb.2.1
      have h2:i.bytes*m≤70368744177664:=Nat.mul_le_mul c4 h1
      have h3:=Int.ofNat_le.2 h2
      rwa [Int.natCast_mul]at h3
     rw[if_neg]
     ·simp only[Sem.run_bind,run_askRoom,Result.andThen_ok,JC c1,Int.toNat_natCast]
      by_cases hn0:m*gA sh=0
      ·simp only[hn0,if_true,Sem.run_pure,Result.andThen_ok,jF,z2H]
       simp only[Array.map_empty,List.map_toArray,List.map_nil,Sem.run_bind,Sem.run_pure,Result.andThen_ok];rw[jF];rfl
      ·simp only[hn0,if_false,Sem.run_bind,aQ z1 z2,Result.andThen_ok,Sem.run_pure,jF]
     ·simp
      omega
    have hB:QA { w with heap:=w.heap.push (.cells ((Array.range (m*gA sh)).map (fun k=>zv.cells[k%zv.cells.size]!)) el (0,0)) } w.heap.size (m*gA sh) ((Array.range (m*gA sh)).map (fun k=>zv.cells[k%zv.cells.size]!)):=by
     have:=QA.push (w:=w) ((Array.range (m*gA sh)).map (fun k=>zv.cells[k%zv.cells.size]!)) el
     simpa using this
    obtain⟨n1,n2⟩:=QF (sh:=sh) (xs:=List.replicate n z) H (WExt.push w (.cells ((Array.range (m*gA sh)).map (fun k=>zv.cells[k%zv.cells.size]!)) el (0,0))) (Nat.le_refl _) (by simp) hB (by rw[List.length_replicate];exact Nat.mul_le_mul_right _ hb.1) hrow.2.1 hrow.2.2
    refine⟨_,_,_,sA hrun,.inl ⟨_,rfl,?_⟩,n1,n2,mA.push (by simp [Obj.top])⟩
    refine .own h.length n 0 n _ m sh (List.replicate n z) 0 (some (w.heap.size,m*gA sh)) hb.1 (by simp) (by rw[←H.len];simp) (by simp) (by omega) (fun _=>?_)
    right;exact⟨by simp,by simp⟩
   ·cases he
  ·cases he
 ·cases hc
end Go.Am
end
section
/- The abstract machine,part 14: append,copy,conversions,lengths. -/
set_option linter.unusedSimpArgs false
set_option linter.unusedVariables false
set_option maxHeartbeats 1000000
namespace Go.Am
variable {h h':aA} {μ μ':Mu} {w w':World} {P:Program} {M M':Mem}
theorem JU {xs:List PV}{e:Nat}(he:∀ x∈xs,x.cells.length=e):(xs.flatMap PV.cells).length=xs.length*e:=by
 induction xs with
 | nil=>simp
 | cons x r ih=>
  rw[List.flatMap_cons,List.length_append,he x (by simp),ih (fun y hy=>he y (by simp [hy])),List.length_cons,Nat.add_mul]
  omega
def pF (M:Mem)(sh:Sh)(ys:List PV)(c:List Value):Prop:=
 c.length=ys.length*gA sh∧(∀y∈ys,y.shp sh=true)∧∀(j:Nat) (y:PV),(ys.flatMap PV.cells)[j]?=some y→∃v,c[j]?=some v∧RPV M y v
theorem CY (s:List UInt8):(ZA s).flatMap PV.cells=ZA s:=by
 induction s with
 | nil=>rfl
 | cons b r ih=>simp only[ZA,List.map_cons,List.flatMap_cons]at ih ⊢;rw[ih];rfl
theorem wL (H:HeapRel h μ w){v:AV}{x:Value}{sh:Sh}{ys:List PV}(R:RAV (imm h μ w) h μ v x)(hr:rds h v=some (sh,ys)) :
 (Builtin.lenOf x).run P w = .ok ys.length w∧∀n,n≤ys.length→∃c,(∀k,(Builtin.firstCells (gA sh) n x).run P { w with drawn:=k } = .ok c { w with drawn:=k })∧pF (imm h μ w) sh (ys.take n) c.toList:=by
 have key:rd h v=some (sh,ys)→(Builtin.lenOf x).run P w = .ok ys.length w∧∀n,n≤ys.length→∃c,(∀k,(Builtin.firstCells (gA sh) n x).run P { w with drawn:=k } = .ok c { w with drawn:=k })∧pF (imm h μ w) sh (ys.take n) c.toList:=by
  intro hr;obtain⟨a,cap,rfl,hcap,hrd⟩:=z2J H R hr;refine⟨by simp [Builtin.lenOf],fun n hn=>?_⟩
  by_cases hne:ys=[]
  ·subst hne
   have:n=0:=by simpa using hn
   subst this;refine⟨#[],fun k=>?_,by simp,by simp,fun j y hy=>by simp at hy⟩
   cases a with
   | none=>simp [Builtin.firstCells]
   | some a=>simp [Builtin.firstCells,loadCells,loadCellsFrom]
  ·obtain⟨b,o,f,rfl,he,hcell⟩:=hrd hne
   have he':∀x∈ys,x.cells.length=gA sh:=fun x hx=>MB (he x hx)
   have hfl:=JU he'
   have hsub:∀(j:Nat) (y:PV),((ys.take n).flatMap PV.cells)[j]?=some y→(ys.flatMap PV.cells)[j]?=some y:=by
    intro j y hy;have:ys.flatMap PV.cells=(ys.take n).flatMap PV.cells++(ys.drop n).flatMap PV.cells:=by rw[←List.flatMap_append,List.take_append_drop]
    rw[this];exact fF hy
   refine⟨((List.range (n*gA sh)).map f).toArray,fun k=>?_,by simp [Nat.min_eq_left hn],fun y hy=>he y (List.mem_of_mem_take hy),fun j y hy=>?_⟩
   ·simp only[Builtin.firstCells]
    refine z3h (fun j hj=>?_)
    have hlt:j<(ys.flatMap PV.cells).length:=by
     rw[hfl];have:n*gA sh≤ys.length*gA sh:=Nat.mul_le_mul_right _ hn
     omega
    exact(hcell j _ (List.getElem?_eq_getElem hlt)).1
   ·have hlt:j<n*gA sh:=by
     have h1:=tA hy
     rw[JU (fun x hx=>he' x (List.mem_of_mem_take hx))]at h1
     simp at h1;rw[Nat.min_eq_left hn]at h1;exact h1
    exact⟨f j,by simp [hlt],(hcell j y (hsub j y hy)).2⟩
 cases v with
 | p pv=>
  cases pv with
  | str s=>
   simp only[rds,Option.some.injEq,Prod.mk.injEq]at hr;obtain⟨rfl,rfl⟩:=hr;rw[R.p_str];refine⟨by simp [Builtin.lenOf,ZA,ByteArray.size],fun n hn=>?_⟩
   refine⟨((s.take n).map fun b=>Value.int .u8 b.toNat).toArray,fun k=>?_,by simp [ZA,gA],fun y hy=>?_,fun j y hy=>?_⟩
   ·simp only[Builtin.firstCells]
    have:(ByteArray.extract ⟨s.toArray⟩ 0 n).data=(s.take n).toArray:=by
     simp [ByteArray.data_extract,List.extract_eq_take_drop]
    simp [this]
   ·have:=List.mem_of_mem_take hy
    simp only[ZA,List.mem_map]at this;obtain⟨b,_,rfl⟩:=this;rfl
   ·have h2:(ZA s).take n=ZA (s.take n):=by simp [ZA]
    rw[h2,CY]at hy;simp only[ZA,List.getElem?_map,Option.map_eq_some_iff]at hy;obtain⟨b,hb,rfl⟩:=hy;exact⟨.int .u8 b.toNat,by rw[List.getElem?_toArray.symm] <;> simp [←List.map_take,hb],.int _ _⟩
  | sl sh' xs=>exact key (by simpa [rds] using hr)
  | _=>simp [rds,rd]at hr
 | sl0 sh'=>exact key (by simpa [rds] using hr)
 | own a b c d=>exact key (by simpa only[rds] using hr)
 | _=>simp [rds,rd]at hr
def OE (P:Program)(sh:Sh)(t:TypeId)(u:TypeId):Bool:=match P.underlying t with
 | some (.slice e)=>PA P e==some sh&&(match P.info? e with|some i=>decide (i.bytes≤256)&&decide (0<i.bytes)&&(match i.zero with|some v=>v.cells.size==i.size|none=>false)&&i.size==gA sh|none=>false) &&
  decide (gA sh≠0)&&(match P.underlying u with|some (.int _)=>false|some _=>true|none=>false)
 | _=>false
theorem z1D (n:Nat):∀(r c:Nat),c≤2*n+768→Builtin.growBy n r c≤2*n+768
 | 0,c,hc=>hc
 | r+1,c,hc=>by
  unfold Builtin.growBy;split
  ·exact hc
  ·rename_i h
   exact z1D n r _ (by omega)
theorem zeO {need cap:Nat}(h:cap<need):Builtin.nextslicecap need cap≤2*need+768:=by
 unfold Builtin.nextslicecap;split
 ·omega
 ·split
  ·omega
  ·exact z1D need 4 cap (by omega)
theorem qY (need old:Nat)(e:TypeId)(t:Nat):need≤(Question.appendCap need old e).cut t:=by
 simp [Question.cut]
theorem cG {sh:Sh}{t u ty:TypeId}(hc:OE P sh t u=true){base:Option Addr}{sLen sCap n:Nat}{x:Value}{c:Array Value}(hl:(Builtin.lenOf x).run P w = .ok n w)
 (hf:(Builtin.firstCells (gA sh) n x).run P w = .ok c w) (hroom:sLen+n≤sCap) {w':World} (hst:(match base with|some a=>storeCells (a.add (sLen*gA sh)) c.toList|none=>(pure ():Sem Unit)).run P w = .ok () w') :
 (Builtin.append_ #[t,u] ty #[.slice base sLen sCap,x]).run P w = .ok (.slice base (sLen+n) sCap) w':=by
 unfold OE at hc;split at hc
 ·rename_i e hu
  simp only[Bool.and_eq_true,beq_iff_eq,decide_eq_true_eq]at hc;obtain⟨⟨⟨c1,c2⟩,c3⟩,c4⟩:=hc;have hu2:∃d,P.underlying u=some d∧(match d with | .int _=>true|_=>false)=false:=by
   cases hd:P.underlying u with
   | none=>rw[hd]at c4;simp at c4
   | some d=>refine⟨d,rfl,?_⟩;rw[hd]at c4;cases d <;> simp_all
  obtain⟨d,hd1,hd2⟩:=hu2;cases base with
  | none=>
   simp only at hst;have hw:w'=w:=by simpa using hst.symm
   subst hw;cases d <;> first|(exact Bool.noConfusion hd2)|simp only[Builtin.append_,List.getElem?_toArray,List.getElem?_cons_zero,List.getElem?_cons_succ,Sem.run_bind,AA hu,Result.andThen_ok,JC c1,AA hd1,Sem.run_pure,Sem.run_map,hl,Bool.false_eq_true,if_false,hroom,if_true,Bool.not_false,hf]
  | some a=>
   simp only at hst;cases d <;> first|(exact Bool.noConfusion hd2)|simp only[Builtin.append_,List.getElem?_toArray,List.getElem?_cons_zero,List.getElem?_cons_succ,Sem.run_bind,AA hu,Result.andThen_ok,JC c1,AA hd1,Sem.run_pure,Sem.run_map,hl,Bool.false_eq_true,if_false,hroom,if_true,Bool.not_false,hf,hst]
 ·cases hc
theorem zi6 {sh:Sh}{t u ty:TypeId}(hc:OE P sh t u=true){base:Option Addr}{sLen sCap n:Nat}{x:Value}{c old:Array Value}(hl:(Builtin.lenOf x).run P w = .ok n w)
 (hf:∀k,(Builtin.firstCells (gA sh) n x).run P { w with drawn:=k } = .ok c { w with drawn:=k }) (hroom:sCap<sLen+n) (hn:sLen+n≤IA)
 (ho:∀k,(Builtin.firstCells (gA sh) sLen (.slice base sLen sCap)).run P { w with drawn:=k } = .ok old { w with drawn:=k }) :
 ∃e newCap rest,P.underlying t=some (.slice e)∧sLen+n≤newCap∧rest.size=(newCap-(sLen+n))*gA sh ∧
  (Builtin.append_ #[t,u] ty #[.slice base sLen sCap,x]).run P w = .ok (.slice (some ⟨w.heap.size,0,none⟩) (sLen+n) newCap) { w with drawn:=w.drawn+1,heap:=w.heap.push (.cells (old++c++rest) e (0,0)) }:=by
 unfold OE at hc;split at hc
 ·rename_i e hu
  simp only[Bool.and_eq_true,beq_iff_eq,decide_eq_true_eq]at hc;obtain⟨⟨⟨c1,c2⟩,c3⟩,c4⟩:=hc;have hu2:∃d,P.underlying u=some d∧(match d with | .int _=>true|_=>false)=false:=by
   cases hd:P.underlying u with
   | none=>rw[hd]at c4;simp at c4
   | some d=>refine⟨d,rfl,?_⟩;rw[hd]at c4;cases d <;> simp_all
  obtain⟨d,hd1,hd2⟩:=hu2;have hi2:∃i z,P.info? e=some i∧i.bytes≤256∧0<i.bytes∧i.zero=some z∧z.cells.size=gA sh:=by
   cases hi:P.info? e with
   | none=>rw[hi]at c2;simp at c2
   | some i=>
    rw[hi]at c2;simp only[Bool.and_eq_true,decide_eq_true_eq,beq_iff_eq]at c2;obtain⟨⟨⟨b1,b2⟩,b3⟩,b4⟩:=c2;cases hz:i.zero with
    | none=>rw[hz]at b3;simp at b3
    | some z=>rw[hz]at b3;simp at b3;exact⟨i,z,rfl,b1,b2,hz,by rw[b3,b4]⟩
  obtain⟨i,z,hi,b1,b2,hz,hzs⟩:=hi2;have hcapb:¬(Builtin.nextslicecap (sLen+n) sCap*i.bytes>2^48):=by
   have h1:=zeO hroom
   have h2:sLen+n≤274877906944:=hn
   have h3:Builtin.nextslicecap (sLen+n) sCap*i.bytes≤549755814656*256:=Nat.mul_le_mul (by omega) b1
   omega
  have hno:¬sLen+n≤sCap:=by omega
  have hby0:¬i.bytes=0:=by omega
  refine⟨e,(Question.appendCap (sLen+n) sCap e).cut (w.tape w.drawn (.appendCap (sLen+n) sCap e)),Builtin.zeroCells z.cells ((Question.appendCap (sLen+n) sCap e).cut (w.tape w.drawn (.appendCap (sLen+n) sCap e))-(sLen+n)),hu,qY _ _ _ _,?_,?_⟩
  ·rw[size_zeroCells,hzs]
  ·have hforced:(Question.appendCap (sLen+n) sCap e).forced=false:=rfl
   cases d <;> first|(exact Bool.noConfusion hd2)|simp only[Builtin.append_,List.getElem?_toArray,List.getElem?_cons_zero,List.getElem?_cons_succ,Sem.run_bind,AA hu,Result.andThen_ok,JC c1,AA hd1,Sem.run_pure,Sem.run_map,hl,Bool.false_eq_true,if_false,hno,hby0,or_self,and_false,eG hi,hcapb,run_choose,hforced,run_askRoom,hf,ho,aQ hi hz,jF,Bool.not_false,if_true,decide_false,false_or]
 ·cases hc
end Go.Am
end
section
/- The abstract machine,part 15: append,copy. -/
set_option linter.unusedSimpArgs false
set_option linter.unusedVariables false
set_option maxHeartbeats 1000000
namespace Go.Am
variable {h h':aA} {μ μ':Mu} {w w':World} {P:Program} {M M':Mem}
theorem zju {α:Type}(cs vs:List α)(off j:Nat)(hl:off≤cs.length):(splice cs off vs)[j]?=if off≤j∧j<off+vs.length then vs[j-off]? else cs[j]?:=by
 unfold splice;by_cases h1:j<off
 ·rw[List.getElem?_append_left (by simp;omega),List.getElem?_append_left (by simp;omega),List.getElem?_take,if_pos h1,if_neg (by omega)]
 ·by_cases h2:j<off+vs.length
  ·rw[List.getElem?_append_left (by simp;omega),List.getElem?_append_right (by simp;omega),if_pos (by omega)]
   simp [Nat.min_eq_left hl]
  ·rw[List.getElem?_append_right (by simp;omega),if_neg (by omega),List.getElem?_drop]
   congr 1
   simp;omega
theorem fQ {α:Type}(cs vs:List α)(off:Nat)(hl:off≤cs.length):(splice cs off vs).length=max cs.length (off+vs.length):=by
 unfold splice;simp;omega
theorem z3P {α:Type}(cs vs:List α):splice cs cs.length vs=cs++vs:=by
 unfold splice;simp
theorem pF.one {sh:Sh}{ys:List PV}{c:List Value}(H:pF M sh ys c):∀v∈c,v.oneCell'=true:=by
 intro v hv;obtain⟨j,hj,e⟩:=List.getElem_of_mem hv;have he:∀x∈ys,x.cells.length=gA sh:=fun x hx=>MB (H.2.1 x hx)
 have hlt:j<(ys.flatMap PV.cells).length:=by rw[JU he,←H.1];exact hj
 have hy:=List.getElem?_eq_getElem hlt
 obtain⟨x,h1,h2,_,_⟩:=bF he hy;have hs:=eQ (H.2.1 x (List.mem_of_getElem? h1)) _ (List.mem_of_getElem? h2)
 obtain⟨v',h3,h4⟩:=H.2.2 j _ hy;rw[List.getElem?_eq_getElem hj,e]at h3;injection h3 with h3
 subst h3;exact dQ (h:=[]) (μ:=[]) (.p _ _ h4) hs
theorem iJ {id at_:Nat}{sh:Sh}{xs ys:List PV}{fz b n:Nat}{c:Array Value}{vs:List Value}(H:HeapRel h μ w)(ho:h[id]?=some (.row sh xs fz))(hm:μ[id]?=some (some (b,n)))
 (hB0:QA w b n c (xs.length<fz)) (hR:pF (imm h μ w) sh ys vs) (hfz:fz≤at_) (hat:at_≤xs.length) (hn:(at_+ys.length)*gA sh≤n) :
 ∃w',(storeCells ⟨b,at_*gA sh,none⟩ vs).run P w = .ok () w'∧HeapRel (h.set id (.row sh (splice xs at_ ys) fz)) μ w' ∧
  Evo (imm h μ w) h μ (imm (h.set id (.row sh (splice xs at_ ys) fz)) μ w') (h.set id (.row sh (splice xs at_ ys) fz)) μ∧mA h (h.set id (.row sh (splice xs at_ ys) fz)) []:=by
 have hB:=hB0.unsl (by omega)
 obtain⟨k1,k2,c',hB',hn',hcell⟩:=H.obj id _ _ ho hm;have hcc:c'=c:=by
  obtain⟨_,E,lo,hi,e1,_⟩:=hB;obtain⟨_,E',lo',hi',e2,_⟩:=hB';rw[e1]at e2;injection e2 with e2;injection e2 with e2;exact e2.symm
 subst hcc;have hmul:(at_+ys.length)*gA sh=at_*gA sh+ys.length*gA sh:=Nat.add_mul _ _ _
 obtain⟨E,lo,hi,g1,g2⟩:=z3n (P:=P) (o:=at_*gA sh) vs w c' 0 hB (by rw[hR.1];omega) hR.one
 simp only[Nat.add_zero]at g2;have hlo:¬False→lo<hi→n≤lo:=by
  obtain⟨_,E',lo',hi'',q1,q2⟩:=hB;rw[g1]at q1;injection q1 with q1;injection q1 with _ _ q3;injection q3 with q3 q4;subst q3;subst q4;exact q2
 have hsz:at_*gA sh+vs.length≤c'.size:=by rw[hB.1,hR.1];omega
 have hμ:μ.set id (some (b,n))=μ:=GE hm
 have he:∀x∈ys,x.cells.length=gA sh:=fun x hx=>MB (hR.2.1 x hx)
 have key:=H.set (w':=XA w b (.cells (zB c' (at_*gA sh) vs) E (lo,hi))) (o':=.row sh (splice xs at_ ys) fz) (m':=some (b,n)) ho hm ⟨_,fz,rfl,by rw[fQ _ _ _ hat];omega,fun _=>rfl⟩
  rfl (Nat.le_of_eq (oJ _ _).symm) (fun b' _ hb'=>nJ (fun e=>hb' n (by rw[e])))
  (fun b' n e=>.inl ⟨n,e⟩) (fun b' n' sh2 xs2 fz2 e1 e2=>by
   injection e2 with e2 e3 e4
   subst e2;subst e3;subst e4
   injection e1 with e1;injection e1 with e1 _;subst e1
   refine⟨_,fz,rfl,fun j hj=>⟨?_,fun _ _=>hj⟩⟩
   have hB':QA (XA w b (.cells (zB c' (at_*gA sh) vs) E (lo,hi))) b n (zB c' (at_*gA sh) vs):=⟨by rw[kF,hB.1],E,lo,hi,lE g1,hlo⟩
   rw[PC hB',PC hB,jH _ _ _ _ hsz,if_neg];have:fz*gA sh≤at_*gA sh:=Nat.mul_le_mul_right _ hfz
   omega)
  (fun M' Ev=>by
   refine⟨by rw[fQ _ _ _ hat];omega,fun z hz=>?_,zB c' (at_*gA sh) vs,QA.sealed _ ⟨by rw[kF,hB.1],E,lo,hi,lE g1,hlo⟩,?_,fun i2 j z u hz hu=>?_⟩
   ·simp only[splice,List.mem_append]at hz
    rcases hz with(hz|hz)|hz
    ·exact k2 z (List.mem_of_mem_take hz)
    ·exact hR.2.1 z hz
    ·exact k2 z (List.mem_of_mem_drop hz)
   ·rw[fQ _ _ _ hat]
    rcases Nat.le_total xs.length (at_+ys.length) with q|q
    ·rw[Nat.max_eq_right q];exact hn
    ·rw[Nat.max_eq_left q];exact hn'
   ·rw[zju _ _ _ _ hat]at hz
    rw[jH _ _ _ _ hsz];split at hz
    ·rename_i hi2
     have hj:j<gA sh:=by
      have:=he z (List.mem_of_getElem? hz);have:=tA hu;omega
     have hfl:=RG he (i2-at_) j hj
     rw[hz]at hfl;simp only[Option.bind_some,hu]at hfl;obtain⟨v,q1,q2⟩:=hR.2.2 _ u hfl;have hidx:i2*gA sh+j-at_*gA sh=(i2-at_)*gA sh+j:=by
      have:i2*gA sh=at_*gA sh+(i2-at_)*gA sh:=by rw[←Nat.add_mul];congr 1;omega
      omega
     have hlt:=tA q1
     have hge:at_*gA sh≤i2*gA sh:=Nat.mul_le_mul_right _ hi2.1
     rw[if_pos ⟨by omega,by omega⟩,hidx]
     exact⟨v,q1,q2.mono Ev.le⟩
    ·rename_i hi2
     have hj:j<gA sh:=by
      have:=MB (k2 z (List.mem_of_getElem? hz));have:=tA hu;omega
     rw[if_neg]
     ·obtain⟨v,q1,q2⟩:=hcell i2 j z u hz hu
      exact⟨v,q1,q2.mono Ev.le⟩
     ·rintro⟨q1,q2⟩
      apply hi2
      rw[hR.1]at q2;constructor
      ·rcases Nat.lt_or_ge i2 at_ with q|q
       ·have:(i2+1)*gA sh≤at_*gA sh:=Nat.mul_le_mul_right _ q
        rw[Nat.add_mul,Nat.one_mul]at this;omega
       ·exact q
      ·rcases Nat.lt_or_ge i2 (at_+ys.length) with q|q
       ·exact q
       ·have:(at_+ys.length)*gA sh≤i2*gA sh:=Nat.mul_le_mul_right _ q
        omega) (uN g1)
 rw[hμ]at key;exact⟨_,g2,key.1,key.2,mA.set ho (by simp [Obj.top])⟩
theorem NC.join {sh:Sh}{xs ys:List PV}{old c rest:Array Value}(H1:pF M sh xs old.toList)(H2:pF M sh ys c.toList):NC M sh (xs++ys) (old++c++rest):=by
 have h1:old.size=xs.length*gA sh:=by simpa using H1.1
 have h2:c.size=ys.length*gA sh:=by simpa using H2.1
 have e1:∀x∈xs,x.cells.length=gA sh:=fun x hx=>MB (H1.2.1 x hx)
 have e2:∀x∈ys,x.cells.length=gA sh:=fun x hx=>MB (H2.2.1 x hx)
 refine⟨by simp [h1,h2,Nat.add_mul],fun x hx=>?_,fun i j x y hx hy=>?_⟩
 ·rcases List.mem_append.1 hx with hx|hx
  ·exact H1.2.1 x hx
  ·exact H2.2.1 x hx
 ·rcases Nat.lt_or_ge i xs.length with hi|hi
  ·rw[List.getElem?_append_left hi]at hx
   have hj:j<gA sh:=by have:=e1 x (List.mem_of_getElem? hx);have:=tA hy;omega
   have hf:=RG e1 i j hj
   rw[hx]at hf;simp only[Option.bind_some,hy]at hf;obtain⟨v,q1,q2⟩:=H1.2.2 _ y hf;have:=tA q1;refine⟨v,?_,q2⟩;rw[Array.getElem?_append_left (by simp at this ⊢;omega),Array.getElem?_append_left (by simpa using this)]
   simpa using q1
  ·rw[List.getElem?_append_right hi]at hx
   have hj:j<gA sh:=by have:=e2 x (List.mem_of_getElem? hx);have:=tA hy;omega
   have hf:=RG e2 (i-xs.length) j hj
   rw[hx]at hf;simp only[Option.bind_some,hy]at hf;obtain⟨v,q1,q2⟩:=H2.2.2 _ y hf;have hlt:=tA q1
   have hidx:i*gA sh+j=xs.length*gA sh+((i-xs.length)*gA sh+j):=by
    have:i*gA sh=xs.length*gA sh+(i-xs.length)*gA sh:=by rw[←Nat.add_mul];congr 1;omega
    omega
   refine⟨v,?_,q2⟩;simp only[Array.length_toList]at hlt;rw[hidx,Array.getElem?_append_left (by simp;omega),Array.getElem?_append_right (by omega),h1,Nat.add_sub_cancel_left]
   simpa using q1
theorem RK {sh:Sh}{t u ty:TypeId}(hc:OE P sh t u=true){base:Option Addr}{sCap:Nat}{x:Value}{v:AV}{xs ys:List PV}(H:HeapRel h μ w)(R:RAV (imm h μ w) h μ v x)(hr:rds h v=some (sh,ys))
 (hroom:sCap<xs.length+ys.length) (hn:xs.length+ys.length≤IA) {v0:AV} (R0:RAV (imm h μ w) h μ v0 (.slice base xs.length sCap)) (hr0:rds h v0=some (sh,xs)) :
 ∃newCap n w' c,xs.length+ys.length≤newCap∧newCap*gA sh=n∧(Builtin.append_ #[t,u] ty #[.slice base xs.length sCap,x]).run P w = .ok (.slice (some ⟨w.heap.size,0,none⟩) (xs.length+ys.length) newCap) w' ∧
  WExt w w'∧w.heap.size<w'.heap.size∧QA w' w.heap.size n c∧NC (imm h μ w) sh (xs++ys) c∧∀e,P.underlying t=some (.slice e)→ety w' w.heap.size=some e:=by
 have S:=wL (P:=P) H R hr
 obtain⟨c,hck,hc2⟩:=S.2 ys.length (Nat.le_refl _);rw[List.take_length]at hc2;obtain⟨old,hok,ho2⟩:=(wL (P:=P) H R0 hr0).2 xs.length (Nat.le_refl _);rw[List.take_length]at ho2;obtain⟨e,newCap,rest,h0,h1,h2,h3⟩:=zi6 (ty:=ty) hc S.1 hck hroom hn hok;have hxs:xs.length*gA sh=old.size:=by rw[←ho2.1];simp
 have hys:ys.length*gA sh=c.size:=by rw[←hc2.1];simp
 have hsz:newCap*gA sh=(old++c++rest).size:=by
  simp only[Array.size_append,←hxs,←hys,h2,Nat.sub_mul,Nat.add_mul];have:=Nat.mul_le_mul_right (gA sh) h1;rw[Nat.add_mul]at this;omega
 exact⟨newCap,_,_,old++c++rest,h1,hsz,h3,⟨by simp,fun b hb=>by simp [Array.getElem?_push,Nat.ne_of_lt hb],rfl⟩,by simp,⟨rfl,e,0,0,by simp,fun _ h=>by omega⟩,NC.join ho2 hc2,fun e' he=>by
  rw[h0]at he;injection he with he
  injection he with he
  subst he;simp [ety]⟩
theorem z3b {id fz:Nat}{sh:Sh}{xs xs':List PV}(H:HeapRel h μ w)(ho:h[id]?=some (.row sh xs fz))(hl:xs'.length=xs.length)
 (hx:∀(i:Nat) (y:PV),xs'[i]?=some y→xs[i]?=some y∨(y = .unk∧∃z,xs[i]?=some z∧z.intP=true)) (hs:sh=none) :
 HeapRel (h.set id (.row sh xs' fz)) μ w∧Evo (imm h μ w) h μ (imm (h.set id (.row sh xs' fz)) μ w) (h.set id (.row sh xs' fz)) μ:=by
 subst hs;obtain⟨m,hm,hO⟩:=iE H ho;have hμ:μ.set id m=μ:=GE hm
 have key:=H.set (w':=w) (o':=.row none xs' fz) (m':=m) ho hm ⟨xs',fz,rfl,by omega,fun _=>rfl⟩ rfl (Nat.le_refl _) (fun _ _ _=>rfl) (fun b n e=>.inl ⟨n,e⟩)
  (fun b n sh2 xs2 fz2 e1 e2=>by
   injection e2 with e2 e3 e4
   subst e2;subst e3;subst e4
   exact⟨_,_,rfl,fun j hj=>⟨rfl,fun _ _=>hj⟩⟩)
  (fun M' E=>by
   obtain⟨k1,k2,k3⟩:=hO;refine⟨by omega,fun y hy=>?_,?_⟩
   ·obtain⟨i,hi⟩:=List.getElem?_of_mem hy
    rcases hx i y hi with q|⟨rfl,z,q,_⟩
    ·exact k2 y (List.mem_of_getElem? q)
    ·rfl
   ·cases m with
    | none=>
     have:xs=[]:=k3
     subst this;exact List.length_eq_zero_iff.1 hl
    | some m=>
     obtain⟨b,n⟩:=m;obtain⟨c,c1,c2,c3⟩:=k3;refine⟨c,c1.imp (fun q=>by omega),by rw[hl];exact c2,fun i j x y hx1 hy1=>?_⟩
     rcases hx i x hx1 with q|⟨rfl,z,q,hz⟩
     ·obtain⟨v,v1,v2⟩:=c3 i j x y q hy1
      exact⟨v,v1,v2.mono E.le⟩
     ·have hj:j=0:=by
       cases j with
       | zero=>rfl
       | succ j=>simp [PV.cells]at hy1
      subst hj;have hy:y = .unk:=by simpa [PV.cells] using hy1.symm
      subst hy;cases z with
      | int k a=>
       obtain⟨v,v1,v2⟩:=c3 i 0 _ (.int k a) q rfl;cases v2;exact⟨_,v1,.unk _ _⟩
      | unk=>
       obtain⟨v,v1,v2⟩:=c3 i 0 _ .unk q rfl;cases v2;exact⟨_,v1,.unk _ _⟩
      | _=>cases hz) (fun _ _ _ _ h=>h)
 rw[hμ]at key;exact⟨key.1,key.2⟩
theorem vL {α:Type}(xs ys:List α)(o i:Nat)(ho:o≤xs.length):(splice xs o ys)[i]?=if i<o then xs[i]? else if i<o+ys.length then ys[i-o]? else xs[i]?:=by
 unfold splice;by_cases h1:i<o
 ·rw[if_pos h1,List.getElem?_append_left (by simp;omega),List.getElem?_append_left (by simp;omega),List.getElem?_take,if_pos h1]
 ·rw[if_neg h1]
  by_cases h2:i<o+ys.length
  ·rw[if_pos h2,List.getElem?_append_left (by simp;omega),List.getElem?_append_right (by simp;omega)]
   congr 1;simp;omega
  ·rw[if_neg h2,List.getElem?_append_right (by simp;omega),List.getElem?_drop]
   congr 1;simp;omega
theorem zkm {α:Type}(xs ys:List α)(off len:Nat)(hl:off+len≤xs.length):win (splice xs (off+len) ys) off (len+ys.length)=win xs off len++ys:=by
 apply List.ext_getElem?
 intro i;unfold win;rw[List.getElem?_take];by_cases h1:i<len
 ·rw[if_pos (by omega),List.getElem?_drop,vL _ _ _ _ hl,if_pos (by omega),List.getElem?_append_left (by simp;omega),List.getElem?_take,if_pos h1,List.getElem?_drop]
 ·by_cases h2:i<len+ys.length
  ·rw[if_pos h2,List.getElem?_drop,vL _ _ _ _ hl,if_neg (by omega),if_pos (by omega),List.getElem?_append_right (by simp;omega)]
   congr 1;simp;omega
  ·rw[if_neg h2,List.getElem?_append_right (by simp;omega)]
   rw[List.getElem?_eq_none (by simp;omega)]
theorem iY {xs:List PV}{i:Nat}{y:PV}(h:xs.all PV.intP=true)(hy:xs[i]?=some y):y.intP=true:=List.all_eq_true.1 h _ (List.mem_of_getElem? hy)
theorem z6G {sh:Sh}{t u ty:TypeId}(hc:OE P sh t u=true){ev:Opd→AV}{p q:Opd}{s x:Value}{v:AV}{h1:aA}{e:Esc}(H:HeapRel h μ w)(Rs:RAV (imm h μ w) h μ (ev p) s)(Rx:RAV (imm h μ w) h μ (ev q) x)
 (he:aop (.app sh p q) ev h=some (v,h1,e)):kA P (do pure (.value (←Builtin.append_ #[t,u] ty #[s,x]))) h μ w v h1 e:=by
 simp only[aop]at he;split at he
 ·rename_i sh' ys hr
  split at he
  ·rename_i hsh
   subst hsh;have S:=wL (P:=P) H Rx hr
   obtain⟨c,hck,hc2⟩:=S.2 ys.length (Nat.le_refl _);rw[List.take_length]at hc2;have hck0:(Builtin.firstCells (gA sh') ys.length x).run P w = .ok c w:=hck w.drawn
   split at he
   ·rename_i sh0 hs0
    split at he
    ·rename_i hmax
     simp at he;obtain⟨rfl,rfl,rfl⟩:=he;rw[hs0]at Rs;obtain⟨a,rfl⟩:=sJ Rs;by_cases hz:ys.length=0
     ·have hy0:ys=[]:=List.length_eq_zero_iff.1 hz
      subst hy0;have hrun:=cG (ty:=ty) (base:=a) (sLen:=0) (sCap:=0) hc S.1 hck0 (by simp) (w':=w) (by
       have:c.toList=[]:=by apply List.length_eq_zero_iff.1;rw[hc2.1];simp
       cases a with
       | none=>rfl
       | some a=>rw[this];rfl)
      obtain⟨n1,n2⟩:=UK H sh';refine⟨_,_,_,sA hrun,.inl ⟨_,rfl,?_⟩,n1,n2,mA.push (by simp [Obj.top])⟩
      exact .own h.length 0 0 0 _ 0 sh' [] 0 none (Nat.le_refl _) (by simp) (by rw[←H.len];simp) (by simp) (by simp) (fun _=>rfl)
     ·obtain⟨newCap,n,w',c',g1,g2,g3,g4,g5,g6,g7,_⟩:=RK (ty:=ty) (base:=a) (sCap:=0) (xs:=[]) (v0:=.sl0 sh') hc H Rx hr (by simp;omega) (by simpa using hmax) (.sl0 sh' a) rfl
      simp only[List.nil_append,List.length_nil,Nat.zero_add]at g1 g3 g7;obtain⟨n1,n2⟩:=QF H g4 (Nat.le_refl _) g5 g6 (by rw[←g2];exact Nat.mul_le_mul_right _ g1) g7.2.1 g7.2.2
      refine⟨_,_,_,sA g3,.inl ⟨_,rfl,?_⟩,n1,n2,mA.push (by simp [Obj.top])⟩
      refine .own h.length ys.length 0 ys.length _ newCap sh' ys 0 (some (w.heap.size,n)) g1 (by simp) (by rw[←H.len];simp) (by simp) (by simp) (fun _=>?_)
      right;exact⟨by simp,by rw[←g2];simp⟩
    ·cases he
   ·rename_i id g off len hs0
    split at he
    ·rename_i rsh xs fz ho
     split at he
     ·rename_i hcond
      obtain⟨rfl,hg,rfl,hlen,hmax,hfz⟩:=hcond;simp at he;obtain⟨rfl,rfl,rfl⟩:=he;rw[hs0]at Rs;have RR:=CE H Rs ho hg
      obtain⟨_,k2,a,cap,rfl,hlc,hcap⟩:=RR;obtain⟨m,hm,hO⟩:=iE H ho;obtain⟨kf,_,kO⟩:=hO;subst hlen;subst hg;by_cases hroom:xs.length+ys.length≤cap
      ·by_cases hc0:0<cap
       ·obtain⟨b,n,c',hm',rfl,hB,hn1,hn2,hcell⟩:=hcap hc0
        simp only[Nat.zero_mul,Nat.zero_add]at hn1;obtain⟨w',r1,r2,r3,r4⟩:=iJ (P:=P) (at_:=xs.length) H ho hm' hB hc2 hfz (Nat.le_refl _) (Nat.le_trans (Nat.mul_le_mul_right _ hroom) hn1);rw[z3P]at r2 r3 r4;have hrun:=cG (ty:=ty) (base:=some ⟨b,0*gA rsh,none⟩) (sLen:=xs.length) (sCap:=cap) hc S.1 hck0 hroom (w':=w') (by simpa [bC] using r1)
        refine⟨_,_,_,sA hrun,.inl ⟨_,rfl,?_⟩,r2,r3,r4⟩;refine .own id (xs.length+ys.length) 0 (xs.length+ys.length) _ cap rsh (xs++ys) fz (some (b,n)) hroom (nC ho) hm' (by simp) (by simp) (fun _=>?_)
        right;exact⟨rfl,by simpa using hn1⟩
       ·have hx0:xs=[]:=by apply List.length_eq_zero_iff.1;omega
        have hy0:ys=[]:=by apply List.length_eq_zero_iff.1;omega
        subst hx0;subst hy0
        have hcap0:cap=0:=by omega
        subst hcap0;have hrun:=cG (ty:=ty) (base:=a) (sLen:=0) (sCap:=0) hc S.1 hck0 (by simp) (w':=w) (by
         have:c.toList=[]:=by apply List.length_eq_zero_iff.1;rw[hc2.1];simp
         cases a with
         | none=>rfl
         | some a=>rw[this];rfl)
        have hs:h.set id (.row rsh ([]++[]) fz)=h:=GE ho
        rw[hs];refine⟨_,_,_,sA hrun,.inl ⟨_,rfl,?_⟩,H,Evo.refl _ _ _,mA.refl _ _⟩;exact .own id 0 0 0 _ 0 rsh [] fz m (Nat.le_refl _) ho hm (by simp) (by simp) (fun _=>by cases m with|none=>rfl|some m=>exact .inl rfl)
      ·have hr0:rds h (.own id xs.length 0 xs.length)=some (rsh,xs):=by simp [rds,rd,ho,win]
       obtain⟨newCap,n,w',c',g1,g2,g3,g4,g5,g6,g7,_⟩:=RK (ty:=ty) (base:=a) (sCap:=cap) (xs:=xs) (v0:=.own id xs.length 0 xs.length) hc H Rx hr (by omega) hmax Rs hr0
       have hpos:0<ys.length:=by omega
       have key:=H.set (w':=w') (o':=.row rsh (xs++ys) fz) (m':=some (w.heap.size,n)) ho hm ⟨xs++ys,fz,rfl,by simp,fun hl=>by rw[List.length_append]at hl;omega⟩
        g4.zz g4.1 (fun b hb _=>g4.2 b hb) (fun b n' e=>by injection e with e;injection e with e1 e2;subst e1;exact .inr ⟨Nat.le_refl _,g5⟩)
        (fun b n' sh2 xs2 fz2 e1 e2=>by
         injection e2 with e2 e3 e4
         subst e2;subst e3;subst e4
         refine⟨_,fz,rfl,fun j hj=>⟨ZL (g4.2 b (H.inside id b n' (e1 ▸ hm))),fun n'' e3=>hj⟩⟩)
        (fun M' Ev=>by
         refine⟨by simp;omega,g7.2.1,c',g6.sealed _,?_,fun i j x y hx hy=>?_⟩
         ·rw[←g2];exact Nat.mul_le_mul_right _ (by simpa using g1)
         ·obtain⟨v,q1,q2⟩:=g7.2.2 i j x y hx hy
          exact⟨v,q1,q2.mono Ev.le⟩) (fun b n t e ht=>by rw[tN (g4.2 b (H.inside id b n (e ▸ hm)))];exact ht)
       refine⟨_,_,_,sA g3,.inl ⟨_,rfl,?_⟩,key.1,key.2,mA.set ho (by simp [Obj.top])⟩
       refine .own id (xs.length+ys.length) 0 (xs.length+ys.length) _ newCap rsh (xs++ys) fz (some (w.heap.size,n)) g1 (nC ho) (nC hm) (by simp) (by simp) (fun _=>?_)
       right;exact⟨by simp,by rw[←g2];simp⟩
     ·split at he
      case isFalse=>cases he
      rename_i hcond;obtain⟨rfl,hg,hend,hfz,hy1,hmax,hsn,hxi,hyi⟩:=hcond;simp only[Option.some.injEq,Prod.mk.injEq]at he;obtain⟨rfl,rfl,rfl⟩:=he;rw[hs0]at Rs;have RR:=CE H Rs ho hg
      obtain⟨_,k2,a,cap,rfl,hlc,hcap⟩:=RR;obtain⟨m,hm,hO⟩:=iE H ho;subst hg;have hle:off+len≤xs.length:=by omega
      have hsl:∀zs:List PV,zs.length=ys.length→(splice xs (off+len) zs).length=xs.length:=fun zs hz=>by rw[fQ _ _ _ hle];omega
      have hrl:(List.replicate ys.length PV.unk).length=ys.length:=by simp
      by_cases hroom:len+ys.length≤cap
      ·obtain⟨b,n,c',hm',rfl,hB,hn1,hn2,hcell⟩:=hcap (by omega)
       obtain⟨w',r1,r2,r3,r4⟩:=iJ (P:=P) (at_:=off+len) H ho hm' hB hc2 hfz hle (Nat.le_trans (Nat.mul_le_mul_right _ (by omega)) hn1)
       have hrun:=cG (ty:=ty) (base:=some ⟨b,off*gA rsh,none⟩) (sLen:=len) (sCap:=cap) hc S.1 hck0 hroom (w':=w') (by
        have e:off*gA rsh+len*gA rsh=(off+len)*gA rsh:=by rw[←Nat.add_mul]
        simpa [bC,e] using r1)
       have hl1:=hsl ys rfl
       have hwz:=zkm xs ys off len hle
       generalize hzs:splice xs (off+len) ys=zs at *;have ho2:(h.set id (.row rsh zs fz))[id]?=some (.row rsh zs fz):=nC ho
       have R2:RAV (imm (h.set id (.row rsh zs fz)) μ w') (h.set id (.row rsh zs fz)) μ (.own id zs.length off (len+ys.length)) (.slice (some ⟨b,off*gA rsh,none⟩) (len+ys.length) cap):=
        .own id zs.length off (len+ys.length) _ cap rsh zs fz (some (b,n)) hroom ho2 hm' (Nat.le_refl _) (by omega) (fun _=>.inr ⟨rfl,hn1⟩)
       have hr2:rd (h.set id (.row rsh zs fz)) (.own id zs.length off (len+ys.length))=some (rsh,win xs off len++ys):=by
        simp only[rd,ho2];rw[if_pos ⟨trivial,by omega⟩,hwz]
       obtain⟨p1,p2,p3,p4⟩:=gL r2 R2 hr2;have hfr:frz (h.set id (.row rsh zs fz)) id (off+(len+ys.length))=h.set id (.row rsh zs (off+len+ys.length)):=by
        unfold frz;rw[ho2];dsimp only;rw[List.set_set,Nat.max_eq_right (by omega),Nat.add_assoc]
       rw[hfr]at p1 p2 p4;obtain⟨q1,q2⟩:=z3b (xs':=splice xs (off+len) (List.replicate ys.length .unk)) p1 (nC ho) (by rw[hsl _ hrl,hl1]) (fun i y hy=>by
        rw[vL _ _ _ _ hle,hrl]at hy;rw[←hzs,vL _ _ _ _ hle];by_cases i1:i<off+len
        ·rw[if_pos i1]at hy ⊢;exact .inl hy
        ·rw[if_neg i1]at hy ⊢
         by_cases i2:i<off+len+ys.length
         ·rw[if_pos i2]at hy ⊢
          right;have hlt:i-(off+len)<ys.length:=by omega
          rw[List.getElem?_replicate,if_pos hlt]at hy;injection hy with hy
          exact⟨hy.symm,_,List.getElem?_eq_getElem hlt,iY hyi (List.getElem?_eq_getElem hlt)⟩
         ·rw[if_neg i2]at hy ⊢;exact .inl hy) hsn
       rw[List.set_set]at q1 q2;exact⟨_,_,_,sA hrun,.inl ⟨_,rfl,.p _ _ (by
        have hwl:(win xs off len++ys).length=len+ys.length:=by simp [win];omega
        exact p4.mono q2.le)⟩,q1,(r3.trans p2).trans q2,mA.set ho (by simp [Obj.top])⟩
      ·have hr0:rds h (.own id xs.length off len)=some (rsh,win xs off len):=by simp [rds,rd,ho];omega
       have hwl:(win xs off len).length=len:=by simp [win];omega
       obtain⟨newCap,n,w',c',g1,g2,g3,g4,g5,g6,g7,_⟩:=RK (ty:=ty) (base:=a) (sCap:=cap) (xs:=win xs off len) (v0:=.own id xs.length off len) hc H Rx hr (by omega) (by omega) (by rw[hwl];exact Rs) hr0
       rw[hwl]at g1 g3;obtain⟨H1,E1⟩:=H.ext g4;obtain⟨f1,f2,f3,f4⟩:=z1q H1 ho (k:=off+len+ys.length) hend;have hfr:frz h id (off+len+ys.length)=h.set id (.row rsh xs (off+len+ys.length)):=by
        unfold frz;rw[ho];dsimp only;rw[Nat.max_eq_right (by omega)]
       rw[hfr]at f1 f2;obtain⟨q1,q2⟩:=z3b (xs':=splice xs (off+len) (List.replicate ys.length .unk)) f1 (nC ho) (by rw[hsl _ hrl]) (fun i y hy=>by
        rw[vL _ _ _ _ hle,hrl]at hy;by_cases i1:i<off+len
        ·rw[if_pos i1]at hy;exact .inl hy
        ·rw[if_neg i1]at hy
         by_cases i2:i<off+len+ys.length
         ·rw[if_pos i2]at hy
          right;have hlt:i-(off+len)<ys.length:=by omega
          rw[List.getElem?_replicate,if_pos hlt]at hy;injection hy with hy
          have hlx:i<xs.length:=by omega
          exact⟨hy.symm,_,List.getElem?_eq_getElem hlx,iY hxi (List.getElem?_eq_getElem hlx)⟩
         ·rw[if_neg i2]at hy;exact .inl hy) hsn
       rw[List.set_set]at q1 q2;have hne:win xs off len++ys≠[]:=fun h0=>by rw[List.append_eq_nil_iff]at h0;rw[h0.2]at hy1;simp at hy1
       have he:∀x∈win xs off len++ys,x.cells.length=gA rsh:=fun x hx=>MB (g7.2.1 x hx)
       have hlen2:(win xs off len++ys).length=len+ys.length:=by rw[List.length_append,hwl]
       have hcell:∀(j:Nat) (y:PV),((win xs off len++ys).flatMap PV.cells)[j]?=some y→∃v,c'[j]?=some v∧RPV (imm h μ w) y v:=by
        intro j y hy;obtain⟨x,h5,h6,h8,h7⟩:=bF he hy;have:=g7.2.2 _ _ x y h5 h6;rwa [show j / gA rsh*gA rsh+j%gA rsh=j by omega]at this
       have E2:=(E1.trans f2).trans q2
       have key:RPV (imm (h.set id (.row rsh (splice xs (off+len) (List.replicate ys.length .unk)) (off+len+ys.length))) μ w') (.sl rsh (win xs off len++ys)) (.slice (some ⟨w.heap.size,0,none⟩) (win xs off len++ys).length newCap):=by
        refine .sl rsh (win xs off len++ys) w.heap.size 0 newCap (fun j=>(c'[j]?).getD undef) hne (by omega) g7.2.1 (fun j y hy=>?_) (fun j y hy=>?_)
        ·obtain⟨v,h5,h6⟩:=hcell j y hy
         refine tC.2 ⟨?_,by rw[Nat.zero_add,PC g6,h5];simp [h5]⟩
         rintro⟨i,n',h8,_⟩
         exact absurd (H.inside i _ _ h8) (Nat.lt_irrefl _)
        ·obtain⟨v,h5,h6⟩:=hcell j y hy
         have:(c'[j]?).getD undef=v:=by simp [h5]
         simp only[this];exact h6.mono E2.le
       rw[hlen2]at key;exact⟨_,_,_,sA g3,.inl ⟨_,rfl,.p _ _ key⟩,q1,E2,mA.set ho (by simp [Obj.top])⟩
    ·cases he
   ·cases he
  ·cases he
 ·cases he
def LR (P:Program)(sh:Sh)(t:TypeId):Bool:=match P.underlying t with
 | some (.slice e)=>PA P e==some sh
 | _=>false
theorem z8Q {sh:Sh}{t ty:TypeId}{ts:List TypeId}(hc:LR P sh t=true){ev:Opd→AV}{p q:Opd}{s x:Value}{v:AV}{h1:aA}{e:Esc}(H:HeapRel h μ w)(Rd:RAV (imm h μ w) h μ (ev p) s)(Rx:RAV (imm h μ w) h μ (ev q) x)
 (he:aop (.copy sh p q) ev h=some (v,h1,e)):kA P (do pure (.value (←Builtin.copy_ (t::ts).toArray ty #[s,x]))) h μ w v h1 e:=by
 unfold LR at hc;split at hc
 ·rename_i el hu
  simp only[beq_iff_eq]at hc;simp only[aop]at he;split at he
  ·rename_i id g off len sh' ys hd hr
   split at he
   ·rename_i rsh xs fz ho
    split at he
    ·rename_i hcond
     obtain⟨rfl,rfl,hg,hol,hfz⟩:=hcond;simp at he;obtain⟨rfl,rfl,rfl⟩:=he;rw[hd]at Rd;obtain⟨_,k2,a,cap,rfl,hlc,hcap⟩:=CE H Rd ho hg;have S:=wL (P:=P) H Rx hr
     obtain⟨c,hck,hc2⟩:=S.2 (min ys.length len) (Nat.min_le_left _ _);have hck0:(Builtin.firstCells (gA sh') (min ys.length len) x).run P w = .ok c w:=hck w.drawn
     have hrun:∀w',(match a with|some a=>storeCells a c.toList|none=>(pure ():Sem Unit)).run P w = .ok () w'→(Builtin.copy_ (t::ts).toArray ty #[.slice a len cap,x]).run P w = .ok (goInt ((min ys.length len:Nat):Int)) w':=by
      intro w' hst;have hmin:Nat.min ys.length len=min ys.length len:=rfl
      cases a with
      | none=>
       have hw:w'=w:=by simpa using hst.symm
       subst hw;simp only[Builtin.copy_,List.getElem?_toArray,List.getElem?_cons_zero,List.getElem?_cons_succ,Sem.run_bind,AA hu,Result.andThen_ok,S.1,JC hc,Sem.run_pure,hmin,hck0]
      | some a=>
       simp only at hst;simp only[Builtin.copy_,List.getElem?_toArray,List.getElem?_cons_zero,List.getElem?_cons_succ,Sem.run_bind,AA hu,Result.andThen_ok,S.1,JC hc,Sem.run_pure,hmin,hck0,hst]
     by_cases hc0:0<cap
     ·obtain⟨b,n,c',hm',rfl,hB,hn1,hn2,hcell⟩:=hcap hc0
      obtain⟨w',r1,r2,r3,r4⟩:=iJ (P:=P) (at_:=off) H ho hm' hB hc2 hfz (by omega) (Nat.le_trans (Nat.mul_le_mul_right _ (by simp;omega)) hn1)
      exact⟨_,_,_,sA (hrun w' r1),.inl ⟨_,rfl,RAV.pint _⟩,r2,r3,r4⟩
     ·have hl0:len=0:=by omega
      subst hl0;have hcl:c.toList=[]:=by apply List.length_eq_zero_iff.1;rw[hc2.1];simp
      have hs:h.set id (.row sh' (splice xs off (ys.take (min ys.length 0))) fz)=h:=by
       have:splice xs off (ys.take (min ys.length 0))=xs:=by simp [splice]
       rw[this];exact GE ho
      rw[hs];refine kA.pure H (sA (hrun w ?_)) (RAV.pint _);cases a <;> simp [hcl,storeCells]
    ·cases he
   ·cases he
  ·cases he
 ·cases hc
def KR (P:Program)(sh:Sh)(z:PV)(t:TypeId):Bool:=match P.underlying t with
 | some (.slice e)=>PA P e==some sh&&LJ P e sh z
 | _=>false
theorem z8D {sh:Sh}{z:PV}{t ty:TypeId}{ts:List TypeId}(hc:KR P sh z t=true){ev:Opd→AV}{p:Opd}{s:Value}{v:AV}{h1:aA}{e:Esc}(H:HeapRel h μ w)(Rd:RAV (imm h μ w) h μ (ev p) s)
 (he:aop (.clr sh z p) ev h=some (v,h1,e)):kA P (do pure (.value (←Builtin.clear_ (t::ts).toArray ty #[s]))) h μ w v h1 e:=by
 have ht:∀{M h μ},RAV M h μ (.tup []) (.tuple #[]):=.tup [] [] rfl (fun j y v hy=>by simp at hy)
 unfold KR at hc;split at hc
 ·rename_i el hu
  simp only[Bool.and_eq_true,beq_iff_eq]at hc;obtain⟨c1,c2⟩:=hc;obtain⟨i,zv,z1,z2,z3,z4,z5,z6⟩:=vX c2;simp only[aop]at he;split at he
  ·rename_i q hd
   simp at he;obtain⟨rfl,rfl,rfl⟩:=he;rw[hd]at Rd;have hs:∃a,s = .slice a 0 0:=by cases Rd;exact⟨_,rfl⟩
   obtain⟨a,rfl⟩:=hs;exact kA.pure H (sA (by cases a <;> simp only[Builtin.clear_,List.getElem?_toArray,List.getElem?_cons_zero,List.getElem?_cons_succ,Sem.run_bind,AA hu,Result.andThen_ok,Sem.run_pure])) ht
  ·rename_i id g off len hd
   split at he
   ·rename_i rsh xs fz ho
    split at he
    ·rename_i hcond
     obtain⟨rfl,hg,hol,hfz⟩:=hcond;simp at he;obtain⟨rfl,rfl,rfl⟩:=he;rw[hd]at Rd;obtain⟨_,k2,a,cap,rfl,hlc,hcap⟩:=CE H Rd ho hg;by_cases hl0:len=0
     ·subst hl0
      have hs:h.set id (.row rsh (splice xs off (List.replicate 0 z)) fz)=h:=by
       have:splice xs off (List.replicate 0 z)=xs:=by simp [splice]
       rw[this];exact GE ho
      rw[hs];refine kA.pure H (sA ?_) ht;cases a <;> simp only[Builtin.clear_,List.getElem?_toArray,List.getElem?_cons_zero,List.getElem?_cons_succ,Sem.run_bind,AA hu,Result.andThen_ok,Sem.run_pure]
     ·obtain⟨b,n,c',hm',rfl,hB,hn1,hn2,hcell⟩:=hcap (by omega)
      have hz:pF (imm h μ w) rsh (List.replicate len z) (Builtin.zeroCells zv.cells len).toList:=by
       have e:Builtin.zeroCells zv.cells len=(Array.range (len*gA rsh)).map (fun k=>zv.cells[k%zv.cells.size]!):=by unfold Builtin.zeroCells;rw[z5]
       obtain⟨_,q2,q3⟩:=uX (M:=imm h μ w) z4 z5 (z6 _) (Nat.le_refl (len*gA rsh));rw[e];refine⟨by simp,q2,fun j y hy=>?_⟩
       obtain⟨x,g1,g2,g3,g4⟩:=bF (fun x hx=>MB (q2 x hx)) hy
       obtain⟨v,f1,f2⟩:=q3 _ _ x y g1 g2;refine⟨v,?_,f2⟩;rw[g4]at f1;rw[←f1,Array.getElem?_toList]
      obtain⟨w',r1,r2,r3,r4⟩:=iJ (P:=P) (at_:=off) H ho hm' hB hz hfz (by omega) (Nat.le_trans (Nat.mul_le_mul_right _ (by simp;omega)) hn1)
      refine⟨_,_,_,sA (w':=w') ?_,.inl ⟨_,rfl,ht⟩,r2,r3,r4⟩;obtain⟨len,rfl⟩:∃k,len=k+1:=⟨len-1,by omega⟩
      simp only[Builtin.clear_,List.getElem?_toArray,List.getElem?_cons_zero,List.getElem?_cons_succ,Sem.run_bind,AA hu,Result.andThen_ok,aQ z1 z2,r1,Sem.run_pure]
    ·cases he
   ·cases he
  ·cases he
 ·cases hc
end Go.Am
end
section
/- The abstract machine,part 16: small operations. -/
set_option linter.unusedSimpArgs false
set_option linter.unusedVariables false
set_option maxHeartbeats 1000000
namespace Go.Am
variable {h h':aA} {μ μ':Mu} {w w':World} {P:Program} {M M':Mem}
theorem z7c {op:BinOp}{t:TypeId}{a b:Operand}{ev:Opd→AV}{p q:Opd}{x y:Value}{v:AV}{h1:aA}{e:Esc}(H:HeapRel h μ w)(Rp:RAV (imm h μ w) h μ (ev p) x)(Rq:RAV (imm h μ w) h μ (ev q) y)
 (he:aop (.bin op p q) ev h=some (v,h1,e)):kA P (do pure (.value (←(do eqGuard op t a b x y;binOp op t x y)))) h μ w v h1 e:=by
 simp only[aop]at he;split at he
 ·rename_i c d hp hq
  simp only[Option.map_eq_some_iff,Prod.mk.injEq]at he;obtain⟨r,hr,rfl,rfl,rfl⟩:=he;rw[hp]at Rp;rw[hq]at Rq
  obtain⟨u,hu,hR⟩:=z62 (w:=w) (P:=P) (t:=t) Rp.p_inv Rq.p_inv hr;obtain⟨n1,n2⟩:=z61 Rp.p_inv hr;refine kA.pure H (sA ?_) (.p _ _ hR);rw[Sem.run_bind,KZ n1 (.inl n2)];exact hu
 ·cases he
theorem un_ok {op:UnOp}{ev:Opd→AV}{p:Opd}{x:Value}{v:AV}{h1:aA}{e:Esc}(H:HeapRel h μ w)(Rp:RAV (imm h μ w) h μ (ev p) x)
 (he:aop (.un op p) ev h=some (v,h1,e)):kA P (do pure (.value (←Op.unary op x))) h μ w v h1 e:=by
 simp only[aop]at he;split at he
 ·rename_i c hp
  simp only[Option.map_eq_some_iff,Prod.mk.injEq]at he;obtain⟨r,hr,rfl,rfl,rfl⟩:=he;rw[hp]at Rp;obtain⟨u,hu,hR⟩:=z6M (w:=w) (P:=P) Rp.p_inv hr;exact kA.pure H (sA hu) (.p _ _ hR)
 ·cases he
theorem z2n {ev:Opd→AV}{p:Opd}{x:Value}{v:AV}{h1:aA}{e:Esc}(H:HeapRel h μ w)(Rp:RAV (imm h μ w) h μ (ev p) x)
 (he:aop (.mv p) ev h=some (v,h1,e)):kA P (pure (.value x)) h μ w v h1 e:=by
 simp only[aop,Option.some.injEq,Prod.mk.injEq]at he;obtain⟨rfl,rfl,rfl⟩:=he;exact kA.pure H rfl Rp
theorem zib {ev:Opd→AV}{c p q:Opd}{z x y:Value}{v:AV}{h1:aA}{e:Esc}(H:HeapRel h μ w)(Rc:RAV (imm h μ w) h μ (ev c) z)(Rp:RAV (imm h μ w) h μ (ev p) x)(Rq:RAV (imm h μ w) h μ (ev q) y)
 (he:aop (.pick c p q) ev h=some (v,h1,e)):kA P (do pure (.value (if ←asBool z then x else y))) h μ w v h1 e:=by
 simp only[aop]at he;split at he
 ·rename_i t hc
  rw[hc]at Rc;rw[Rc.p_bool];simp only[Option.some.injEq,Prod.mk.injEq]at he;obtain⟨rfl,rfl,rfl⟩:=he;cases t
  ·exact kA.pure H (u:=y) (by simp [asBool]) Rq
  ·exact kA.pure H (u:=x) (by simp [asBool]) Rp
 ·cases he
theorem z2s {sh:Sh}{ev:Opd→AV}{a:Option Addr}{v:AV}{h1:aA}{e:Esc}(H:HeapRel h μ w)(he:aop (.new0 sh) ev h=some (v,h1,e)):kA P (pure (.value (.slice a 0 0))) h μ w v h1 e:=by
 simp only[aop,Option.some.injEq,Prod.mk.injEq]at he;obtain⟨rfl,rfl,rfl⟩:=he;obtain⟨n1,n2⟩:=UK H sh;refine⟨_,_,_,rfl,.inl ⟨_,rfl,?_⟩,n1,n2,mA.push (by simp [Obj.top])⟩
 exact .own h.length 0 0 0 _ 0 sh [] 0 none (Nat.le_refl _) (by simp) (by rw[←H.len];simp) (by simp) (by simp) (fun _=>rfl)
theorem zeR {ev:Opd→AV}{p:Opd}{x:Value}{v:AV}{h1:aA}{e:Esc}(H:HeapRel h μ w)(Rp:RAV (imm h μ w) h μ (ev p) x)
 (he:aop (.nilchk p) ev h=some (v,h1,e)) {a:Operand} {ρ:Operand→Value} {o:Oper} (hx:ρ a=x) (ho:o.op = .nilCheck a):kA P (execOp ρ o) h μ w v h1 e:=by
 simp only[aop]at he;have key:∀y:Value,y=x→(execOp ρ o).run P w = .ok (.value y) w→ev p=v→kA P (execOp ρ o) h μ w v h []:=by
  intro y hy hr hv;subst hy;exact kA.pure H hr (hv ▸ Rp)
 have hpt:∀b,x = .pointer (some b)→(execOp ρ o).run P w = .ok (.value x) w:=by
  intro b hb;unfold execOp;rw[ho];simp only[hx,hb];rfl
 split at he
 ·rename_i id off hp
  simp only[Option.some.injEq,Prod.mk.injEq]at he;obtain⟨hv,rfl,rfl⟩:=he;refine key x rfl ?_ hv;rw[hp]at Rp;cases Rp;exact hpt _ rfl
 ·rename_i id g i off hp
  simp only[Option.some.injEq,Prod.mk.injEq]at he;obtain⟨hv,rfl,rfl⟩:=he;refine key x rfl ?_ hv;rw[hp]at Rp;cases Rp;exact hpt _ rfl
 ·rename_i u hp
  simp only[Option.some.injEq,Prod.mk.injEq]at he;obtain⟨hv,rfl,rfl⟩:=he;refine key x rfl ?_ hv;rw[hp]at Rp;cases Rp;exact hpt _ rfl
 ·rename_i f cs hp
  simp only[Option.some.injEq,Prod.mk.injEq]at he;obtain⟨hv,rfl,rfl⟩:=he;refine key x rfl ?_ hv;rw[hp]at Rp;cases Rp;unfold execOp;rw[ho];simp only[hx];rfl
 ·rename_i k tt id g hp
  simp only[Option.map_eq_some_iff,Prod.mk.injEq]at he;obtain⟨u,hu,rfl,rfl,rfl⟩:=he;unfold nlA at hu;cases hk:Nat.beq k 4 with
  | false=>rw[hk]at hu;cases hu
  | true=>
   rw[hk]at hu;have hk:=Nat.eq_of_beq_eq_true hk
   subst hk;simp only[cond_true,Option.some.injEq]at hu;refine key x rfl ?_ hu;rw[hp]at Rp;cases Rp;exact hpt _ rfl
 ·cases he
def gC (P:Program)(t:TypeId):Nat:=match P.underlying t with
 | some (.int _)=>0
 | some .bool=>1
 | some .string=>2
 | _=>3
def rE (P:Program)(f:TypeId→List Nat→Option (List Nat)):Nat→List Field→List Nat→Option (List Nat)
 | _,[],ks=>some ks
 | i,fl::r,ks=>if fl.name ≠ "_" ∧ fl.offset=i then match PA P fl.type with
  | some sh=>match f fl.type ks with
   | some ks'=>if ks'.length+gA sh=ks.length then rE P f (i+gA sh) r ks' else none
   | none=>none
  | none=>none
  else none
def QC (P:Program):Nat→TypeId→List Nat→Option (List Nat)
 | 0,_,_=>none
 | d+1,t,ks=>match P.underlying t with
  | some (.struct fs)=>if P.stoodInHeld t=true then none else rE P (QC P d) 0 fs.toList ks
  | _=>match ks with
   | k::r=>if gC P t=k∧k<3 then some r else none
   | []=>none
def bM (P:Program)(t:TypeId)(ks:List Nat):Bool:=match ks with
 | []=>match P.underlying t with|some .bool=>true|_=>false
 | _=>match P.underlying t with
  | some (.struct _)=>!P.eqGuardType P.depth t&&QC P 20 t ks==some []
  | some (.array n e)=>!P.eqGuardType P.depth t&&(match PA P e with|some none=>true|_=>false)&&Nat.blt (gC P e) 3&&ks==List.replicate n (gC P e)
  | _=>false
theorem oU {d:Nat}{t:TypeId}{a b:PV}{x y:Value}{r:Bool}(h1:gC P t=a.kind)(h2:a.kind<3)(Ra:RPV M a x)(Rb:RPV M b y)(he:PV.eq1 a b=some r):(Op.equalIn (d+1) t x y).run P w = .ok r w:=by
 unfold PV.eq1 at he;unfold gC at h1;split at he
 ·split at he
  ·rename_i k m k' n hkk
   subst hkk;simp at he;subst he;cases Ra;cases Rb
   split at h1
   ·rename_i kk hu
    simp [Op.equalIn,AA hu,JD]
   all_goals simp [PV.kind]at h1
  ·cases he
 ·rename_i s s'
  simp at he;subst he;cases Ra;cases Rb
  split at h1
  ·simp [PV.kind]at h1
  ·rename_i hu
   simp [Op.equalIn,AA hu,JD]
  ·simp [PV.kind]at h1
  ·simp [PV.kind]at h1
 ·rename_i s s'
  simp at he;subst he;cases Ra;cases Rb
  split at h1
  ·simp [PV.kind]at h1
  ·simp [PV.kind]at h1
  ·rename_i hu
   simp [Op.equalIn,AA hu,Go.beq_toListBytes,Go.ByteArray.toList_mk,JD]
  ·simp [PV.kind]at h1
 ·cases he
theorem LZ:∀ {a1 b1 a2 b2:List PV} {r:Bool},a1.length=b1.length→eqs (a1++a2) (b1++b2)=some r→∃ r1 r2,eqs a1 b1=some r1∧eqs a2 b2=some r2∧r=(r1&&r2)
 | [],[],a2,b2,r,_,h=>⟨true,r,rfl,h,by simp⟩
 | [],_::_,_,_,_,h,_=>by simp at h
 | _::_,[],_,_,_,h,_=>by simp at h
 | a::a1,b::b1,a2,b2,r,hl,h=>by
  simp only[List.cons_append,eqs]at h;split at h
  ·rename_i q hq
   simp only[Option.map_eq_some_iff]at h;obtain⟨r',h1,rfl⟩:=h;obtain⟨r1,r2,h2,h3,rfl⟩:=LZ (by simpa using hl) h1
   exact⟨q&&r1,r2,by simp [eqs,hq,h2],h3,by cases q <;> simp⟩
  ·cases h
theorem DN {f:TypeId→List Nat→Option (List Nat)}(hf:∀ t ks rest,f t ks=some rest→∃ pre,ks=pre++rest):∀{fs:List Field} {i:Nat} {ks rest:List Nat},rE P f i fs ks=some rest→∃pre,ks=pre++rest
 | [],i,ks,rest,h=>by simp [rE]at h;exact⟨[],by simp [h]⟩
 | fl::r,i,ks,rest,h=>by
  simp only[rE]at h;split at h
  ·split at h
   ·split at h
    ·rename_i ks' hk
     split at h
     ·obtain⟨p1,h1⟩:=hf _ _ _ hk
      obtain⟨p2,h2⟩:=DN hf h;exact⟨p1++p2,by rw[h1,h2,List.append_assoc]⟩
     ·cases h
    ·cases h
   ·cases h
  ·cases h
theorem zL:∀ (d:Nat) (t:TypeId) (ks rest:List Nat),QC P d t ks=some rest→∃ pre,ks=pre++rest
 | 0,t,ks,rest,h=>by simp [QC]at h
 | d+1,t,ks,rest,h=>by
  simp only[QC]at h;split at h
  ·split at h
   ·cases h
   ·exact DN (zL d) h
  ·split at h
   ·rename_i k r
    split at h
    ·injection h with h;subst h;exact⟨[k],rfl⟩
    ·cases h
   ·cases h
def Cs (M:Mem)(asv:List PV)(xs:List Value)(off:Nat):Prop:=off+asv.length≤xs.length∧∀(j:Nat) (a:PV) (v:Value),asv[j]?=some a→xs[off+j]?=some v→RPV M a v
def EqAt (P:Program)(w:World)(M:Mem)(d:Nat)(t:TypeId):Prop:=∀(m:Nat) (ks rest:List Nat) (sh:Sh) (xs ys:List Value) (off:Nat) (asv bs:List PV) (r:Bool),QC P d t ks=some rest→PA P t=some sh→ks=asv.map PV.kind++rest→asv.map PV.kind=bs.map PV.kind→asv.length=gA sh →
 Cs M asv xs off→Cs M bs ys off→eqs asv bs=some r→(Op.equalIn (m+d) t (oC sh fun j=>(xs[off+j]?).getD undef) (oC sh fun j=>(ys[off+j]?).getD undef)).run P w = .ok r w
theorem KU {d:Nat}(IH:∀ t,EqAt P w M d t){m:Nat}{xs ys:List Value}:∀{fs:List Field} {i:Nat} {ks rest:List Nat} {asv bs:List PV} {r:Bool},rE P (QC P d) i fs ks=some rest→ks=asv.map PV.kind++rest→asv.map PV.kind=bs.map PV.kind →
 Cs M asv xs i→Cs M bs ys i→eqs asv bs=some r→(Op.eqFields (m+d) xs.toArray ys.toArray fs).run P w = .ok r w
 | [],i,ks,rest,asv,bs,r,h,hk,hab,hA,hB,he=>by
  simp only[rE,Option.some.injEq]at h;subst h;have h0:asv=[]:=by
   have:=congrArg List.length hk;simp at this;exact this
  subst h0;have h1:bs=[]:=by simpa using hab.symm
  subst h1;simp [eqs]at he;subst he;simp [Op.eqFields]
 | fl::fs,i,ks,rest,asv,bs,r,h,hk,hab,hA,hB,he=>by
  simp only[rE]at h;split at h
  ·rename_i hfl
   split at h
   ·rename_i sh hsh
    split at h
    ·rename_i ks' hk'
     split at h
     ·rename_i hlen
      obtain⟨pre,h1⟩:=zL _ _ _ _ hk';obtain⟨pre2,h2⟩:=DN (zL d) h;have hpre:pre.length=gA sh:=by rw[h1]at hlen;simp at hlen;omega
      have hkk:asv.map PV.kind=pre++pre2:=by
       rw[h1,h2,←List.append_assoc]at hk;exact(List.append_cancel_right hk).symm
      have hla:asv.length=pre.length+pre2.length:=by have:=congrArg List.length hkk;simpa using this
      have hlb:asv.length=bs.length:=by have:=congrArg List.length hab;simpa using this
      obtain⟨a1,a2,rfl,ha1⟩:∃a1 a2,asv=a1++a2∧a1.length=pre.length:=⟨asv.take pre.length,asv.drop pre.length,by simp,by simp;omega⟩
      obtain⟨b1,b2,rfl,hb1⟩:∃b1 b2,bs=b1++b2∧b1.length=pre.length:=⟨bs.take pre.length,bs.drop pre.length,by simp,by simp;omega⟩
      rw[List.map_append]at hkk;obtain⟨m1,m2⟩:=List.append_inj hkk (by simpa using ha1)
      rw[List.map_append,List.map_append]at hab;obtain⟨n1,n2⟩:=List.append_inj hab (by simp;omega)
      obtain⟨r1,r2,q1,q2,rfl⟩:=LZ (by omega) he
      have cA1:Cs M a1 xs i:=⟨by have:=hA.1;simp at this;omega,fun j a v hj hv=>hA.2 j a v (fF hj) hv⟩
      have cB1:Cs M b1 ys i:=⟨by have:=hB.1;simp at this;omega,fun j a v hj hv=>hB.2 j a v (fF hj) hv⟩
      have cA2:Cs M a2 xs (i+gA sh):=⟨by have:=hA.1;simp at this;omega,fun j a v hj hv=>hA.2 (a1.length+j) a v (by rw[List.getElem?_append_right (by omega)];simpa using hj) (by rw[←hv];congr 1;omega)⟩
      have cB2:Cs M b2 ys (i+gA sh):=⟨by have:=hB.1;simp at this;omega,fun j a v hj hv=>hB.2 (b1.length+j) a v (by rw[List.getElem?_append_right (by omega)];simpa using hj) (by rw[←hv];congr 1;omega)⟩
      have p1:=dG (P:=P) (w:=w) (t:=fl.type) hsh (vs:=xs) (off:=i) (by have:=cA1.1;omega)
      have p2:=dG (P:=P) (w:=w) (t:=fl.type) hsh (vs:=ys) (off:=i) (by have:=cB1.1;omega)
      have hh:=IH fl.type m ks ks' sh xs ys i a1 b1 r1 hk' hsh (by rw[h1,m1]) n1 (by omega) cA1 cB1 q1
      have ih:=KU IH (m:=m) h (by rw[h2,m2]) n2 cA2 cB2 q2
      simp only[Op.eqFields,hfl.1,ne_eq,not_false_eq_true,if_true,Sem.run_bind,hfl.2,p1,p2,Result.andThen_ok,hh];cases r1
      ·simp
      ·simp [ih]
     ·cases h
    ·cases h
   ·cases h
  ·cases h
theorem pX:∀ (d:Nat) (t:TypeId),EqAt P w M d t
 | 0,t=>fun m ks rest sh xs ys off asv bs r h=>by simp [QC]at h
 | d+1,t=>fun m ks rest sh xs ys off asv bs r h hsh hk hab hla hA hB he=>by
  have hlb:asv.length=bs.length:=by have:=congrArg List.length hab;simpa using this
  simp only[QC]at h;split at h
  ·rename_i fs hu
   split at h
   ·cases h
   ·rename_i hst
    have hst:P.stoodInHeld t=false:=by simpa using hst
    have hsn:∃n,sh=some n:=by
     unfold PA at hsh;rw[hu]at hsh;cases hi:P.info? t with
     | none=>rw[hi]at hsh;simp at hsh
     | some i=>rw[hi]at hsh;simp at hsh;exact⟨_,hsh.symm⟩
    obtain⟨n,rfl⟩:=hsn;have hfo:P.fieldsOf t=fs:=by simp [Program.fieldsOf,hu]
    show(Op.equalIn (m+d+1) t (.agg _) (.agg _)).run P w=_
    rw[run_equalIn_struct w (m+d) t _ _ (by rw[hfo];exact hu) hst,hfo]
    simp only[gA]at hla;exact KU (pX d) h hk hab ⟨by simp;omega,fun j a v hj hv=>by
     have hjn:j<n:=by rw[←hla];exact tA hj
     have hlt:off+j<xs.length:=by have:=hA.1;omega
     simp [hjn,hlt]at hv;exact hA.2 j a v hj (by rw[←hv];simp [hlt])⟩ ⟨by simp;omega,fun j a v hj hv=>by
     have hjn:j<n:=by rw[←hla,hlb];exact tA hj
     have hlt:off+j<ys.length:=by have:=hB.1;omega
     simp [hjn,hlt]at hv;exact hB.2 j a v hj (by rw[←hv];simp [hlt])⟩ he
  ·split at h
   ·rename_i k r'
    split at h
    ·rename_i hkk
     injection h with h
     subst h;have hsn:sh=none:=by
      obtain⟨h1,h2⟩:=hkk;unfold PA at hsh;unfold gC at h1;split at h1
      ·rename_i hu;rw[hu]at hsh;split at hsh <;> simp_all
      ·rename_i hu;rw[hu]at hsh;split at hsh <;> simp_all
      ·rename_i hu;rw[hu]at hsh;split at hsh <;> simp_all
      ·omega
     subst hsn;simp only[gA]at hla;obtain⟨a,rfl⟩:=List.length_eq_one_iff.1 hla;obtain⟨b,rfl⟩:=List.length_eq_one_iff.1 (hlb.symm.trans hla);simp only[List.map_cons,List.map_nil,List.cons_append,List.nil_append,List.cons.injEq,and_true]at hk hab;have hxl:off<xs.length:=by have:=hA.1;simp at this;omega
     have hyl:off<ys.length:=by have:=hB.1;simp at this;omega
     have heq:PV.eq1 a b=some r:=by
      simp only[eqs]at he;split at he
      ·rename_i q hq;simp at he;rw[hq,he]
      ·cases he
     simp only[oC,Nat.add_zero,List.getElem?_eq_getElem hxl,List.getElem?_eq_getElem hyl,Option.getD_some];exact oU (d:=m+d) (by rw[hkk.1];exact hk) (by rw[←hk];exact hkk.2) (hA.2 0 a _ rfl (by simp [hxl])) (hB.2 0 b _ rfl (by simp [hyl])) heq
    ·cases h
   ·cases h
theorem OU {d:Nat}{e:TypeId}(hk:gC P e<3)(hs:PA P e=some none){xs ys:List Value}:∀(asv bs:List PV) (i:Nat) (r:Bool),asv.map PV.kind=List.replicate asv.length (gC P e)→asv.map PV.kind=bs.map PV.kind →
 Cs M asv xs i→Cs M bs ys i→eqs asv bs=some r→(Op.eqItems (d+1) e 1 xs.toArray ys.toArray (List.range' i asv.length)).run P w = .ok r w
 | [],bs,i,r,_,hab,_,_,he=>by
  have:bs=[]:=by simpa using hab.symm
  subst this;simp [eqs]at he;subst he;simp [Op.eqItems]
 | a::asv,[],i,r,_,hab,_,_,_=>by simp at hab
 | a::asv,b::bs,i,r,h1,hab,hA,hB,he=>by
  simp only[List.map_cons,List.cons.injEq]at hab;simp only[List.map_cons,List.length_cons,List.replicate_succ,List.cons.injEq]at h1;simp only[eqs]at he;split at he
  ·rename_i q hq
   simp only[Option.map_eq_some_iff]at he;obtain⟨r',h2,rfl⟩:=he;have cA:Cs M asv xs (i+1):=⟨by have:=hA.1;simp at this;omega,fun j a v h1 h2=>hA.2 (j+1) a v (by simpa using h1) (by rw[←h2];congr 1;omega)⟩
   have cB:Cs M bs ys (i+1):=⟨by have:=hB.1;simp at this;omega,fun j a v h1 h2=>hB.2 (j+1) a v (by simpa using h1) (by rw[←h2];congr 1;omega)⟩
   have p1:=dG (P:=P) (w:=w) (t:=e) hs (vs:=xs) (off:=i) (by have:=hA.1;simp at this;simp [gA];omega)
   have p2:=dG (P:=P) (w:=w) (t:=e) hs (vs:=ys) (off:=i) (by have:=hB.1;simp at this;simp [gA];omega)
   have xl:i<xs.length:=by have:=hA.1;simp at this;omega
   have yl:i<ys.length:=by have:=hB.1;simp at this;omega
   simp only[oC,Nat.add_zero,List.getElem?_eq_getElem xl,List.getElem?_eq_getElem yl,Option.getD_some]at p1 p2;have hh:=oU (P:=P) (w:=w) (d:=d) (t:=e) (x:=xs[i]) (y:=ys[i]) h1.1.symm (by rw[h1.1];exact hk) (hA.2 0 a _ rfl (by simp [xl])) (hB.2 0 b _ rfl (by simp [yl])) hq
   have ih:=OU (d:=d) hk hs asv bs (i+1) r' h1.2 hab.2 cA cB h2
   simp only[List.length_cons,List.range'_succ,Op.eqItems,Nat.mul_one,Sem.run_bind,p1,p2,Result.andThen_ok,hh];cases q
   ·simp
   ·simp [ih]
  ·cases he
theorem zci {ks:List Nat}{neg:Bool}{op:BinOp}(hop:op=if neg then .neq else .eql){t:TypeId}(hc:bM P t ks=true){a b:Operand}{ev:Opd→AV}{p q:Opd}{x y:Value}{v:AV}{h1:aA}{e:Esc}(H:HeapRel h μ w)(Rp:RAV (imm h μ w) h μ (ev p) x)(Rq:RAV (imm h μ w) h μ (ev q) y)
 (he:aop (.eqa ks neg p q) ev h=some (v,h1,e)):kA P (do pure (.value (←(do eqGuard op t a b x y;binOp op t x y)))) h μ w v h1 e:=by
 simp only[aop]at he;split at he
 ·rename_i asv bs hp hq
  split at he
  ·rename_i hk
   simp only[Option.map_eq_some_iff,Prod.mk.injEq]at he;obtain⟨r,hr,rfl,rfl,rfl⟩:=he;rw[hp]at Rp;rw[hq]at Rq
   cases Rp.p_inv with|agg _ xs hxl hxr=>
   cases Rq.p_inv with|agg _ ys hyl hyr=>
   unfold bM at hc;split at hc
   ·exact absurd rfl hk.2.2
   ·split at hc
    ·rename_i fs hu
     simp only[Bool.and_eq_true,Bool.not_eq_true',beq_iff_eq]at hc;obtain⟨c2,c3⟩:=hc;have hE:(Op.equalIn 10000 t (.agg xs.toArray) (.agg ys.toArray)).run P w = .ok r w:=by
      rw[show(20:Nat)=19+1 from rfl]at c3
      unfold QC at c3;rw[hu]at c3;dsimp only at c3;split at c3
      ·cases c3
      ·rename_i hst
       have hst:P.stoodInHeld t=false:=by simpa using hst
       have hfo:P.fieldsOf t=fs:=by simp [Program.fieldsOf,hu]
       rw[show(10000:Nat)=(9980+19)+1 from rfl,run_equalIn_struct w (9980+19) t _ _ (by rw[hfo];exact hu) hst,hfo]
       exact KU (pX 19) c3 (by simpa using hk.1.symm) (by rw[hk.1,hk.2.1]) ⟨by omega,fun j a v h1 h2=>hxr j a v h1 (by simpa using h2)⟩ ⟨by omega,fun j a v h1 h2=>hyr j a v h1 (by simpa using h2)⟩ hr
     refine kA.pure H (u:=.bool (bif neg then !r else r)) (sA ?_) (RAV.pbool _);rw[Sem.run_bind,run_eqGuard_agg _ _ _ _ _ _ _ c2];cases neg
     ·simp only[Bool.false_eq_true,if_false]at hop
      subst hop;simp [run_eql_struct,hE]
     ·simp only[if_true]at hop
      subst hop;simp [run_neq_struct,hE]
    ·rename_i n e hu
     simp only[Bool.and_eq_true,Bool.not_eq_true',beq_iff_eq]at hc;obtain⟨⟨⟨c2,c3⟩,c4⟩,c5⟩:=hc;have hs:PA P e=some none:=by
      split at c3
      ·assumption
      ·cases c3
     have hk3:gC P e<3:=by simp [Nat.blt]at c4;omega
     have hi:∃i,P.info? e=some i∧i.size=1:=by
      unfold PA at hs;split at hs
      ·cases hs
      ·cases hs
      ·split at hs
       ·exact⟨_,by assumption,by assumption⟩
       ·cases hs
      ·cases hs
     obtain⟨i,hi,hi1⟩:=hi;have hce:P.cellsOf e=1:=by simp [Program.cellsOf,hi,hi1]
     have hal:asv.length=n:=by have:=congrArg List.length (hk.1.trans c5);simpa using this
     have hE:(Op.equalIn 10000 t (.agg xs.toArray) (.agg ys.toArray)).run P w = .ok r w:=by
      rw[show(10000:Nat)=(9998+1)+1 from rfl,run_equalIn_array w (9998+1) _ _ hu hi,hce,List.range_eq_range',←hal]
      exact OU hk3 hs asv bs 0 r (by rw[hk.1,c5,hal]) (by rw[hk.1,hk.2.1]) ⟨by omega,fun j a v h1 h2=>hxr j a v h1 (by simpa using h2)⟩ ⟨by omega,fun j a v h1 h2=>hyr j a v h1 (by simpa using h2)⟩ hr
     refine kA.pure H (u:=.bool (bif neg then !r else r)) (sA ?_) (RAV.pbool _);rw[Sem.run_bind,run_eqGuard_agg _ _ _ _ _ _ _ c2];cases neg
     ·simp only[Bool.false_eq_true,if_false]at hop
      subst hop;simp [run_eql_struct,hE]
     ·simp only[if_true]at hop
      subst hop;simp [run_neq_struct,hE]
    ·cases hc
  ·cases he
 ·rename_i c d hp hq
  split at he
  ·rename_i hk
   subst hk;simp only[Option.some.injEq,Prod.mk.injEq]at he;obtain⟨rfl,rfl,rfl⟩:=he;rw[hp]at Rp;rw[hq]at Rq
   rw[Rp.p_bool,Rq.p_bool];have hu:P.underlying t=some .bool:=by
    simp only[bM]at hc;split at hc
    ·assumption
    ·cases hc
   have hE:(Op.equalIn 10000 t (.bool c) (.bool d)).run P w = .ok (decide (c=d)) w:=
    oU (M:=imm h μ w) (a:=.bool c) (b:=.bool d) (d:=9999) (by simp [gC,hu,PV.kind]) (by simp [PV.kind]) (.bool c) (.bool d) (by simp [PV.eq1])
   refine kA.pure H (u:=.bool (bif neg then !decide (c=d) else decide (c=d))) (sA ?_) (RAV.pbool _);rw[Sem.run_bind,KZ (by simp) (by simp)]
   cases neg
   ·simp only[Bool.false_eq_true,if_false]at hop
    subst hop;simp only[Result.andThen_ok,binOp,Op.equal,Op.maxDepth,Sem.run_bind,hE,Sem.run_pure,cond_false]
   ·simp only[if_true]at hop
    subst hop;simp only[Result.andThen_ok,binOp,Op.equal,Op.maxDepth,Sem.run_bind,hE,Sem.run_pure,cond_true]
  ·cases he
 ·cases he
end Go.Am
end
section
/- The abstract machine,part 17: nil tests,conversions,lengths,functions,greatest and PN. -/
set_option linter.unusedSimpArgs false
set_option linter.unusedVariables false
set_option maxHeartbeats 1000000
namespace Go.Am
variable {h h':aA} {μ μ':Mu} {w w':World} {P:Program} {M M':Mem}
def aE (P:Program)(k:Nat)(t:TypeId)(y:Operand):Bool:=match k,P.underlying t,y with
 | 0,some (.pointer _),.const (.pointer none)=>true
 | 1,some (.map _ _),.const (.map none)=>true
 | 2,some (.func _ _ _),.const .nilFunc=>true
 | 3,some (.interface _),.const .nilIface=>true
 | 4,some (.slice _),.const (.slice none _ _)=>true
 | _,_,_=>false
theorem z3f {neg:Bool}{op:BinOp}(hop:op=if neg then .neq else .eql){t:TypeId}{a b:Operand}{x y:Value}{r:Bool}(hg:(eqGuard op t a b x y).run P w = .ok () w)
 (hk:∀k n,x ≠ .int k n) (hs:∀s,x ≠ .string s) (hf:∀k s,x ≠ .float k s) (hcx:∀k s u,x ≠ .complex k s u) (hE:(Op.equalIn 10000 t x y).run P w = .ok r w) :
 ((do eqGuard op t a b x y;binOp op t x y):Sem Value).run P w = .ok (.bool (if neg then !r else r)) w:=by
 rw[Sem.run_bind,hg];simp only[Result.andThen_ok];cases neg
 ·simp only[Bool.false_eq_true,if_false]at hop
  subst hop;cases x <;> first|exact absurd rfl (hk _ _)|exact absurd rfl (hs _)|exact absurd rfl (hf _ _)|exact absurd rfl (hcx _ _ _)|(simp only[binOp,Op.equal,Op.maxDepth,Sem.run_bind,hE,Result.andThen_ok,Sem.run_pure];rfl)
 ·simp only[if_true]at hop
  subst hop;cases x <;> first|exact absurd rfl (hk _ _)|exact absurd rfl (hs _)|exact absurd rfl (hf _ _)|exact absurd rfl (hcx _ _ _)|(simp only[binOp,Op.equal,Op.maxDepth,Sem.run_bind,hE,Result.andThen_ok,Sem.run_pure];rfl)
theorem zeQ {k:Nat}{t:TypeId}{y x:Value}{v:AV}{r:Bool}{op:BinOp}{a:Operand}(hc:aE P k t (.const y)=true)(hv:VK k v=some r)(R:RAV M h μ v x) :
 (eqGuard op t a (.const y) x y).run P w = .ok () w∧(Op.equalIn 10000 t x y).run P w = .ok r w∧(∀k n,x ≠ .int k n)∧(∀s,x ≠ .string s)∧(∀k s,x ≠ .float k s)∧(∀k s u,x ≠ .complex k s u):=by
 rw[show(10000:Nat)=9999+1 from rfl]
 generalize 9999=d;unfold VK at hv;split at hv
 ·have hty:∃el,P.underlying t=some (.pointer el)∧y = .pointer none:=by
   unfold aE at hc;split at hc <;> simp_all
  obtain⟨el,hu,rfl⟩:=hty;split at hv <;> first|cases hv|skip
  all_goals (try (simp only[Option.some.injEq]at hv;subst hv))
  ·cases R;exact⟨by cases op <;> rfl,by simp [Op.equalIn,AA hu],by simp,by simp,by simp,by simp⟩
  ·cases R.p_inv;exact⟨by cases op <;> rfl,by simp [Op.equalIn,AA hu],by simp,by simp,by simp,by simp⟩
  ·cases R;exact⟨by cases op <;> rfl,by simp [Op.equalIn,AA hu],by simp,by simp,by simp,by simp⟩
  ·cases R;exact⟨by cases op <;> rfl,by simp [Op.equalIn,AA hu],by simp,by simp,by simp,by simp⟩
  ·cases R;exact⟨by cases op <;> rfl,by simp [Op.equalIn,AA hu],by simp,by simp,by simp,by simp⟩
  ·cases R;exact⟨by cases op <;> rfl,by simp [Op.equalIn,AA hu],by simp,by simp,by simp,by simp⟩
 ·have hty:∃e1 e2,P.underlying t=some (.map e1 e2)∧y = .map none:=by
   unfold aE at hc;split at hc <;> simp_all
  obtain⟨e1,e2,hu,rfl⟩:=hty;split at hv <;> first|cases hv|skip
  all_goals (try (simp only[Option.some.injEq]at hv;subst hv))
  ·cases R;exact⟨by cases op <;> rfl,by simp [Op.equalIn,AA hu],by simp,by simp,by simp,by simp⟩
  ·cases R;exact⟨by cases op <;> rfl,by simp [Op.equalIn,AA hu],by simp,by simp,by simp,by simp⟩
 ·have hty:∃e1 e2 e3,P.underlying t=some (.func e1 e2 e3)∧y = .nilFunc:=by
   unfold aE at hc;split at hc <;> simp_all
  obtain⟨e1,e2,e3,hu,rfl⟩:=hty;split at hv <;> first|cases hv|skip
  all_goals (try (simp only[Option.some.injEq]at hv;subst hv))
  ·cases R;exact⟨by cases op <;> rfl,by simp [Op.equalIn,AA hu],by simp,by simp,by simp,by simp⟩
  ·cases R;exact⟨by cases op <;> rfl,by simp [Op.equalIn,AA hu],by simp,by simp,by simp,by simp⟩
 ·have hty:∃e1,P.underlying t=some (.interface e1)∧y = .nilIface:=by
   unfold aE at hc;split at hc <;> simp_all
  obtain⟨e1,hu,rfl⟩:=hty;split at hv <;> first|cases hv|skip
  all_goals (try (simp only[Option.some.injEq]at hv;subst hv))
  ·cases R;exact⟨by cases op <;> cases a <;> rfl,by simp [Op.equalIn,AA hu],by simp,by simp,by simp,by simp⟩
  ·cases R;exact⟨by cases op <;> rfl,by simp [Op.equalIn,AA hu],by simp,by simp,by simp,by simp⟩
 ·have hty:∃e1 i j,P.underlying t=some (.slice e1)∧y = .slice none i j:=by
   unfold aE at hc;split at hc <;> simp_all
  obtain⟨e1,i,j,hu,rfl⟩:=hty;split at hv
  ·simp only[Option.some.injEq]at hv;subst hv
   cases R.p_inv
   exact⟨by cases op <;> rfl,by simp [Op.equalIn,AA hu],by simp,by simp,by simp,by simp⟩
  ·cases hv
theorem zeP {k:Nat}{t:TypeId}{y x:Value}{v:AV}{op:BinOp}{a:Operand}(hc:aE P k t (.const y)=true)(hv:RF k v=true)(R:RAV M h μ v x) :
 ∃r,(eqGuard op t a (.const y) x y).run P w = .ok () w∧(Op.equalIn 10000 t x y).run P w = .ok r w∧(∀k n,x ≠ .int k n)∧(∀s,x ≠ .string s)∧(∀k s,x ≠ .float k s)∧(∀k s u,x ≠ .complex k s u):=by
 rw[show(10000:Nat)=9999+1 from rfl]
 generalize 9999=d;unfold RF at hv;split at hv
 ·simp only[decide_eq_true_eq]at hv
  have hty:∃e1 i j,P.underlying t=some (.slice e1)∧y = .slice none i j:=by
   unfold aE at hc;split at hc <;> first|omega|skip
   ·rename_i e1 i j hu hy;injection hy with hy;exact⟨_,_,_,hu,hy⟩
   ·cases hc
  obtain⟨e1,i,j,hu,rfl⟩:=hty;cases R.p_inv with
  | nils _ b cap=>
   cases b with
   | none=>exact⟨true,by cases op <;> rfl,by simp [Op.equalIn,AA hu],by simp,by simp,by simp,by simp⟩
   | some b=>exact⟨false,by cases op <;> rfl,by simp [Op.equalIn,AA hu],by simp,by simp,by simp,by simp⟩
  | sl _ _ _ _ _ _ hne=>exact absurd rfl hne
 ·cases hv
theorem zdw {k:Nat}{neg:Bool}{op:BinOp}(hop:op=if neg then .neq else .eql){t:TypeId}{a:Operand}{y:Value}(hc:aE P k t (.const y)=true){ev:Opd→AV}{p:Opd}{x:Value}{v:AV}{h1:aA}{e:Esc}
 (H:HeapRel h μ w) (Rp:RAV (imm h μ w) h μ (ev p) x) (he:aop (.isnil k neg p) ev h=some (v,h1,e)):kA P (do pure (.value (←(do eqGuard op t a (.const y) x y;binOp op t x y)))) h μ w v h1 e:=by
 simp only[aop]at he;cases hb:RF k (ev p) with
 | true=>
  rw[hb]at he;simp only[cond_true,Option.some.injEq,Prod.mk.injEq]at he;obtain⟨rfl,rfl,rfl⟩:=he;obtain⟨r,q1,q2,q3,q4,q5,q6⟩:=zeP (w:=w) (op:=op) (a:=a) hc hb Rp;exact kA.pure H (sA (z3f hop q1 q3 q4 q5 q6 q2)) (.anyb _)
 | false=>
  rw[hb]at he;simp only[cond_false,Option.map_eq_some_iff,Prod.mk.injEq]at he;obtain⟨r,hr,rfl,rfl,rfl⟩:=he;obtain⟨q1,q2,q3,q4,q5,q6⟩:=zeQ (w:=w) (op:=op) (a:=a) hc hr Rp;refine kA.pure H (sA (z3f hop q1 q3 q4 q5 q6 q2)) ?_;cases neg <;> exact RAV.pbool _
theorem zeA {t:TypeId}(hc:(match P.underlying t with | some (.interface _)=>false | some _=>true | none=>false)=true){ev:Opd→AV}{p:Opd}{x:Value}{v:AV}{h1:aA}{e:Esc}(H:HeapRel h μ w)
 (he:aop (.mkif p) ev h=some (v,h1,e)):kA P (do pure (.value (←Instr.makeInterface t x))) h μ w v h1 e:=by
 simp only[aop]at he;split at he
 ·simp only[Option.some.injEq,Prod.mk.injEq]at he
  obtain⟨rfl,rfl,rfl⟩:=he;refine kA.pure H (sA (u:=.iface t x) ?_) (.ifc _ _);split at hc <;> first|cases hc|skip
  rename_i d hne hd;unfold Instr.makeInterface;rw[Sem.run_bind,AA hd];cases d <;> first|rfl|exact absurd rfl (hne _)
 ·cases he
theorem zcp {i:Nat}{ev:Opd→AV}{p:Opd}{x:Value}{v:AV}{h1:aA}{e:Esc}(H:HeapRel h μ w)(Rp:RAV (imm h μ w) h μ (ev p) x)(he:aop (.ext p i) ev h=some (v,h1,e)) :
 kA P (do pure (.value (←Instr.extract x i))) h μ w v h1 e:=by
 simp only[aop]at he;split at he
 ·rename_i vs hp
  simp only[Option.map_eq_some_iff,Prod.mk.injEq]at he;obtain⟨u,hu,rfl,rfl,rfl⟩:=he;rw[hp]at Rp;cases Rp with|tup _ xs hl hr=>
  have hi:i<xs.length:=by rw[←hl];exact tA hu
  refine kA.pure H (sA (u:=xs[i]) ?_) (hr i u _ hu (List.getElem?_eq_getElem hi));simp [Instr.extract,hi]
 ·cases he
def QE (P:Program)(t:TypeId):Nat:=match P.underlying t with
 | some (.slice _)=>1
 | some .string=>2
 | some (.map _ _)=>3
 | _=>0
theorem zeq {t ty:TypeId}{ts:List TypeId}(hc:QE P t=1){ev:Opd→AV}{p:Opd}{x:Value}{v:AV}{h1:aA}{e:Esc}(H:HeapRel h μ w)(Rp:RAV (imm h μ w) h μ (ev p) x)(he:aop (.len p) ev h=some (v,h1,e)) :
 kA P (do pure (.value (←Builtin.len_ (t::ts).toArray ty #[x]))) h μ w v h1 e:=by
 have hu:∃el,P.underlying t=some (.slice el):=by
  unfold QE at hc;split at hc <;> simp_all
 obtain⟨el,hu⟩:=hu;have key:∀a n cap,x = .slice a n cap→v=pint n→h1=h→e=[]→kA P (do pure (.value (←Builtin.len_ (t::ts).toArray ty #[x]))) h μ w v h1 e:=by
  intro a n cap hx hv h2 h3;subst hx;subst hv;subst h2;subst h3
  refine kA.pure H (sA ?_) (RAV.pint n);simp [Builtin.len_,AA hu]
 simp only[aop]at he;split at he
 ·rename_i sh xs hp
  simp only[Option.some.injEq,Prod.mk.injEq]at he;obtain⟨rfl,rfl,rfl⟩:=he;rw[hp]at Rp;obtain⟨a,cap,rfl,_⟩:=z3L Rp.p_inv;exact key _ _ _ rfl rfl rfl rfl
 ·rename_i sh hp
  simp only[Option.some.injEq,Prod.mk.injEq]at he;obtain⟨rfl,rfl,rfl⟩:=he;rw[hp]at Rp;obtain⟨a,rfl⟩:=sJ Rp;exact key _ _ _ rfl rfl rfl rfl
 ·rename_i id g off len hp
  simp only[Option.some.injEq,Prod.mk.injEq]at he;obtain⟨rfl,rfl,rfl⟩:=he;rw[hp]at Rp;obtain⟨a,cap,_,_,_,_,rfl,_⟩:=z24 Rp;exact key _ _ _ rfl rfl rfl rfl
 ·rename_i k tt id g hp
  simp only[Option.map_eq_some_iff,Prod.mk.injEq]at he;obtain⟨u,hu,rfl,rfl,rfl⟩:=he;unfold lnA at hu;cases hk:Nat.beq k 3 with
  | false=>rw[hk]at hu;cases hu
  | true=>
   rw[hk]at hu;have hk:=Nat.eq_of_beq_eq_true hk
   subst hk;simp only[cond_true,Option.some.injEq]at hu;subst hu;rw[hp]at Rp;cases Rp;exact key _ _ _ rfl rfl rfl rfl
 ·cases he
theorem zeu {t ty:TypeId}{ts:List TypeId}(hc:QE P t=2){ev:Opd→AV}{p:Opd}{x:Value}{v:AV}{h1:aA}{e:Esc}(H:HeapRel h μ w)(Rp:RAV (imm h μ w) h μ (ev p) x)(he:aop (.lens p) ev h=some (v,h1,e)) :
 kA P (do pure (.value (←Builtin.len_ (t::ts).toArray ty #[x]))) h μ w v h1 e:=by
 have hu:P.underlying t=some .string:=by
  unfold QE at hc;split at hc <;> simp_all
 simp only[aop]at he;split at he
 ·rename_i s hp
  simp only[Option.some.injEq,Prod.mk.injEq]at he;obtain⟨rfl,rfl,rfl⟩:=he;rw[hp]at Rp;rw[Rp.p_str];refine kA.pure H (sA ?_) (RAV.pint s.length);simp only[Builtin.len_,List.getElem?_toArray,List.getElem?_cons_zero,Sem.run_bind,AA hu,Result.andThen_ok];rfl
 ·cases he
theorem zet {t ty:TypeId}{ts:List TypeId}(hc:QE P t=3){ev:Opd→AV}{p:Opd}{x:Value}{v:AV}{h1:aA}{e:Esc}(H:HeapRel h μ w)(Rp:RAV (imm h μ w) h μ (ev p) x)(he:aop (.lenm p) ev h=some (v,h1,e)) :
 kA P (do pure (.value (←Builtin.len_ (t::ts).toArray ty #[x]))) h μ w v h1 e:=by
 have hu:∃e1 e2,P.underlying t=some (.map e1 e2):=by
  unfold QE at hc;split at hc <;> simp_all
 obtain⟨e1,e2,hu⟩:=hu;simp only[aop]at he;split at he
 ·rename_i hp
  simp only[Option.some.injEq,Prod.mk.injEq]at he;obtain⟨rfl,rfl,rfl⟩:=he;rw[hp]at Rp;cases Rp;refine kA.pure H (sA ?_) (RAV.pint 0);simp [Builtin.len_,AA hu]
 ·rename_i id hp
  simp only[Option.map_eq_some_iff,Prod.mk.injEq]at he;obtain⟨⟨id',es,c⟩,hm,rfl,rfl,rfl⟩:=he;rw[hp]at Rp;cases Rp with|mp _ b n es' c' ho hmu=>
  simp only[JB,ho,Option.some.injEq,Prod.mk.injEq]at hm;obtain⟨rfl,rfl,rfl⟩:=hm;obtain⟨b',n',ces,hb',k1,k2,k4,k3⟩:=H.obj _ _ _ ho hmu;injection hb' with hb';injection hb' with hb1 hb2
  subst hb1;refine kA.pure H (sA (u:=goInt es'.length) ?_) (RAV.pint _);simp only[Builtin.len_,List.getElem?_toArray,List.getElem?_cons_zero,Sem.run_bind,AA hu,Result.andThen_ok];simp [getObj,Sem.run,k1,k2]
 ·cases he
end Go.Am
end
