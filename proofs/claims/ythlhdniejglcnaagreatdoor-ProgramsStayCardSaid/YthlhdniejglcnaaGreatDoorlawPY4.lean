import Derived.Below
import Derived.ChangeSlices
import Derived.Carry
import GoSem.Extern.Table
import Derived.Laws.World
import Derived.Test.YthlhdniejglcnaaGreatDoorlawPY3
set_option linter.all false
set_option maxRecDepth 100000
set_option maxHeartbeats 0
namespace Go.Am
section
variable {h h':aA} {μ μ':Mu} {w w':World} {P:Program} {M M':Mem}
variable {gl:Nat->Option PV} {nt:Nat} {M0:Mem} {h0:aA} {μ0:Mu} {e:List (Nat × AV)} {x:Esc} {a:Act}
theorem RAV.upto {M M':Mem}(hM:M.le M'){h h':aA}{μ μ':Mu}{n:Nat}(gh:∀ {i:Nat} {y:Obj},h[i]?=some y->i<n->h'[i]?=some y)(gm:∀ {i:Nat} {y:Option (Nat × Nat)},μ[i]?=some y->i<n->μ'[i]?=some y){v:AV}{x:Value}(H:RAV M h μ v x):v.top<=n->RAV M' h' μ' v x:=by
 induction H with
 | p v x hv=>exact λ_=>.p v x (hv.mono hM)
 | own id g off len a cap sh xs fz m hl ho hm hg hgl hv=>exact λht=>.own id g off len a cap sh xs fz m hl (gh ho ht) (gm hm ht) hg hgl hv
 | sl0 sh a=>exact λ_=>.sl0 sh a
 | ref id off b n cs ho hm=>exact λht=>.ref id off b n cs (gh ho ht) (gm hm ht)
 | rref id g i off a sh xs fz m ho hm hg hi hv=>exact λht=>.rref id g i off a sh xs fz m (gh ho ht) (gm hm ht) hg hi hv
 | vp v b o f hm hr=>exact λ_=>.vp v b o f (λj y hy=>hM.c _ _ _ (hm j y hy)) (λj y hy=>(hr j y hy).mono hM)
 | nilp=>exact λ_=>.nilp
 | nilm=>exact λ_=>.nilm
 | nilf=>exact λ_=>.nilf
 | nili=>exact λ_=>.nili
 | ifc t v=>exact λ_=>.ifc t v
 | mp id b n es c ho hm=>exact λht=>.mp id b n es c (gh ho ht) (gm hm ht)
 | it id b n m s seen l ho hm=>exact λht=>.it id b n m s seen l (gh ho ht) (gm hm ht)
 | fn f cs vs hl hr ih=>exact λht=>.fn f cs vs hl (λj y v h1 h2=>ih j y v h1 h2 (by have:=fF h1;simp only[AV.top]at ht;omega))
 | agg cs vs hl hr ih=>exact λht=>.agg cs vs hl (λj y v h1 h2=>ih j y v h1 h2 (by have:=fF h1;simp only[AV.top]at ht;omega))
 | tup cs vs hl hr ih=>exact λht=>.tup cs vs hl (λj y v h1 h2=>ih j y v h1 h2 (by have:=fF h1;simp only[AV.top]at ht;omega))
 | anyb b=>exact λ_=>.anyb b
 | skp=>exact λ_=>.skp
 | und x=>exact λ_=>.und x
 | anyp a=>exact λ_=>.anyp a
 | bt0 t id g b n cs ho hm hs=>exact λht=>.bt0 t id g b n cs (gh ho ht) (gm hm ht) (hM.s _ _ hs)
 | bt1 t id g a cap xs fz m hl ho hm hg hv=>exact λht=>.bt1 t id g a cap xs fz m hl (gh ho ht) (gm hm ht) hg (λe=>by
  have q:=hv e
  cases m with
  | none=>exact q
  | some m=>exact⟨q.1,q.2.1,hM.s _ _ q.2.2⟩)
 | bt2 t id g a xs fz m ho hm hg hv=>exact λht=>.bt2 t id g a xs fz m (gh ho ht) (gm hm ht) hg (λe=>by obtain⟨b,n,q1,q2,q3⟩:=hv e;exact⟨b,n,q1,q2,hM.s _ _ q3⟩)
 | bt3 t id g a cap o m hl ho hm hv=>exact λht=>.bt3 t id g a cap o m hl (gh ho ht) (gm hm ht) hv
 | bt4 off id g a o m ho hm hv=>exact λht=>.bt4 off id g a o m (gh ho ht) (gm hm ht) hv
theorem HeapRel.sel (H:HeapRel h μ w)(n:Nat)(hn:n<=h.length)(ht:∀ id o,h[id]?=some o->id<n->o.top<=n){id:Nat}(hid:n<=id){sh:Sh}{xs:List PV}{fz:Nat}{m:Option (Nat × Nat)}(ho:h[id]?=some (.row sh xs fz))(hm:μ[id]?=some m) :
 HeapRel (h.take n++[.row sh xs fz]) (μ.take n++[m]) w/\(imm h μ w).le (imm (h.take n++[.row sh xs fz]) (μ.take n++[m]) w):=by
 have hnm:n<=μ.length:=by rw[H.len];exact hn
 have get:∀{α:Type} {l:List α} {i:Nat} {y z:α},n<=l.length->(l.take n++[z])[i]?=some y->(i<n/\l[i]?=some y)∨(i=n/\y=z):=by
  intro α l i y z hl hy;have hln:(l.take n).length=n:=by rw[List.length_take];omega
  rcases Nat.lt_or_ge i n with hi|hi
  ·rw[List.getElem?_append_left (by omega),List.getElem?_take,if_pos hi]at hy
   exact .inl ⟨hi,hy⟩
  ·rw[List.getElem?_append_right (by omega),hln]at hy
   have:i=n:=by
    have:=IA hy;simp at this;omega
   subst this;rw[Nat.sub_self]at hy;exact .inr ⟨rfl,by simpa using hy.symm⟩
 have put:∀{α:Type} {l:List α} {z:α},n<=l.length->∀{i:Nat} {y:α},l[i]?=some y->i<n->(l.take n++[z])[i]?=some y:=by
  intro α l z hl i y hy hi;rw[List.getElem?_append_left (by rw[List.length_take];omega),List.getElem?_take,if_pos hi,hy]
 have last:∀{α:Type} {l:List α} {z:α},n<=l.length->(l.take n++[z])[n]?=some z:=by
  intro α l z hl;rw[List.getElem?_append_right (by rw[List.length_take];omega)]
  have:n-(l.take n).length=0:=by rw[List.length_take];omega
  rw[this];rfl
 have back:∀{i b k},(μ.take n++[m])[i]?=some (some (b,k))->∃j,μ[j]?=some (some (b,k))/\(i<n->j=i)/\(i=n->j=id)/\(i<n∨i=n):=λ{i b k} e=>by
  rcases get hnm e with⟨a1,a2⟩|⟨a1,a2⟩
  ·exact⟨i,a2,λ_=>rfl,λq=>by omega,.inl a1⟩
  ·exact⟨id,by rw[hm,a2],λq=>by omega,λ_=>rfl,.inr a1⟩
 have L:(imm h μ w).le (imm (h.take n++[.row sh xs fz]) (μ.take n++[m]) w):=LP (λb x v h1 h2=>⟨λ⟨i,k,h3,h4⟩=>by
  obtain⟨j,q1,q2,q3,q4⟩:=back h3;refine h1 ⟨j,k,q1,λsh' xs' fz' h5=>?_⟩
  rcases q4 with q4|q4
  ·have:=q2 q4;subst this;exact h4 sh' xs' fz' (put hn h5 q4)
  ·have:=q3 q4;subst this
   rw[ho]at h5;cases h5;exact h4 sh xs fz (by rw[q4];exact last hn),h2⟩) (λb o h1 h2=>⟨λ⟨i,k,h3⟩=>by
  obtain⟨j,q1,_⟩:=back h3;exact h1 ⟨j,k,q1⟩,h2⟩) rfl (λ_ _ h=>h)
 refine⟨⟨by simp [H.len],λi o' m' h1 h2=>?_,λi j b k k' h1 h2=>?_,λi b k h1=>?_⟩,L⟩
 ·rcases get hn h1 with⟨hi,h1⟩|⟨hi,rfl⟩
  ·rcases get hnm h2 with⟨_,h2⟩|⟨hi2,_⟩
   ·have hR:=H.obj i o' m' h1 h2
    have htop:=ht i o' h1 hi
    cases o' with
    | box cs=>
     obtain⟨b,c,rfl,hb,hc⟩:=hR;refine⟨b,c,rfl,hb,λj x hx=>?_⟩
     obtain⟨h3,v,h4,h5⟩:=hc j x hx;exact⟨h3,v,h4,h5.upto L (put hn) (put hnm) (by have:=fF hx;simp only[Obj.top]at htop;omega)⟩
    | row sh xs fz=>
     obtain⟨h3,h4,h5⟩:=hR;refine⟨h3,h4,?_⟩;cases m' with
     | none=>exact h5
     | some m=>
      obtain⟨b,k⟩:=m;obtain⟨c,h6,h7,h8⟩:=h5;refine⟨c,h6,h7,λi j x y hx hy=>?_⟩
      obtain⟨v,h9,h10⟩:=h8 i j x y hx hy;exact⟨v,h9,h10.mono L⟩
    | amap es clk=>
     obtain⟨b,k,ces,rfl,h3,h4,hb,h5⟩:=hR;refine⟨b,k,ces,rfl,h3,h4,hb,λi e ce he hc=>?_⟩
     obtain⟨h6,h7,h8,h9⟩:=h5 i e ce he hc;refine⟨h6.mono L,h7,h8.upto L (put hn) (put hnm) ?_,h9⟩;have:(es.map ME.val)[i]?=some e.val:=by simp [he]
     have:=fF this;simp only[Obj.top]at htop;omega
    | iter mm s seen l=>
     obtain⟨b,k,rfl,h3⟩:=hR;refine⟨b,k,rfl,?_⟩;cases mm with
     | none=>exact h3
     | some i=>
      obtain⟨bm,nm,es,c,h4,h5,h6⟩:=h3;simp only[Obj.top]at htop;exact⟨bm,nm,es,c,put hnm h4 (by omega),put hn h5 (by omega),h6⟩
    | arow sh cs=>
     obtain⟨h3,h4⟩:=hR;refine⟨h3,?_⟩;cases m' with
     | none=>exact h4
     | some m=>
      obtain⟨b,k⟩:=m;obtain⟨c,h6,h7,h8⟩:=h4;refine⟨c,h6,h7,λj x hx=>?_⟩
      obtain⟨v,h9,h10⟩:=h8 j x hx;exact⟨v,h9,h10.upto L (put hn) (put hnm) (by have:=fF hx;simp only[Obj.top]at htop;omega)⟩
   ·omega
  ·rcases get hnm h2 with⟨hi2,_⟩|⟨_,rfl⟩
   ·omega
   ·obtain⟨h3,h4,h5⟩:=H.obj id _ _ ho hm
    refine⟨h3,h4,?_⟩;cases m' with
    | none=>exact h5
    | some m=>
     obtain⟨b,k⟩:=m;obtain⟨c,h6,h7,h8⟩:=h5;refine⟨c,h6,h7,λi j x y hx hy=>?_⟩
     obtain⟨v,h9,h10⟩:=h8 i j x y hx hy;exact⟨v,h9,h10.mono L⟩
 ·obtain⟨i',q1,q2,q3,q4⟩:=back h1
  obtain⟨j',r1,r2,r3,r4⟩:=back h2;have:=H.distinct i' j' b k k' q1 r1;rcases q4 with q4|q4 <;> rcases r4 with r4|r4
  ·have:=q2 q4;have:=r2 r4;omega
  ·have:=q2 q4;have:=r3 r4;omega
  ·have:=q3 q4;have:=r2 r4;omega
  ·omega
 ·obtain⟨i',q1,_⟩:=back h1
  exact H.inside i' b k q1
theorem zqc {hs:aA}{μs:Mu}{Ms:Mem}{es:Esc}(Hs:∀ id,sF hs id<=hs.length)(H:HeapRel h μ w)(E:Evo Ms hs μs (imm h μ w) h μ)(I:rA hs h es)(hc:xB es hs.length=true){id:Nat}(hid:hs.length<=id){sh:Sh}{xs:List PV}{fz:Nat}{m:Option (Nat × Nat)}(ho:h[id]?=some (.row sh xs fz))(hm:μ[id]?=some m) :
 HeapRel (h.take hs.length++[.row sh xs fz]) (μ.take hs.length++[m]) w/\(imm h μ w).le (imm (h.take hs.length++[.row sh xs fz]) (μ.take hs.length++[m]) w)/\Evo Ms hs μs (imm (h.take hs.length++[.row sh xs fz]) (μ.take hs.length++[m]) w) (h.take hs.length++[.row sh xs fz]) (μ.take hs.length++[m])/\rA hs (h.take hs.length++[.row sh xs fz]) (es.filter λy=>decide (y.1<hs.length)):=by
 have ht:∀id o,h[id]?=some o->id<hs.length->o.top<=hs.length:=by
  intro id o ho hi;have h1:=I id o ho
  have h2:=Hs id
  have h3:=z6D hc hi
  omega
 obtain⟨H1,L⟩:=H.sel hs.length E.len ht hid ho hm;have hlm:hs.length<=μ.length:=by rw[H.len];exact E.len
 refine⟨H1,L,⟨⟨λb o v q=>L.c _ _ _ (E.le.c _ _ _ q),λb o q=>L.b _ _ (E.le.b _ _ q),L.z.trans E.le.z,λb t q=>L.s _ _ (E.le.s _ _ q)⟩,by have:=E.len;simp only[List.length_append,List.length_take,List.length_cons,List.length_nil];omega,λi o m0 q1 q2=>?_⟩,λi o q=>?_⟩
 ·obtain⟨o',m',r1,r2,r3⟩:=E.obj i o m0 q1 q2
  have hi:=IA q1
  have el:=E.len
  exact⟨o',m',by rw[List.getElem?_append_left (by rw[List.length_take];omega),List.getElem?_take,if_pos hi,r1],by rw[List.getElem?_append_left (by rw[List.length_take];omega),List.getElem?_take,if_pos hi,r2],r3⟩
 ·have el:=E.len
  rcases Nat.lt_or_ge i hs.length with hi|hi
  ·rw[List.getElem?_append_left (by rw[List.length_take];omega),List.getElem?_take,if_pos hi]at q
   rw[z6E hi];exact I i o q
  ·rw[List.getElem?_append_right (by rw[List.length_take];omega)]at q
   have:o = .row sh xs fz:=by
    have:=List.mem_of_getElem? q;simpa using this
   subst this;simp only[Obj.top];omega
theorem z9o {M M':Mem}{h':aA}{μ':Mu}{vs vs':List AV}{u:Value}(hl:vs'.length=vs.length)(R:RAV M h μ (XA vs) u)(hh:∀ (j:Nat) (y y':AV) (v:Value),vs[j]?=some y->vs'[j]?=some y'->RAV M h μ y v->RAV M' h' μ' y' v):RAV M' h' μ' (XA vs') u:=by
 match vs,vs',hl with
 | [],[],_=>cases R with|tup _ ws hl hr=>exact .tup [] ws hl λj y v h1 _=>by simp at h1
 | [a],[a'],_=>exact hh 0 a a' u rfl rfl R
 | a::b::r,a'::b'::r',hl=>
  cases R with|tup _ ws hlw hr=>
  refine .tup _ ws (by rw[hl];exact hlw) λj y v h1 h2=>?_
  have hj:j<(a::b::r).length:=by rw[<-hl];exact IA h1
  exact hh j _ y v (List.getElem?_eq_getElem hj) h1 (hr j _ v (List.getElem?_eq_getElem hj) h2)
theorem zoB {rs:List ARes}{vs:List AV}{s:St}{u:Value}{K:jA}(R:Rel gl nt M0 h0 μ0 s.env s.h s.esc a w μ)(Hs:∀ id,sF h0 id<=h0.length)(hR:RAV (imm s.h μ w) s.h μ (XA vs) u)(H:YC h0.length K rs (some vs) s.h s.esc) :
 ∃v h' x μ',K v h' x/\RAV (imm h' μ' w) h' μ' v u/\HeapRel h' μ' w/\Evo M0 h0 μ0 (imm h' μ' w) h' μ'/\rA h0 h' x:=by
 unfold YC at H;dsimp only at H;split at H
 ·rename_i y hy
  obtain⟨hcl,hk⟩:=H;unfold UF at hy;split at hy
  ·rename_i id g off len hf
   split at hy
   ·rename_i sh xs fz ho
    split at hy
    ·rename_i hc
     cases hy;have hlt:=IA ho
     have hmm:∃m,μ[id]?=some m:=⟨_,List.getElem?_eq_getElem (by rw[R.heap.len];exact hlt)⟩
     obtain⟨m,hm⟩:=hmm;obtain⟨q1,q2,q3,q4⟩:=zqc Hs R.heap R.evo R.esc hcl hc.1 ho hm;refine⟨_,_,_,μ.take h0.length++[m],hk,?_,q1,q3,q4⟩;have el:=R.evo.len
     have hlm:h0.length<=μ.length:=by rw[R.heap.len];exact el
     refine z9o (by simp) hR λj y y' v h1 h2 h3=>?_
     have hok:=List.all_eq_true.1 hc.2 y (List.mem_of_getElem? h1)
     rw[List.getElem?_map,h1]at h2;cases h2;have low:y.top<=h0.length->mvO id h0.length y=y->RAV (imm (s.h.take h0.length++[.row sh xs fz]) (μ.take h0.length++[m]) w) (s.h.take h0.length++[.row sh xs fz]) (μ.take h0.length++[m]) (mvO id h0.length y) v:=λht e=>by
      rw[e];exact h3.upto q2 (λ{i y} e hi=>by rw[List.getElem?_append_left (by rw[List.length_take];omega),List.getElem?_take,if_pos hi,e]) (λ{i y} e hi=>by rw[List.getElem?_append_left (by rw[List.length_take];omega),List.getElem?_take,if_pos hi,e]) ht
     cases y with
     | own i g' off' len'=>
      simp only[okO]at hok;have e:=Nat.eq_of_beq_eq_true hok
      subst e;simp only[mvO,hok,cond_true];cases h3 with|own _ _ _ _ a' cap sh' xs' fz' m' hl ho' hm' hg hgl hv=>
      rw[ho]at ho';cases ho'
      rw[hm]at hm';cases hm'
      refine .own h0.length g' off' len' a' cap sh xs fz m hl ?_ ?_ hg hgl hv
      ·rw[List.getElem?_append_right (by rw[List.length_take];omega)]
       have:h0.length-(s.h.take h0.length).length=0:=by rw[List.length_take];omega
       rw[this];rfl
      ·rw[List.getElem?_append_right (by rw[List.length_take];omega)]
       have:h0.length-(μ.take h0.length).length=0:=by rw[List.length_take];omega
       rw[this];rfl
     | _=>exact low (by simpa [okO] using hok) rfl
    ·cases hy
   ·cases hy
  ·rename_i v0 hf
   split at hy
   ·rename_i hc
    cases hy;obtain⟨q1,q2,q3,q4⟩:=PW Hs R.heap R.evo R.esc (Nat.le_refl _) hcl
    refine⟨_,_,_,μ.take h0.length,hk,?_,q1,q3,q4⟩;refine z9o rfl hR λj y y' v h1 h2 h3=>?_
    rw[h1]at h2;cases h2;have:=List.all_eq_true.1 hc y (List.mem_of_getElem? h1);exact h3.take q2 (by simpa using this)
   ·cases hy
  ·cases hy
 ·exact H.elim
theorem z7W {F:AFun}{fn:Func}{s:St}{K:jA}(R:Rel gl nt M0 h0 μ0 s.env s.h s.esc a w μ)(Hs:∀ id,sF h0 id<=h0.length)(hc:DD P F.results fn.results.toList=true)(H:fin F h0.length s K) :
 ∃u,(results fn a.tmps).run P w = .ok u w/\∃v h' x μ',K v h' x/\RAV (imm h' μ' w) h' μ' v u/\HeapRel h' μ' w/\Evo M0 h0 μ0 (imm h' μ' w) h' μ'/\rA h0 h' x:=by
 unfold fin at H;split at H
 ·cases hvs:pC s F.results with
  | none=>rw[hvs]at H;exact H.elim
  | some vs=>
   rw[hvs]at H;obtain⟨u,hu,hR⟩:=z9M R.heap R.env hc hvs;exact⟨u,hu,zoB R Hs hR H⟩
 split at H
 ·rename_i vs hvs
  obtain⟨u,hu,hR⟩:=z9M R.heap R.env hc hvs;refine⟨u,hu,?_⟩;split at H
  ·dsimp only at H
   split at H
   ·rename_i hcl
    have hn:=sR s.esc.length s.esc (max h0.length (XA vs).top)
    generalize vB s.esc.length s.esc (max h0.length (XA vs).top)=n at H hcl hn;obtain⟨q1,q2,q3,q4⟩:=PW Hs R.heap R.evo R.esc (by omega) hcl
    exact⟨_,_,_,μ.take n,H,hR.take q2 (by omega),q1,q3,q4⟩
   ·exact⟨_,_,_,μ,H,hR,R.heap,R.evo,R.esc⟩
  ·split at H
   ·rename_i v0 hv0
    dsimp only at H;split at H
    ·rename_i hcl
     have hn:=sR s.esc.length s.esc (max h0.length v0.top)
     generalize vB s.esc.length s.esc (max h0.length v0.top)=n at H hcl hn;split at H
     ·rename_i v hv
      obtain⟨q1,q2,q3,q4⟩:=PW Hs R.heap R.evo R.esc (by omega) hcl
      exact⟨_,_,_,μ.take n,H.2,z9L R.heap q2 _ hR hv H.1,q1,q3,q4⟩
     ·exact H.elim
    ·exact⟨_,_,_,μ,H,hR,R.heap,R.evo,R.esc⟩
   ·exact H.elim
 ·exact H.elim
def VY (P:Program)(f:Nat)(F:AFun):Bool:=match P.funcs[f]? with
 | some fn=>match fn.body with
  | some c=>dC P fn.ntmps F.body c&&DD P F.results fn.results.toList&&fn.name != "runtime.NumGoroutine"
  | none=>false
 | none=>false
theorem z0P {f:Nat}{fn:Func}{c:Code}(hf:P.funcs[f]?=some fn)(hb:fn.body=some c)(hn:fn.name ≠ "runtime.NumGoroutine")(args:Array Value)(w:World):(callFunc f args).run P w = .ok (.enter f args) w:=by
 unfold callFunc;simp [hf,hb,hn]
theorem zjy {asv:List AV}{t:Nat}:eA (enter asv) t=(asv[t]?).getD .und:=by
 have key:∀(l:List AV) (k t:Nat),eA ((l.zipIdx k).map λy=>(y.2,y.1)) t=if t<k then .und else(l[t-k]?).getD .und:=by
  intro l;induction l with
  | nil=>intro k t;simp [eA]
  | cons v r ih=>
   intro k t;simp only[List.zipIdx_cons,List.map_cons,eA];by_cases hk:k=t
   ·subst hk;simp
   ·rw[if_neg hk,ih]
    by_cases h1:t<k
    ·rw[if_pos h1,if_pos (by omega)]
    ·rw[if_neg h1,if_neg (by omega),show t-k=(t-(k+1))+1 by omega]
     simp
 have:=key asv 0 t;simpa [enter] using this
def GH (M:Mem)(w w':World):Mem:=⟨λb o=>if b<w.heap.size then M.c b o else w'.cell? ⟨b,o,none⟩,λ_=>none,some (zed w'),λ_=>none⟩
def z4z (P:Program)(f:Nat)(vs:List PV)(r:PV):Prop:=∀(M:Mem) (w:World) (us:List Value),(∀b o v,M.c b o=some v->w.cell? ⟨b,o,none⟩=some v)->vs.length=us.length ->
 (∀(j:Nat) (y:PV) (v:Value),vs[j]?=some y->us[j]?=some v->RPV M y v) ->
 ∃x w',(callFunc f us.toArray).run P w = .ok (.value x) w'/\WExt w w'/\RPV (GH M w w') r x
structure Fits (P:Program) (X:Ctx):Prop where
 mixed:P.follows .mixedOrders=true
 fn:∀f F,X.fn f=some F->VY P f F=true
 ext:∀f vs r,X.fn f=none->X.ext f vs=some r->z4z P f vs r
 ex2:∀f asv h v h' x,X.fn f=none->X.ex2 f asv h=some (v,h',x)->MC P X.gl f asv h λv1 h1 x1=>v1=v/\h1=h'/\x1=x
theorem zq3 {X:Ctx}(HX:Fits P X){f:Nat}{asv:List AV}{h:aA}{K:jA}(H:ZB X (MC P X.gl) f asv h K):MC P X.gl f asv h K:=by
 intro μ w vs Hh Hg hl hr;unfold ZB at H;split at H
 ·rename_i F hF
  have H:=zjQ (MC.mono P X.gl) H
  have hck:=HX.fn f F hF
  unfold VY at hck;split at hck
  ·rename_i fn hfn
   split at hck
   ·rename_i c hb
    simp only[Bool.and_eq_true,bne_iff_ne,ne_eq]at hck;obtain⟨⟨c1,c2⟩,c3⟩:=hck;refine .inl ⟨λw=>z0P hfn hb c3 _ w,calls_of_wp hfn hb ?_⟩
    unfold oC at H;have body:∀{asv':List AV} {h1:aA},NF h μ w h1->asv'.length=vs.length->(∀(j:Nat) (y:AV) (v:Value),asv'[j]?=some y->vs[j]?=some v->RAV (imm h1 μ w) h1 μ y v) ->
     (asv'.length=F.nparams/\AW (MC P X.gl) X.gl F.body ⟨enter asv',h1,[]⟩ λe s=>match e with
      | .exit _=>False
      | _=>fin F h.length s K)->Code.wp P c (bodyPost P fn fun
       | .returned r,w'=>∃v h' x μ',K v h' x/\RAV (imm h' μ' w') h' μ' v r/\HeapRel h' μ' w'/\Evo (imm h μ w) h μ (imm h' μ' w') h' μ'/\rA h h' x
       | _,_=>False) { tmps:=vs.toArray++Array.replicate (fn.ntmps-vs.toArray.size) undef,defers:=[] } w:=by
     intro asv' h1 ⟨a1,a2,a3⟩ hl' hr' ⟨_,hA⟩;refine zE HX.mixed (nt:=fn.ntmps) (M0:=imm h μ w) (h0:=h) (μ0:=μ) (μ:=μ) (λ_ _ _ _ h=>h) F.body c1 hA ⟨a1,λt=>?_,Hg.mono a2.le,a2,a3,?_,rfl⟩ (λex s' a' w' μ' hk R'=>?_)
     ·dsimp only
      rw[zjy];cases ht:asv'[t]? with
      | none=>exact .und _
      | some y=>
       have hlt:t<vs.length:=by rw[<-hl'];exact IA ht
       have:(vs.toArray++Array.replicate (fn.ntmps-vs.toArray.size) undef).getD t undef=vs[t]:=by
        simp [Array.getD,hlt];intro hh;omega
       rw[this];exact hr' t y _ ht (List.getElem?_eq_getElem hlt)
     ·simp;omega
     ·cases ex with
      | normal=>
       obtain⟨u,q1,q2⟩:=z7W R' (λid=>z3Z Hh id) c2 hk
       exact⟨R'.defers,u,q1,q2⟩
      | exit i=>exact hk.elim
      | ret=>
       obtain⟨u,q1,q2⟩:=z7W R' (λid=>z3Z Hh id) c2 hk
       exact⟨R'.defers,u,q1,q2⟩
    split at H
    ·rename_i asv' h1 hp
     split at hp
     ·injection hp with hp
      injection hp with e1 e2
      subst e1;subst e2
      exact body ⟨Hh,Evo.refl _ _ _,rA.refl _ _⟩ hl hr H
     ·obtain⟨q1,q2,q3⟩:=OV asv Hh hl hr hp
      exact body q1 q2 q3 H
    ·exact H.elim
   ·cases hck
  ·cases hck
 ·rename_i hF
  split at H
  ·rename_i hx2
   exact MC.mono P X.gl _ _ _ _ _ (λv1 h1' x1 hv=>by obtain⟨rfl,rfl,rfl⟩:=hv;exact H) (HX.ex2 f asv h _ _ _ hF hx2) μ w vs Hh Hg hl hr
  ·rename_i hx2
   split at H
   ·rename_i asv' h1 hp
    split at H
    ·rename_i ps hps
     split at H
     ·rename_i r hrr
      obtain⟨q1,q2,q3⟩:=OV asv Hh hl hr hp;have hm:=vN hps
      subst hm;obtain⟨u,w',k1,g1,g2⟩:=HX.ext f ps r hF hrr (imm h1 μ w) w vs (λb o v hv=>(nE.1 hv).2) (by simpa using q2) (λj y v hy hv=>(q3 j (.p y) v (by simp [hy]) hv).p_inv)
      obtain⟨n1,n2⟩:=q1.1.ext g1;have L:(GH (imm h1 μ w) w w').le (imm h1 μ w'):=by
       refine⟨λb o v hv=>?_,λb o hv=>?_,rfl,λ_ _ h=>by cases h⟩
       ·dsimp only[GH]at hv
        split at hv
        ·exact n2.le.c _ _ _ hv
        ·rename_i hb
         exact nE.2 ⟨λhO=>hb (z15 q1.1 hO),hv⟩
       ·dsimp only[GH]at hv
        cases hv
      exact .inr ⟨_,_,_,_,_,μ,k1,H,.p _ _ (g2.mono L),n1,q1.2.1.trans n2,q1.2.2⟩
     ·exact H.elim
    ·exact H.elim
   ·exact H.elim
theorem z5z {X:Ctx}(HX:Fits P X){f:Nat}{asv:List AV}{h:aA}{K:jA}(H:bA X f asv h K):MC P X.gl f asv h K:=
 H (MC P X.gl) (MC.mono P X.gl) (λf a h K hs=>zq3 HX hs)
end
section
def TJ (o:Option (AV × aA × Esc))(f:AV->aA->Esc->Prop):Prop:=match o with
 | some y=>f y.1 y.2.1 y.2.2
 | none=>False
def ON (v:AV)(A B:Prop):Prop:=match v with
 | .p (.bool t)=>match t with
  | true=>A
  | false=>B
 | .anyb=>A/\B
 | _=>False
def iB (v:AV)(A B:Prop):Prop:=match v with
 | .p (.bool t)=>match t with
  | true=>A
  | false=>B
 | _=>False
def tF (v:AV)(b:Bool)(A B:Prop):Prop:=match v with
 | .p (.bool c)=>match c==b with
  | true=>A
  | false=>B
 | .skp=>B
 | _=>False
def finK (F:AFun)(b:Nat)(K:jA)(e:Ex)(s:St):Prop:=match e with
 | .exit _=>False
 | _=>fin F b s K
def zaD (n:Nat)(x:Esc)(K:Ex->St->Prop)(e:Ex)(s:St):Prop:=K e (mD n x s)
def AO.plain:AO->Bool
 | .call _ _ | .callv _ _ | .mnext _ _=>false
 | .mv _=>true
 | .pick _ _ _=>true
 | .alloc _=>true
 | .box _=>true
 | .build _ _=>true
 | .bsl _ _ _ _ _=>true
 | .load _ _=>true
 | .store _ _ _=>true
 | .nilchk _=>true
 | .bin _ _ _=>true
 | .eqa _ _ _ _=>true
 | .isnil _ _ _=>true
 | .mkif _=>true
 | .un _ _=>true
 | .conv _ _=>true
 | .mkfn _ _=>true
 | .mkmap=>true
 | .mksl _ _ _ _=>true
 | .slice _ _ _ _ _=>true
 | .slstr _ _ _=>true
 | .faddr _ _ _=>true
 | .field _ _ _=>true
 | .iaddr _ _ _=>true
 | .iaddra _ _ _ _=>true
 | .idxa _ _ _ _=>true
 | .idxs _ _=>true
 | .look _ _ _ _ _=>true
 | .mupd _ _ _ _=>true
 | .ment _ _ _ _=>true
 | .estore _ _ _=>true
 | .mdel _ _ _=>true
 | .ext _ _=>true
 | .len _=>true
 | .lens _=>true
 | .lenm _=>true
 | .app _ _ _=>true
 | .copy _ _ _=>true
 | .uns _ _ _=>true
 | .clr _ _ _=>true
 | .mx _=>true
 | .mn _=>true
 | .mrange _=>true
 | .mentry _=>true
 | .new0 _=>true
variable {C:Hd} {gl:Nat->Option PV} {e:List (Nat × AV)} {h:aA} {x:Esc} {K:Ex->St->Prop} {L:List (Nat × AV)->aA->Esc->Prop} {s:St}
theorem zaE {n:Nat}{y:Esc}{ex:Ex}:zaD n y K ex s=K ex (mD n y s):=(rfl)
def HK (C:Hd)(gl:Nat->Option PV)(r:List AOp)(d:Option Nat)(e:List (Nat × AV))(x:Esc)(L:List (Nat × AV)->aA->Esc->Prop)(v:AV)(h':aA)(x':Esc):Prop:=WA C gl r (put d v e) h' (x'++x) L
theorem zb9 {d:Option Nat}{op:AO}{r:List AOp}(hp:op.plain=true):WA C gl (⟨d,none,op⟩::r) e h x L=TJ (aop op (Opd.ev gl e) h) (HK C gl r d e x L):=by
 cases op <;> first|(cases hp;done)|(simp only[WA,wanted,TJ,HK];split <;> simp_all)
theorem z4s {d:Option Nat}{f:Nat}{args:List Opd}{r:List AOp}:WA C gl (⟨d,none,.call f args⟩::r) e h x L=C f (args.map (Opd.ev gl e)) h (HK C gl r d e x L):=(rfl)
theorem zbB {d:Option Nat}{g:Option (Nat × Bool)}{op:AO}{r:List AOp}(hw:wanted g e=some true):WA C gl (⟨d,g,op⟩::r) e h x L=WA C gl (⟨d,none,op⟩::r) e h x L:=by
 rw[WA,WA];have h2:wanted none e=some true:=(rfl)
 simp only[hw,h2]
theorem z4u {d:Option Nat}{g:Option (Nat × Bool)}{op:AO}{r:List AOp}(hw:wanted g e=some false):WA C gl (⟨d,g,op⟩::r) e h x L=WA C gl r (put d .skp e) h x L:=by
 rw[WA];simp only[hw]
theorem zbA {d:Option Nat}{g:Option (Nat × Bool)}{op:AO}{r:List AOp}(hw:wanted g e=none):WA C gl (⟨d,g,op⟩::r) e h x L=False:=by
 rw[WA];simp only[hw]
theorem z4v {d:Option Nat}{t:Nat}{b:Bool}{op:AO}{r:List AOp}:WA C gl (⟨d,some (t,b),op⟩::r) e h x L=tF (eA e t) b (WA C gl (⟨d,none,op⟩::r) e h x L) (WA C gl r (put d .skp e) h x L):=by
 have key:∀v,eA e t=v->WA C gl (⟨d,some (t,b),op⟩::r) e h x L=tF v b (WA C gl (⟨d,none,op⟩::r) e h x L) (WA C gl r (put d .skp e) h x L):=by
  intro v hv;unfold tF;split
  ·rename_i c
   split
   ·rename_i hcb;exact zbB (by simp [wanted,hv,hcb])
   ·rename_i hcb;exact z4u (by simp [wanted,hv,hcb])
  ·exact z4u (by simp [wanted,hv])
  ·rename_i h1 h2
   refine zbA ?_;simp only[wanted,hv]
 exact key _ rfl
theorem z5M {t:Bool}{A B:Prop}:iB (.p (.bool t)) A B=if t=true then A else B:=by cases t <;> simp [iB]
theorem z5O {A B:Prop}:iB (.p (.bool true)) A B=A:=(rfl)
theorem z5N {A B:Prop}:iB (.p (.bool false)) A B=B:=(rfl)
theorem zr5 {t:Bool}{A B:Prop}:tF (.p (.bool t)) true A B=if t=true then A else B:=by cases t <;> simp [tF]
theorem zr4 {t:Bool}{A B:Prop}:tF (.p (.bool t)) false A B=if t=true then B else A:=by cases t <;> simp [tF]
theorem zgi {v v':AV}{A B:Prop}(hv:v=v'):iB v A B=iB v' A B:=by rw[hv]
theorem dX {X:Ctx}{f:Nat}{F:AFun}{a:List AV}{h:aA}{P:jA}(hf:X.fn f=some F)(hd:F.isDet=false):bA X f a h P=oC (bA X) X.gl F a h P:=by
 rw[propext z4l];unfold ZB;rw[hf];simp only[pD,hd]
theorem z4H {X:Ctx}{f:Nat}{F:AFun}{a:List AV}{h:aA}{P:jA}(hf:X.fn f=some F)(hd:F.isDet=true):bA X f a h P = ∃v h' x,P v h' x/\oC (bA X) X.gl F a h λv1 h1 x1=>v1=v/\h1=h'/\x1=x:=by
 rw[propext z4l];unfold ZB;rw[hf];simp only[pD,hd]
theorem HO {A B:AV->aA->Esc->Prop}(h:∀ v h' x,A v h' x=B v h' x):(∃v h' x,A v h' x) = ∃v h' x,B v h' x:=by
 simp only[h]
theorem fR {F:AFun}{a asv:List AV}{h h1:aA}{P:jA}(hr:F.byref=false)(hp:nA h a=some (asv,h1))(hl:asv.length=F.nparams) :
 oC C gl F a h P=AW C gl F.body ⟨enter asv,h1,[]⟩ (finK F h.length P):=by
 unfold oC;rw[hr];simp only[Bool.false_eq_true,if_false,hp,hl,true_and];congr 1
theorem zdh {F:AFun}{asv:List AV}{h:aA}{P:jA}(hr:F.byref=true)(hl:asv.length=F.nparams) :
 oC C gl F asv h P=AW C gl F.body ⟨enter asv,h,[]⟩ (finK F h.length P):=by
 unfold oC;rw[hr];simp only[if_true,hl,true_and];congr 1
def doK (C:Hd)(gl:Nat->Option PV)(o:AOp)(e:List (Nat × AV))(h:aA)(R:AV->aA->Esc->Prop):Prop:=∃v h' y,ADo C gl o e h v h' y/\R v h' y
def TB (C:Hd)(f:Nat)(a:List AV)(h:aA)(R:AV->aA->Esc->Prop):Prop:=∃v h' y,C f a h (λv1 h1 x1=>v1=v/\h1=h'/\x1=y)/\R v h' y
def oT (C:Hd)(gl:Nat->Option PV)(o:DOp)(r:List DOp)(dn:DC)(hs:List aA)(e:List (Nat × AV))(h:aA)(x:Esc)(L:List (Nat × AV)->aA->Esc->Prop)(v:AV)(h':aA)(y:Esc):Prop:=
 (o.eff=false->h'=h/\y=[])/\(∀k∈o.early,∃g,hs[k]?=some g/\ADo C gl o.op (EA (some o.rd) e) g v g []) /\
  (∀j∈o.again,∃q,dn[j]?=some q/\ADo C gl q.1 q.2.1 h' q.2.2 h' [])/\iD C gl r (dn++[(o.op,EA (some o.rd) e,v)]) (hs++[h]) (put o.op.dst v e) h' (y++x) L
theorem z4o {o:DOp}{r:List DOp}{dn:DC}{hs:List aA}:iD C gl (o::r) dn hs e h x L=doK C gl o.op (EA (some o.rd) e) h (oT C gl o r dn hs e h x L):=(rfl)
variable {R:AV->aA->Esc->Prop}
theorem ex3 {v0:AV}{h0:aA}{y0:Esc}:(∃v h y,(v=v0/\h=h0/\y=y0)/\R v h y)=R v0 h0 y0:=
 propext ⟨λ⟨_,_,_,⟨h1,h2,h3⟩,r⟩=>by subst h1;subst h2;subst h3;exact r,λr=>⟨_,_,_,⟨rfl,rfl,rfl⟩,r⟩⟩
theorem ex3' {v0:AV}{h0:aA}{y0:Esc}:(∃v h y,(v0=v/\h0=h/\y0=y)/\R v h y)=R v0 h0 y0:=
 propext ⟨λ⟨_,_,_,⟨h1,h2,h3⟩,r⟩=>by subst h1;subst h2;subst h3;exact r,λr=>⟨_,_,_,⟨rfl,rfl,rfl⟩,r⟩⟩
theorem zgx {d:Option Nat}{op:AO}(hp:op.plain=true):doK C gl ⟨d,none,op⟩ e h R=TJ (aop op (Opd.ev gl e) h) R:=by
 have key:∀o:Option (AV×aA×Esc),(∃v h' y,o=some (v,h',y)/\R v h' y)=TJ o R:=by
  intro o;cases o with
  | none=>simp [TJ]
  | some z=>obtain⟨v,h',y⟩:=z;simp only[Option.some.injEq,Prod.mk.injEq,ex3'];rfl
 rw[<-key];unfold doK ADo;cases op <;> first|(cases hp;done)|rfl
theorem z6b {d:Option Nat}{f:Nat}{args:List Opd}:doK C gl ⟨d,none,.call f args⟩ e h R=TB C f (args.map (Opd.ev gl e)) h R:=(rfl)
theorem z6d {d:Option Nat}{t:Nat}{b:Bool}{op:AO}:doK C gl ⟨d,some (t,b),op⟩ e h R=tF (eA e t) b (doK C gl ⟨d,none,op⟩ e h R) (R .skp h []):=by
 have h2:wanted none e=some true:=(rfl)
 have key:∀v,eA e t=v->doK C gl ⟨d,some (t,b),op⟩ e h R=tF v b (doK C gl ⟨d,none,op⟩ e h R) (R .skp h []):=by
  intro v hv;unfold tF;split
  ·rename_i c
   split
   ·rename_i hcb
    have hw:wanted (some (t,b)) e=some true:=by simp [wanted,hv,hcb]
    unfold doK ADo;simp only[hw,h2]
   ·rename_i hcb
    have hw:wanted (some (t,b)) e=some false:=by simp [wanted,hv,hcb]
    unfold doK ADo;simp only[hw,ex3]
  ·have hw:wanted (some (t,b)) e=some false:=by simp [wanted,hv]
   unfold doK ADo;simp only[hw,ex3]
  ·rename_i h3 h4
   have hw:wanted (some (t,b)) e=none:=by
    simp only[wanted,hv]
   unfold doK ADo;simp only[hw];simp
 exact key _ rfl
theorem zfI {f:Nat}{a a':List AV}{h h':aA}(ha:a=a')(hh:h=h'):TB C f a h R=TB C f a' h' R:=by rw[ha,hh]
theorem zb0 {X:Ctx}{f:Nat}{a a':List AV}{h h':aA}{K:jA}(ha:a=a')(hh:h=h'):bA X f a h K=bA X f a' h' K:=by rw[ha,hh]
theorem zgz {o:DOp}{r:List DOp}{dn:DC}{hs:List aA}{v:AV}{h':aA}{y:Esc}:oT C gl o r dn hs e h x L v h' y=((o.eff=false->h'=h/\y=[])/\(∀k∈o.early,∃g,hs[k]?=some g/\ADo C gl o.op (EA (some o.rd) e) g v g []) /\
 (∀j∈o.again,∃q,dn[j]?=some q/\ADo C gl q.1 q.2.1 h' q.2.2 h' [])/\iD C gl r (dn++[(o.op,EA (some o.rd) e,v)]) (hs++[h]) (put o.op.dst v e) h' (y++x) L):=(rfl)
end
section
variable {P:Program}
theorem zkp (W:World):HeapRel [] [] W:=⟨rfl,λid o m h=>by simp at h,λi j b n n' h=>by simp at h,λi b n h=>by simp at h⟩
theorem zk6 {W:World}{b:Nat}{o:Go.Obj}(hb:W.heap[b]?=some o):(imm [] [] W).b b=some o:=yI.2 ⟨λ⟨id,n,h⟩=>by simp at h,hb⟩
theorem zk7 {W:World}{b o:Nat}{v:Value}(hb:W.cell? ⟨b,o,none⟩=some v):(imm [] [] W).c b o=some v:=nE.2 ⟨λ⟨id,n,h,_⟩=>by simp at h,hb⟩
theorem zdM {W W':World}{h:aA}{μ:Mu}(E:(imm [] [] W).le (imm h μ W')):RowKit.Below W.heap.size W W':=by
 have hz:zed W'=zed W:=Option.some.inj E.z
 have hb:∀b,b<W.heap.size->W'.heap[b]?=W.heap[b]?:=λb hb=>by
  have h1:=Array.getElem?_eq_getElem hb
  rw[h1];exact(yI.1 (E.b b _ (zk6 h1))).2
 refine⟨(congrArg World.os hz:(zed W').os=(zed W).os),(congrArg World.tape hz:(zed W').tape=(zed W).tape),(congrArg World.output hz:(zed W').output=(zed W).output),?_,hb⟩;rcases Nat.eq_zero_or_pos W.heap.size with h0|h0
 ·omega
 ·have h1:=hb (W.heap.size-1) (by omega)
  rw[Array.getElem?_eq_getElem (show W.heap.size-1<W.heap.size by omega)]at h1
  have:=(Array.getElem?_eq_some_iff.1 h1).1;omega
theorem zfJ {X:Ctx}(HX:Fits P X){f:Nat}{F:AFun}(hF:X.fn f=some F)(args:Array Value)(w:World):(callFunc f args).run P w = .ok (.enter f args) w:=by
 have hck:=HX.fn f F hF
 unfold VY at hck;split at hck
 ·rename_i fn hfn
  split at hck
  ·rename_i c hb
   simp only[Bool.and_eq_true,bne_iff_ne,ne_eq]at hck;exact z0P hfn hb hck.2 _ w
  ·cases hck
 ·cases hck
theorem z52 {X:Ctx}(HX:Fits P X){f:Nat}{F:AFun}(hF:X.fn f=some F){asv:List AV}{K:jA}(H:bA X f asv [] K){W:World}{vs:List Value}(hG:vE X.gl (imm [] [] W))(hl:asv.length=vs.length)
 (hr:∀(j:Nat) (y:AV) (v:Value),asv[j]?=some y->vs[j]?=some v->RAV (imm [] [] W) [] [] y v) :
 Calls P f vs.toArray W fun
  | .returned r,W'=>(∃v h x μ,K v h x/\RAV (imm h μ W') h μ v r)/\RowKit.Below W.heap.size W W'
  | _,_=>False:=by
 rcases z5z HX H [] W vs (zkp W) hG hl hr with⟨_,q⟩|⟨r,w',_,_,_,_,q,_⟩
 case inr=>rw[zfJ HX hF]at q;cases q
 refine q.mono λe W' he=>?_
 cases e with
 | returned r=>
  obtain⟨v,h',x,μ',k1,k2,k3,k4,k5⟩:=he;exact⟨⟨v,h',x,μ',k1,k2⟩,zdM k4.le⟩
 | panicked _=>exact he
 | outgrown=>exact he
def KV (zs:List Int):AV:=.p (.sl none (zs.map λn=>.int .i64 n))
theorem zfQ (W:World):RAV (imm [] [] W) [] [] (KV []) (.slice none 0 0):=.p _ _ (.nils _ _ _)
theorem zfP {W:World}{a:Addr}{len cap:Nat}{zs:List Int}(hs:a.spot=none)(hl:len<=cap)(hz:len<=zs.length)(hc:∀ i,i<zs.length->W.cell? (a.add i)=some (.int .i64 (zs.getD i 0))) :
 RAV (imm [] [] W) [] [] (KV (zs.take len)) (.slice (some a) len cap):=by
 obtain⟨b,o,s⟩:=a;simp only at hs;subst hs;refine .p _ _ ?_;have hlen:((zs.take len).map λn=>PV.int .i64 n).length=len:=by simp [hz]
 have hfl:((zs.take len).map λn=>PV.int .i64 n).flatMap PV.cells=(zs.take len).map λn=>PV.int .i64 n:=by
  generalize zs.take len=l;induction l with
  | nil=>rfl
  | cons n r ih=>simp only[List.map_cons,List.flatMap_cons,ih];rfl
 by_cases h0:len=0
 ·subst h0
  simp;exact .nils _ _ _
 ·have key:=RPV.sl (M:=imm [] [] W) none ((zs.take len).map λn=>PV.int .i64 n) b o cap (λj=>.int .i64 (zs.getD j 0)) (λhh=>by rw[hh]at hlen;simp at hlen;omega) (by rw[hlen];exact hl)
   (λx hx=>by obtain⟨n,_,rfl⟩:=List.mem_map.1 hx;rfl)
   (λj y hy=>by
    rw[hfl]at hy;have hj:j<len:=by have:=IA hy;rw[hlen]at this;exact this
    have:=hc j (by omega)
    rw[wC]at this;exact zk7 this)
   (λj y hy=>by
    rw[hfl]at hy;have hj:j<len:=by have:=IA hy;rw[hlen]at this;exact this
    have hjz:j<zs.length:=by omega
    simp [List.getElem?_take,hj,hjz]at hy;subst hy;have:zs.getD j 0=zs[j]:=by simp [List.getD,hjz]
    rw[this];exact .int _ _)
  rwa [hlen]at key
end
section
mutual
def PV.same:PV->PV->Bool
 | .int k a,.int k' b=>decide (k=k')&&decide (a=b)
 | .bool a,.bool b=>decide (a=b)
 | .str a,.str b=>decide (a=b)
 | .sl s xs,.sl t ys=>decide (s=t)&&PV.sames xs ys
 | .agg xs,.agg ys=>PV.sames xs ys
 | .nilp,.nilp=>true
 | _,_=>false
def PV.sames:List PV->List PV->Bool
 | [],[]=>true
 | a::asv,b::bs=>PV.same a b&&PV.sames asv bs
 | _,_=>false
end
mutual
theorem PV.same_eq:∀ (a b:PV),PV.same a b=true->a=b
 | .int k a,b,h=>by
  cases b <;> simp [PV.same]at h
  obtain⟨h1,h2⟩:=h;subst h1;subst h2;rfl
 | .bool a,b,h=>by cases b <;> simp [PV.same]at h;subst h;rfl
 | .str a,b,h=>by cases b <;> simp [PV.same]at h;subst h;rfl
 | .sl s xs,b,h=>by
  cases b <;> simp [PV.same]at h
  obtain⟨h1,h2⟩:=h;subst h1;rw[PV.sames_eq _ _ h2]
 | .agg xs,b,h=>by
  cases b <;> simp [PV.same]at h
  rw[PV.sames_eq _ _ h]
 | .nilp,b,h=>by cases b <;> simp [PV.same]at h;rfl
theorem PV.sames_eq:∀ (a b:List PV),PV.sames a b=true->a=b
 | [],b,h=>by cases b <;> simp [PV.sames]at h;rfl
 | x::xs,b,h=>by
  cases b <;> simp [PV.sames]at h
  rw[PV.same_eq _ _ h.1,PV.sames_eq _ _ h.2]
end
mutual
def AV.same:AV->AV->Bool
 | .p a,.p b=>PV.same a b
 | .own a b c d,.own a' b' c' d'=>decide (a=a')&&decide (b=b')&&decide (c=c')&&decide (d=d')
 | .sl0 a,.sl0 b=>decide (a=b)
 | .ref a b,.ref a' b'=>decide (a=a')&&decide (b=b')
 | .rref a b c d,.rref a' b' c' d'=>decide (a=a')&&decide (b=b')&&decide (c=c')&&decide (d=d')
 | .vp a,.vp b=>PV.same a b
 | .nilp,.nilp=>true
 | .nilm,.nilm=>true
 | .nilf,.nilf=>true
 | .nili,.nili=>true
 | .ifc,.ifc=>true
 | .mp a,.mp b=>decide (a=b)
 | .it a,.it b=>decide (a=b)
 | .fn a b,.fn a' b'=>decide (a=a')&&AV.sames b b'
 | .agg a,.agg b=>AV.sames a b
 | .tup a,.tup b=>AV.sames a b
 | .anyb,.anyb=>true
 | .skp,.skp=>true
 | .und,.und=>true
 | .anyp,.anyp=>true
 | .bt a b c d,.bt a' b' c' d'=>decide (a=a')&&decide (b=b')&&decide (c=c')&&decide (d=d')
 | _,_=>false
def AV.sames:List AV->List AV->Bool
 | [],[]=>true
 | a::asv,b::bs=>AV.same a b&&AV.sames asv bs
 | _,_=>false
end
mutual
theorem AV.same_eq:∀ (a b:AV),AV.same a b=true->a=b
 | .p a,b,h=>by cases b <;> simp [AV.same]at h;rw[PV.same_eq _ _ h]
 | .own _ _ _ _,b,h=>by cases b <;> simp [AV.same]at h;simp [h]
 | .sl0 _,b,h=>by cases b <;> simp [AV.same]at h;simp [h]
 | .ref _ _,b,h=>by cases b <;> simp [AV.same]at h;simp [h]
 | .rref _ _ _ _,b,h=>by cases b <;> simp [AV.same]at h;simp [h]
 | .vp a,b,h=>by cases b <;> simp [AV.same]at h;rw[PV.same_eq _ _ h]
 | .nilp,b,h=>by cases b <;> simp [AV.same]at h;rfl
 | .nilm,b,h=>by cases b <;> simp [AV.same]at h;rfl
 | .nilf,b,h=>by cases b <;> simp [AV.same]at h;rfl
 | .nili,b,h=>by cases b <;> simp [AV.same]at h;rfl
 | .ifc,b,h=>by cases b <;> simp [AV.same]at h;rfl
 | .mp _,b,h=>by cases b <;> simp [AV.same]at h;simp [h]
 | .it _,b,h=>by cases b <;> simp [AV.same]at h;simp [h]
 | .fn _ cs,b,h=>by cases b <;> simp [AV.same]at h;rw[h.1,AV.sames_eq _ _ h.2]
 | .agg cs,b,h=>by cases b <;> simp [AV.same]at h;rw[AV.sames_eq _ _ h]
 | .tup cs,b,h=>by cases b <;> simp [AV.same]at h;rw[AV.sames_eq _ _ h]
 | .anyb,b,h=>by cases b <;> simp [AV.same]at h;rfl
 | .skp,b,h=>by cases b <;> simp [AV.same]at h;rfl
 | .und,b,h=>by cases b <;> simp [AV.same]at h;rfl
 | .anyp,b,h=>by cases b <;> simp [AV.same]at h;rfl
 | .bt _ _ _ _,b,h=>by cases b <;> simp [AV.same]at h;simp [h]
theorem AV.sames_eq:∀ (a b:List AV),AV.sames a b=true->a=b
 | [],b,h=>by cases b <;> simp [AV.sames]at h;rfl
 | x::xs,b,h=>by
  cases b <;> simp [AV.sames]at h
  rw[AV.same_eq _ _ h.1,AV.sames_eq _ _ h.2]
end
abbrev EvC:=Nat->List AV->aA->Option (AV × aA × Esc)
def jL (C:EvC)(gl:Nat->Option PV)(o:AOp)(e:List (Nat × AV))(h:aA):Option (AV×aA×Esc):=match wanted o.guard e with
 | some true=>match o.op with
  | .call f args=>C f (args.map (Opd.ev gl e)) h
  | .callv f args=>match Opd.ev gl e f with
   | .fn g caps=>C g (args.map (Opd.ev gl e)++caps) h
   | _=>none
  | .mnext _ _=>none
  | op=>aop op (Opd.ev gl e) h
 | some false=>some (.skp,h,[])
 | none=>none
def z6K (gl:Nat->Option PV)(o:AOp)(e:List (Nat × AV))(h:aA):Option (AV×aA):=match o.op with
 | .mnext sh xs=>match wanted o.guard e with
  | some true=>match tG h sh (xs.map (Opd.ev gl e)) with
   | some [y]=>some y
   | _=>none
  | _=>none
 | _=>none
def kL (C:EvC)(gl:Nat->Option PV):List AOp->List (Nat×AV)->aA->Esc->Option (List (Nat×AV)×aA×Esc)
 | [],e,h,x=>some (e,h,x)
 | o::r,e,h,x=>match jL C gl o e h with
  | some (v,h',x')=>kL C gl r (put o.dst v e) h' (x'++x)
  | none=>match z6K gl o e h with
   | some (v,h')=>kL C gl r (put o.dst v e) h' x
   | none=>none
def AO.still:AO->Bool
 | .mv _ | .pick _ _ _ | .build _ _ | .load _ _ | .nilchk _ | .bin _ _ _ | .eqa _ _ _ _ | .isnil _ _ _ | .mkif _ | .un _ _ | .mkfn _ _ | .slice _ _ _ _ _ | .slstr _ _ _ | .faddr _ _ _ | .field _ _ _ | .iaddr _ _ _
 | .iaddra _ _ _ _ | .idxa _ _ _ _ | .idxs _ _ | .look _ _ _ _ _ | .ext _ _ | .len _ | .lens _ | .lenm _ | .mx _ | .mn _=>true
 | _=>false
def AO.still2:AO->Bool
 | .conv (.i _) _=>true
 | o=>o.still
def ME.same (a b:ME):Bool:=PV.same a.key b.key&&AV.same a.val b.val&&decide (a.born=b.born)
def MEs.same:List ME->List ME->Bool
 | [],[]=>true
 | a::asv,b::bs=>ME.same a b&&MEs.same asv bs
 | _,_=>false
def Obj.same:Obj->Obj->Bool
 | .box a,.box b=>AV.sames a b
 | .row a b c,.row a' b' c'=>decide (a=a')&&PV.sames b b'&&decide (c=c')
 | .amap a b,.amap a' b'=>MEs.same a a'&&decide (b=b')
 | .iter a b c d,.iter a' b' c' d'=>decide (a=a')&&decide (b=b')&&decide (c=c')&&decide (d=d')
 | _,_=>false
def aA.same:List Obj->List Obj->Bool
 | [],[]=>true
 | a::asv,b::bs=>Obj.same a b&&aA.same asv bs
 | _,_=>false
theorem ME.same_eq {a b:ME}(h:ME.same a b=true):a=b:=by
 cases a;cases b
 simp only[ME.same,Bool.and_eq_true,decide_eq_true_eq]at h;obtain⟨⟨h1,h2⟩,h3⟩:=h;rw[PV.same_eq _ _ h1,AV.same_eq _ _ h2,h3]
theorem MEs.same_eq:∀ {a b:List ME},MEs.same a b=true->a=b
 | [],[],_=>rfl
 | [],_::_,h=>by simp [MEs.same]at h
 | _::_,[],h=>by simp [MEs.same]at h
 | a::asv,b::bs,h=>by
  simp only[MEs.same,Bool.and_eq_true]at h;rw[ME.same_eq h.1,MEs.same_eq h.2]
theorem Obj.same_eq {a b:Obj}(h:Obj.same a b=true):a=b:=by
 cases a <;> cases b <;> simp only[Obj.same,Bool.and_eq_true,decide_eq_true_eq]at h <;> first
  | (cases h;done)
  | (rw[AV.sames_eq _ _ h])
  | (obtain⟨⟨h1,h2⟩,h3⟩:=h;rw[h1,PV.sames_eq _ _ h2,h3])
  | (obtain⟨h1,h2⟩:=h;rw[MEs.same_eq h1,h2])
  | (obtain⟨⟨⟨h1,h2⟩,h3⟩,h4⟩:=h;rw[h1,h2,h3,h4])
theorem aA.same_eq:∀ {a b:List Obj},aA.same a b=true->a=b
 | [],[],_=>rfl
 | [],_::_,h=>by simp [aA.same]at h
 | _::_,[],h=>by simp [aA.same]at h
 | a::asv,b::bs,h=>by
  simp only[aA.same,Bool.and_eq_true]at h;rw[Obj.same_eq h.1,aA.same_eq h.2]
def DT (C:EvC)(gl:Nat->Option PV)(o:AOp)(e:List (Nat × AV))(g:aA)(v:AV):Bool:=match jL C gl o e g with
 | some (v',g',y)=>AV.same v' v&&y.isEmpty&&(o.op.still2||aA.same g' g)
 | none=>false
def FO (C:EvC)(gl:Nat->Option PV):List DOp->DC->List aA->List (Nat×AV)->aA->Esc->Option (List (Nat×AV)×aA×Esc)
 | [],_,_,e,h,x=>some (e,h,x)
 | o::r,dn,hs,e,h,x=>match jL C gl o.op (EA (some o.rd) e) h with
  | some (v,h',y)=>
   if(o.eff||o.op.op.still2||y.isEmpty&&aA.same h' h)&&(o.early.all λk=>match hs[k]? with|some g=>DT C gl o.op (EA (some o.rd) e) g v|none=>false)
    && (o.again.all λj=>match dn[j]? with|some q=>DT C gl q.1 q.2.1 h' q.2.2|none=>false) then
    FO C gl r (dn++[(o.op,EA (some o.rd) e,v)]) (hs++[h]) (put o.op.dst v e) h' (y++x)
   else none
  | none=>none
def CT (T:St->Option (Ex × St)):Nat->St->Option (Ex×St)
 | 0,_=>none
 | n+1,s=>match T s with
  | some (.normal,s')=>CT T n s'
  | r=>r
def UB (C:EvC)(gl:Nat->Option PV)(n:Nat):ACode->St->Option (Ex×St)
 | .skip,s=>some (.normal,s)
 | .reg ops keep,s=>match kL C gl ops s.env s.h s.esc with
  | some (e,h,x)=>some (.normal,⟨EA keep e,h,x⟩)
  | none=>none
 | .draw ds keep,s=>match FO C gl ds [] [] s.env s.h s.esc with
  | some (e,h,x)=>some (.normal,⟨EA keep e,h,x⟩)
  | none=>none
 | .seq a b,s=>match UB C gl n a s with
  | some (.normal,s')=>UB C gl n b s'
  | r=>r
 | .cond c a b,s=>match Opd.ev gl s.env c with
  | .p (.bool t)=>match t with
   | true=>UB C gl n a s
   | false=>UB C gl n b s
  | _=>none
 | .det b,s=>UB C gl n b s
 | .condu c a b,s=>match Opd.ev gl s.env c with
  | .p (.bool t)=>match t with
   | true=>UB C gl n a s
   | false=>UB C gl n b s
  | _=>none
 | .block id b,s=>match UB C gl n b s with
  | some (.exit i,s')=>if i=id then some (.normal,s') else some (.exit i,s')
  | r=>r
 | .loop b,s=>CT (UB C gl n b) n s
 | .scope b,s=>match UB C gl n b ⟨s.env,s.h,[]⟩ with
  | some (e,s')=>some (e,mD s.h.length s.esc s')
  | none=>none
 | .pr l b,s=>UB C gl n b ⟨EA (some l) s.env,s.h,s.esc⟩
 | .exit id,s=>some (.exit id,s)
 | .ret,s=>some (.ret,s)
 | .bad,_=>none
def z0V (F:AFun)(b:Nat)(s:St):Option (AV×aA×Esc):=match qD F.results with
 | true=>none
 | false=>match pC s F.results with
 | some vs=>match F.keep with
  | true=>
   let n:=vB s.esc.length s.esc (max b (XA vs).top)
   if xB s.esc n then some (XA vs,s.h.take n,s.esc.filter λy=>decide (y.1<n)) else some (XA vs,s.h,s.esc)
  | false=>match VA b s.h (XA vs) with
   | some v0=>
    let n:=vB s.esc.length s.esc (max b v0.top)
    if xB s.esc n then match VA n s.h (XA vs) with
     | some v=>if v.top<=n then some (v,s.h.take n,s.esc.filter λy=>decide (y.1<n)) else none
     | none=>none
    else some (XA vs,s.h,s.esc)
   | none=>none
 | none=>none
def z0T (C:EvC)(gl:Nat->Option PV)(n:Nat)(F:AFun)(args:List AV)(h:aA):Option (AV×aA×Esc):=
 match (if F.byref then some (args,h) else nA h args) with
 | some (asv,h1)=>if asv.length=F.nparams then match UB C gl n F.body ⟨enter asv,h1,[]⟩ with
  | some (.exit _,_)=>none
  | some (_,s)=>z0V F h.length s
  | none=>none
  else none
 | none=>none
def YI (C':EvC)(C:Hd):Prop:=∀f a h v h' x (K:jA),C' f a h=some (v,h',x)->K v h' x->C f a h K
variable {C':EvC} {C:Hd} {gl:Nat->Option PV}
theorem z6G (hC:YI C' C){o:AOp}{e:List (Nat × AV)}{h h':aA}{v:AV}{x:Esc}(H:jL C' gl o e h=some (v,h',x)):ADo C gl o e h v h' x:=by
 unfold jL at H;unfold ADo;split at H
 ·rename_i hw
  simp only[hw];obtain⟨dst,guard,op⟩:=o;cases op;case call f args=>exact hC _ _ _ _ _ _ _ H ⟨rfl,rfl,rfl⟩
  case callv f args=>
   dsimp only at H ⊢;split at H
   ·rename_i hf
    simp only[hf];exact hC _ _ _ _ _ _ _ H ⟨rfl,rfl,rfl⟩
   ·cases H
  case mnext sh xs=>cases H
  all_goals exact H
 ·rename_i hw
  simp only[hw];injection H with H
  injection H with h1 H
  injection H with h2 h3
  exact⟨h1.symm,h2.symm,h3.symm⟩
 ·cases H
theorem z0W (hC:YI C' C):∀(ops:List AOp) e h x e' h' x' (K:List (Nat×AV)->aA->Esc->Prop),kL C' gl ops e h x=some (e',h',x')->K e' h' x'->WA C gl ops e h x K
 | [],e,h,x,e',h',x',K,H,hK=>by
  simp only[kL,Option.some.injEq,Prod.mk.injEq]at H;obtain⟨rfl,rfl,rfl⟩:=H;exact hK
 | o::r,e,h,x,e',h',x',K,H,hK=>by
  unfold kL at H;split at H
  ·rename_i v h1 x1 hd
   have ih:=z0W hC r _ _ _ _ _ _ K H hK
   unfold jL at hd;unfold WA;split at hd
   ·rename_i hw
    simp only[hw];obtain⟨dst,guard,op⟩:=o;cases op;case call f args=>exact hC _ _ _ _ _ _ _ hd ih
    case callv f args=>
     dsimp only at hd ⊢;split at hd
     ·rename_i hf
      simp only[hf];exact hC _ _ _ _ _ _ _ hd ih
     ·cases hd
    case mnext sh xs=>cases hd
    all_goals
     dsimp only at hd ⊢;rw[hd];exact ih
   ·rename_i hw
    simp only[hw];injection hd with hd
    injection hd with h1 hd
    injection hd with h2 h3
    subst h1;subst h2;subst h3
    exact ih
   ·cases hd
  ·split at H
   ·rename_i v h1 hd
    have ih:=z0W hC r _ _ _ _ _ _ K H hK
    unfold z6K at hd;unfold WA;split at hd
    ·rename_i sh xs hop
     split at hd
     ·rename_i hw
      simp only[hw,hop];split at hd
      ·rename_i y hm
       injection hd with hd
       subst hd;simp only[hm];refine⟨by simp,λz hz=>?_⟩
       rw[List.mem_singleton]at hz;subst hz;exact ih
      ·cases hd
     ·cases hd
    ·cases hd
   ·cases H
theorem zdv {o:AO}(hs:o.still=true){ev:Opd->AV}{h h':aA}{v:AV}{x:Esc}(H:aop o ev h=some (v,h',x)):h'=h/\x=[]:=by
 cases o <;> first|(cases hs;done)|skip
 all_goals
  unfold aop at H;dsimp only at H;repeat' split at H
  all_goals first
   | (cases H;done)
   | (simp only[Option.some.injEq,Prod.mk.injEq]at H;obtain⟨_,rfl,rfl⟩:=H;exact⟨rfl,rfl⟩)
   | (simp only[Option.map_eq_some_iff,Prod.mk.injEq]at H;obtain⟨_,_,_,rfl,rfl⟩:=H;exact⟨rfl,rfl⟩)
   | (have H2:=nilc (g:=[]) H;rename_i k neg p;cases hb:gG k (ev p) <;> rw[hb]at H <;> simp only[cond_true,cond_false,Option.map_eq_some_iff,Option.some.injEq,Prod.mk.injEq]at H <;> first|(obtain⟨_,rfl,rfl⟩:=H;exact⟨rfl,rfl⟩)|(obtain⟨_,_,_,rfl,rfl⟩:=H;exact⟨rfl,rfl⟩))
theorem zdw {o:AO}(hs:o.still2=true){ev:Opd->AV}{h h':aA}{v:AV}{x:Esc}(H:aop o ev h=some (v,h',x)):h'=h/\x=[]:=by
 unfold AO.still2 at hs;split at hs
 ·simp only[aop,BD]at H
  split at H
  ·simp at H;exact⟨H.2.1.symm,H.2.2⟩
  ·simp at H
 ·exact zdv hs H
theorem YW {o:AOp}(hs:o.op.still2=true){e:List (Nat × AV)}{h h':aA}{v:AV}{x:Esc}(H:ADo C gl o e h v h' x):h'=h/\x=[]:=by
 unfold ADo at H;split at H
 ·obtain⟨dst,guard,op⟩:=o
  cases op <;> first|(cases hs;done)|exact zdw hs H
 ·exact H.2
 ·exact H.elim
theorem zq8 {o:AO}(h:o.still=true):o.still2=true:=by
 cases o <;> first|exact h|(cases h;done)
theorem zb5 {o:AOp}(hs:o.op.still=true){e:List (Nat × AV)}{h h':aA}{v:AV}{x:Esc}(H:ADo C gl o e h v h' x):h'=h/\x=[]:=YW (zq8 hs) H
theorem z6L (hC:YI C' C){o:AOp}{e:List (Nat × AV)}{g:aA}{v:AV}(H:DT C' gl o e g v=true):ADo C gl o e g v g []:=by
 unfold DT at H;split at H
 ·rename_i v' g' y hd
  simp only[Bool.and_eq_true,Bool.or_eq_true,List.isEmpty_iff]at H;obtain⟨⟨h1,h2⟩,h3⟩:=H;have h1:=AV.same_eq _ _ h1
  have:=z6G (C:=C) hC hd;rcases h3 with hs|hs
  ·obtain⟨e1,e2⟩:=YW hs this
   subst e1;subst e2;subst h1
   exact this
  ·have e1:=aA.same_eq hs
   subst e1;subst h2;subst h1
   exact this
 ·cases H
theorem z6H (hC:YI C' C):∀(ds:List DOp) dn hs e h x e' h' x' (K:List (Nat×AV)->aA->Esc->Prop),FO C' gl ds dn hs e h x=some (e',h',x')->K e' h' x'->iD C gl ds dn hs e h x K
 | [],dn,hs,e,h,x,e',h',x',K,H,hK=>by
  simp only[FO,Option.some.injEq,Prod.mk.injEq]at H;obtain⟨rfl,rfl,rfl⟩:=H;exact hK
 | o::r,dn,hs,e,h,x,e',h',x',K,H,hK=>by
  unfold FO at H;split at H
  ·rename_i v h1 y hd
   split at H
   ·rename_i hc
    simp only[Bool.and_eq_true,Bool.or_eq_true,List.all_eq_true]at hc;obtain⟨⟨c1,c2⟩,c3⟩:=hc;have hdo:=z6G (C:=C) hC hd
    refine⟨v,h1,y,hdo,λhe=>?_,λk hk=>?_,λj hj=>?_,z6H hC r _ _ _ _ _ _ _ _ K H hK⟩
    ·rcases c1 with(c1|c1)|⟨c1,c4⟩
     ·rw[c1]at he;cases he
     ·exact YW c1 hdo
     ·rw[List.isEmpty_iff]at c1
      exact⟨aA.same_eq c4,c1⟩
    ·have:=c2 k hk
     split at this
     ·rename_i g hg
      exact⟨g,hg,z6L hC this⟩
     ·cases this
    ·have:=c3 j hj
     split at this
     ·rename_i q hq
      exact⟨q,hq,z6L hC this⟩
     ·cases this
   ·cases H
  ·cases H
theorem z6J {T':St->Option (Ex × St)}{T:St->(Ex->St->Prop)->Prop}(hT:∀ s e s' K,T' s=some (e,s')->K e s'->T s K):∀n s e s' K,CT T' n s=some (e,s')->K e s'->ALoop T K s
 | 0,s,e,s',K,H,hK=>by cases H
 | n+1,s,e,s',K,H,hK=>by
  unfold CT at H;split at H
  ·rename_i s1 h1
   refine .mk s (λe2 s2=>e2 = .normal/\s2=s1) (hT _ _ _ _ h1 ⟨rfl,rfl⟩) (λs2 ⟨_,h2⟩=>?_) (λi s2 ⟨h2,_⟩=>by cases h2) (λs2 ⟨h2,_⟩=>by cases h2)
   subst h2;exact z6J hT n _ _ _ K H hK
  ·rename_i hne
   have hne':e ≠ .normal:=λhe=>by subst he;exact hne _ H
   refine .mk s (λe2 s2=>e2=e/\s2=s') (hT _ _ _ _ H ⟨rfl,rfl⟩) (λs2 ⟨h2,_⟩=>(hne' h2.symm).elim) (λi s2 ⟨h2,h3⟩=>by subst h3;rw[h2];exact hK) (λs2 ⟨h2,h3⟩=>by subst h3;rw[h2];exact hK)
theorem FE (hC:YI C' C)(n:Nat):∀(c:ACode) s e s' (K:Ex->St->Prop),UB C' gl n c s=some (e,s')->K e s'->AW C gl c s K
 | .skip,s,e,s',K,H,hK=>by
  simp only[UB,Option.some.injEq,Prod.mk.injEq]at H;obtain⟨rfl,rfl⟩:=H;exact hK
 | .reg ops keep,s,e,s',K,H,hK=>by
  unfold UB at H;split at H
  ·rename_i h1
   simp only[Option.some.injEq,Prod.mk.injEq]at H;obtain⟨rfl,rfl⟩:=H;exact z0W hC _ _ _ _ _ _ _ _ h1 hK
  ·cases H
 | .draw ds keep,s,e,s',K,H,hK=>by
  unfold UB at H;split at H
  ·rename_i h1
   simp only[Option.some.injEq,Prod.mk.injEq]at H;obtain⟨rfl,rfl⟩:=H;exact z6H hC _ _ _ _ _ _ _ _ _ _ h1 hK
  ·cases H
 | .seq a b,s,e,s',K,H,hK=>by
  unfold UB at H;unfold AW;split at H
  ·rename_i s1 h1
   exact FE hC n a s _ _ _ h1 (FE hC n b _ _ _ K H hK)
  ·rename_i hne
   have hne':e ≠ .normal:=λhe=>by subst he;exact hne _ H
   refine FE hC n a s _ _ _ H ?_;cases e with
   | normal=>exact(hne' rfl).elim
   | exit i=>exact hK
   | ret=>exact hK
 | .det b,s,e,s',K,H,hK=>by
  unfold UB at H;exact FE hC n b s _ _ K H hK
 | .condu c a b,s,e,s',K,H,hK=>by
  unfold UB at H;unfold AW;split at H
  ·rename_i t ht
   simp only[ht];split at H
   ·exact FE hC n a s _ _ _ H hK
   ·exact FE hC n b s _ _ _ H hK
  ·cases H
 | .cond c a b,s,e,s',K,H,hK=>by
  unfold UB at H;unfold AW;split at H
  ·rename_i t ht
   simp only[ht];split at H
   ·exact FE hC n a s _ _ _ H hK
   ·exact FE hC n b s _ _ _ H hK
  ·cases H
 | .block id b,s,e,s',K,H,hK=>by
  unfold UB at H;unfold AW;split at H
  ·rename_i i s1 h1
   refine FE hC n b s _ _ _ h1 ?_;dsimp only;split at H
   ·rw[if_pos ‹_›]
    simp only[Option.some.injEq,Prod.mk.injEq]at H;obtain⟨rfl,rfl⟩:=H;exact hK
   ·rw[if_neg ‹_›]
    simp only[Option.some.injEq,Prod.mk.injEq]at H;obtain⟨rfl,rfl⟩:=H;exact hK
  ·rename_i hne
   refine FE hC n b s _ _ _ H ?_;cases e with
   | normal=>exact hK
   | exit i=>exact(hne _ _ H).elim
   | ret=>exact hK
 | .loop b,s,e,s',K,H,hK=>by
  unfold UB at H;unfold AW;exact z6J (λs e s' K h k=>FE hC n b s e s' K h k) n s e s' K H hK
 | .scope b,s,e,s',K,H,hK=>by
  unfold UB at H;unfold AW;split at H
  ·rename_i e1 s1 h1
   simp only[Option.some.injEq,Prod.mk.injEq]at H;obtain⟨rfl,rfl⟩:=H;exact FE hC n b _ _ _ _ h1 hK
  ·cases H
 | .pr l b,s,e,s',K,H,hK=>by
  unfold UB at H;unfold AW;exact FE hC n b _ _ _ K H hK
 | .exit id,s,e,s',K,H,hK=>by
  simp only[UB,Option.some.injEq,Prod.mk.injEq]at H;obtain⟨rfl,rfl⟩:=H;exact hK
 | .ret,s,e,s',K,H,hK=>by
  simp only[UB,Option.some.injEq,Prod.mk.injEq]at H;obtain⟨rfl,rfl⟩:=H;exact hK
 | .bad,s,e,s',K,H,hK=>by simp only[UB]at H;cases H
theorem z6I {F:AFun}{b:Nat}{s:St}{v:AV}{h:aA}{x:Esc}{K:jA}(H:z0V F b s=some (v,h,x))(hK:K v h x):fin F b s K:=by
 unfold z0V at H;unfold fin;split at H
 ·cases H
 rename_i h0;simp only[h0];split at H
 ·rename_i h1
  simp only[h1];split at H
  ·rename_i h2
   simp only[h2];dsimp only at H ⊢;split at H
   ·rw[if_pos ‹_›];simp only[Option.some.injEq,Prod.mk.injEq]at H;obtain⟨rfl,rfl,rfl⟩:=H;exact hK
   ·rw[if_neg ‹_›];simp only[Option.some.injEq,Prod.mk.injEq]at H;obtain⟨rfl,rfl,rfl⟩:=H;exact hK
  ·rename_i h2
   simp only[h2];split at H
   ·rename_i h3
    simp only[h3];dsimp only at H ⊢;split at H
    ·rw[if_pos ‹_›]
     split at H
     ·rename_i h4
      simp only[h4];split at H
      ·simp only[Option.some.injEq,Prod.mk.injEq]at H;obtain⟨rfl,rfl,rfl⟩:=H;exact⟨‹_›,hK⟩
      ·cases H
     ·cases H
    ·rw[if_neg ‹_›];simp only[Option.some.injEq,Prod.mk.injEq]at H;obtain⟨rfl,rfl,rfl⟩:=H;exact hK
   ·cases H
 ·cases H
theorem z6F (hC:YI C' C){n:Nat}{F:AFun}{a:List AV}{h:aA}{v:AV}{h':aA}{x:Esc}{K:jA}(H:z0T C' gl n F a h=some (v,h',x))(hK:K v h' x):oC C gl F a h K:=by
 unfold z0T at H;unfold oC;split at H
 ·rename_i asv h1 hp
  simp only[hp];split at H
  ·rename_i hl
   refine⟨hl,?_⟩;cases he:UB C' gl n F.body ⟨enter asv,h1,[]⟩ with
   | none=>rw[he]at H;cases H
   | some y=>
    obtain⟨e,s⟩:=y;rw[he]at H;refine FE hC n _ _ _ _ _ he ?_;cases e with
    | exit i=>cases H
    | normal=>exact z6I H hK
    | ret=>exact z6I H hK
  ·cases H
 ·cases H
def EO (X:Ctx)(o:Nat->List AV->Option AV)(n:Nat):Nat->EvC
 | 0,_,_,_=>none
 | d+1,f,a,h=>match o f a with
  | some v=>some (v,h,[])
  | none=>match X.fn f with
   | some F=>z0T (EO X o n d) X.gl n F a h
   | none=>match X.ex2 f a h with
    | some r=>some r
    | none=>match nA h a with
     | some (asv,h1)=>match unp asv with
      | some vs=>match X.ext f vs with
       | some r=>some (.p r,h1,[])
       | none=>none
      | none=>none
     | none=>none
theorem z0U (X:Ctx)(o:Nat->List AV->Option AV)(ho:∀ f a v,o f a=some v->∀ h (K:jA),K v h []->bA X f a h K)(n:Nat):∀d,YI (EO X o n d) (bA X)
 | 0,f,a,h,v,h',x,K,H,hK=>by cases H
 | d+1,f,a,h,v,h',x,K,H,hK=>by
  unfold EO at H;split at H
  ·rename_i v1 hv
   simp only[Option.some.injEq,Prod.mk.injEq]at H;obtain⟨rfl,rfl,rfl⟩:=H;exact ho _ _ _ hv _ _ hK
  refine bA.fold ?_;unfold ZB;split at H
  ·rename_i F hF
   simp only[hF];unfold pD;cases hd:F.isDet with
   | true=>exact⟨v,h',x,hK,z6F (z0U X o ho n d) H ⟨rfl,rfl,rfl⟩⟩
   | false=>exact z6F (z0U X o ho n d) H hK
  ·rename_i hF
   simp only[hF];split at H
   ·rename_i hx2
    simp only[hx2];simp only[Option.some.injEq]at H;subst H;exact hK
   ·rename_i hx2
    simp only[hx2];split at H
    ·rename_i hp
     simp only[hp];split at H
     ·rename_i hu
      simp only[hu];split at H
      ·rename_i hx
       simp only[hx];simp only[Option.some.injEq,Prod.mk.injEq]at H;obtain⟨rfl,rfl,rfl⟩:=H;exact hK
      ·cases H
     ·cases H
    ·cases H
theorem zb2 {X:Ctx}{f:Nat}{a:List AV}{h:aA}{v:AV}{h':aA}{x:Esc}{o:Nat->List AV->Option AV}(ho:∀ f a v,o f a=some v->∀ h (K:jA),K v h []->bA X f a h K)(n d:Nat)(H:EO X o n d f a h=some (v,h',x))(K:jA):bA X f a h K↔K v h' x:=
 bA.eq (z0U X o ho n d _ _ _ _ _ _ _ H ⟨rfl,rfl,rfl⟩) K
end
section
variable {C:Hd} {gl:Nat->Option PV} {e:List (Nat × AV)} {h:aA} {x:Esc} {K:Ex->St->Prop} {s:St}
def VT {σ:Type}(S:σ->St)(P:σ->Prop)(m:σ->Nat)(K:Ex->St->Prop)(s:σ)(e:Ex)(s':St):Prop:=match e with
 | .normal=>∃t,s'=S t/\P t/\m t<m s
 | .exit i=>K (.exit i) s'
 | .ret=>K .ret s'
theorem z8Z {σ:Type}{S:σ->St}{P:σ->Prop}{m:σ->Nat}{K:Ex->St->Prop}{t:σ}{s':St}:VT S P m K t .normal s' = ∃u,s'=S u/\P u/\m u<m t:=(rfl)
theorem z8Y {σ:Type}{S:σ->St}{P:σ->Prop}{m:σ->Nat}{K:Ex->St->Prop}{t:σ}{s':St}{i:Nat}:VT S P m K t (.exit i) s'=K (.exit i) s':=(rfl)
theorem z9a {σ:Type}{S:σ->St}{P:σ->Prop}{m:σ->Nat}{K:Ex->St->Prop}{t:σ}{s':St}:VT S P m K t .ret s'=K .ret s':=(rfl)
theorem z4r {T:St->(Ex->St->Prop)->Prop}{K:Ex->St->Prop}{s s':St}(h:T s=T s'):ALoop T K s=ALoop T K s':=by
 refine propext ⟨λH=>?_,λH=>?_⟩
 ·cases H with|mk _ R a b c d=>exact .mk _ R (h ▸ a) b c d
 ·cases H with|mk _ R a b c d=>exact .mk _ R (h.symm ▸ a) b c d
theorem zdo {l:List Nat}{e:List (Nat × AV)}{t:Nat}(ht:t∈l):eA (EA (some l) e) t=eA e t:=by
 simp only[EA];induction l with
 | nil=>cases ht
 | cons k r ih=>
  simp only[List.map_cons,eA];split
  ·rename_i hk;rw[hk]
  ·rename_i hk
   rcases List.mem_cons.1 ht with h1|h1
   ·exact absurd h1.symm hk
   ·exact ih h1
theorem z95 {l:List Nat}{e:List (Nat × AV)}:EA (some l) (EA (some l) e)=EA (some l) e:=by
 show l.map _=l.map _
 exact List.map_congr_left λt ht=>by rw[zdo ht]
theorem gE {α:Type}(h l:List α)(n:Nat):(h++l)[h.length+n]?=l[n]?:=by
 rw[List.getElem?_append_right (by omega)];congr 1;omega
theorem z4X {α:Type}(h l:List α):(h++l)[h.length]?=l[0]?:=by
 rw[List.getElem?_append_right (by omega)];congr 1;omega
theorem rG {α:Type}(h l:List α)(n:Nat)(o:α):(h++l).set (h.length+n) o=h++l.set n o:=by
 rw[List.set_append_right _ _ (by omega)];congr 2;omega
theorem z4Y {α:Type}(h l:List α)(o:α):(h++l).set h.length o=h++l.set 0 o:=by
 rw[List.set_append_right _ _ (by omega)];congr 2;omega
theorem dJ {α:Type}(h l:List α)(n:Nat):(h++l).take (h.length+n)=h++l.take n:=List.take_length_add_append ..
theorem CN {α:Type}(h l:List α):(h++l).take h.length=h:=List.take_left ..
theorem z4W (h l:aA)(n k:Nat):frz (h++l) (h.length+n) k=h++frz l n k:=by
 unfold frz;rw[gE];cases l[n]? with
 | none=>rfl
 | some o=>cases o <;> first|rfl|simp only[rG]
theorem BA (n:Int)(h1 : -9223372036854775808<=n)(h2:n<=9223372036854775807):IntKind.i64.wrap n=n:=by
 simp [IntKind.wrap,IntKind.bits,IntKind.signed];omega
def oA (rs:List ARes)(kp:Bool)(b:Nat)(P:jA)(e:Ex)(s:St):Prop:=match e with
 | .exit _=>False
 | _=>match pC s rs with
  | some vs=>match kp with
   | true=>
    let n:=vB s.esc.length s.esc (max b (XA vs).top)
    if xB s.esc n then P (XA vs) (s.h.take n) (s.esc.filter λy=>decide (y.1<n)) else P (XA vs) s.h s.esc
   | false=>match VA b s.h (XA vs) with
    | some v0=>
     let n:=vB s.esc.length s.esc (max b v0.top)
     if xB s.esc n then match VA n s.h (XA vs) with
      | some v=>v.top<=n/\P v (s.h.take n) (s.esc.filter λy=>decide (y.1<n))
      | none=>False
     else P (XA vs) s.h s.esc
    | none=>False
  | none=>False
theorem z7R {F:AFun}(hO:qD F.results=false){b:Nat}{s:St}{P:jA}:fin F b s P=oA F.results F.keep b P .ret s:=by
 unfold fin;rw[hO];rfl
theorem z1d {F:AFun}(hO:qD F.results=false){b:Nat}{P:jA}:finK F b P=oA F.results F.keep b P:=by
 funext e s
 cases e with
 | exit i=>rfl
 | normal=>exact z7R hO
 | ret=>exact z7R hO
def dG (rs:List ARes)(b:Nat)(P:jA)(e:Ex)(s:St):Prop:=match e with
 | .exit _=>False
 | _=>YC b P rs (pC s rs) s.h s.esc
theorem z7N {F:AFun}(hO:qD F.results=true){b:Nat}{P:jA}:finK F b P=dG F.results b P:=by
 funext e s
 cases e with
 | exit i=>rfl
 | normal=>show fin F b s P=_;unfold fin;rw[hO];rfl
 | ret=>show fin F b s P=_;unfold fin;rw[hO];rfl
theorem z7O {rs:List ARes}{b:Nat}{P:jA}{e:List (Nat × AV)}{h:aA}{x:Esc}:dG rs b P .ret ⟨e,h,x⟩=YC b P rs (pC ⟨e,h,x⟩ rs) h x:=(rfl)
def bE (kp:Bool)(b:Nat)(P:jA)(o:Option (List AV))(h:aA)(x:Esc):Prop:=match o with
 | some vs=>match kp with
  | true=>
   let n:=vB x.length x (max b (XA vs).top)
   if xB x n then P (XA vs) (h.take n) (x.filter λy=>decide (y.1<n)) else P (XA vs) h x
  | false=>match VA b h (XA vs) with
   | some v0=>
    let n:=vB x.length x (max b v0.top)
    if xB x n then match VA n h (XA vs) with
     | some v=>v.top<=n/\P v (h.take n) (x.filter λy=>decide (y.1<n))
     | none=>False
    else P (XA vs) h x
   | none=>False
 | none=>False
theorem z7P {rs:List ARes}{kp:Bool}{b:Nat}{P:jA}{e:List (Nat × AV)}{h:aA}{x:Esc}:oA rs kp b P .normal ⟨e,h,x⟩=bE kp b P (pC ⟨e,h,x⟩ rs) h x:=(rfl)
theorem z7Q {rs:List ARes}{kp:Bool}{b:Nat}{P:jA}{e:List (Nat × AV)}{h:aA}{x:Esc}:oA rs kp b P .ret ⟨e,h,x⟩=bE kp b P (pC ⟨e,h,x⟩ rs) h x:=(rfl)
theorem zjT {rs:List ARes}{kp:Bool}{b:Nat}{P:jA}{ex ex':Ex}{s s':St}(he:ex=ex')(hs:s=s'):oA rs kp b P ex s=oA rs kp b P ex' s':=by rw[he,hs]
theorem z32 {b:Nat}{P:jA}{vs:List AV}{h:aA}(ht:(XA vs).top<=b)(hr:∀ b,VA b h (XA vs)=some (XA vs)):bE false b P (some vs) h []=P (XA vs) (h.take b) []:=by
 simp only[bE,hr,vB,List.length_nil,xB,List.all_nil,if_true,List.filter_nil,Nat.max_eq_left ht,ht,true_and]
theorem zos {b:Nat}{h:aA}{v:PV}:VA b h (.p v)=some (.p v):=(rfl)
theorem zow {b:Nat}{h:aA}:wD b h []=some []:=(rfl)
theorem zo3 {b:Nat}{P:jA}{v:PV}{h:aA}:bE false b P (some [.p v]) h []=P (.p v) (h.take b) []:=z32 (Nat.zero_le _) (λ_=>rfl)
theorem zo4 {b:Nat}{P:jA}{v u:PV}{h:aA}:bE false b P (some [.p v,.p u]) h []=P (.tup [.p v,.p u]) (h.take b) []:=z32 (by simp [XA,AV.top,AV.tops]) (λ_=>rfl)
theorem zo2 {b:Nat}{P:jA}{h:aA}:bE false b P (some []) h []=P (.tup []) (h.take b) []:=z32 (by simp [XA,AV.top,AV.tops]) (λ_=>rfl)
theorem zqN {h:aA}:h.take h.length=h:=List.take_length
theorem zmz {v:AV}:XA [v]=v:=(rfl)
theorem zq4 {X:Ctx}{f:Nat}{F:AFun}{a asv:List AV}{h h1:aA}{P:jA}(hf:X.fn f=some F)(hr:F.byref=false)(hp:nA h a=some (asv,h1))(hl:asv.length=F.nparams)(hd:F.isDet=false)(hO:qD F.results=false) :
 bA X f a h P=AW (bA X) X.gl F.body ⟨enter asv,h1,[]⟩ (oA F.results F.keep h.length P):=by
 rw[dX hf hd,fR hr hp hl,z1d hO]
theorem zq0 {X:Ctx}{f:Nat}{F:AFun}{asv:List AV}{h:aA}{P:jA}(hf:X.fn f=some F)(hr:F.byref=true)(hl:asv.length=F.nparams)(hd:F.isDet=false)(hO:qD F.results=false) :
 bA X f asv h P=AW (bA X) X.gl F.body ⟨enter asv,h,[]⟩ (oA F.results F.keep h.length P):=by
 rw[dX hf hd,zdh hr hl,z1d hO]
theorem zq6 {X:Ctx}{f:Nat}{F:AFun}{a asv:List AV}{h h1:aA}{P:jA}(hf:X.fn f=some F)(hr:F.byref=false)(hp:nA h a=some (asv,h1))(hl:asv.length=F.nparams)(hd:F.isDet=true)(hO:qD F.results=false) :
 bA X f a h P = ∃v h' x,P v h' x/\AW (bA X) X.gl F.body ⟨enter asv,h1,[]⟩ (oA F.results F.keep h.length λv1 h1 x1=>v1=v/\h1=h'/\x1=x):=by
 rw[z4H hf hd];simp only[fR hr hp hl,z1d hO]
theorem zq5 {X:Ctx}{f:Nat}{F:AFun}{a asv:List AV}{h h1:aA}{P:jA}(hf:X.fn f=some F)(hr:F.byref=false)(hp:nA h a=some (asv,h1))(hl:asv.length=F.nparams)(hd:F.isDet=false)(hO:qD F.results=true) :
 bA X f a h P=AW (bA X) X.gl F.body ⟨enter asv,h1,[]⟩ (dG F.results h.length P):=by
 rw[dX hf hd,fR hr hp hl,z7N hO]
theorem zq7 {X:Ctx}{f:Nat}{F:AFun}{a asv:List AV}{h h1:aA}{P:jA}(hf:X.fn f=some F)(hr:F.byref=false)(hp:nA h a=some (asv,h1))(hl:asv.length=F.nparams)(hd:F.isDet=true)(hO:qD F.results=true) :
 bA X f a h P = ∃v h' x,P v h' x/\AW (bA X) X.gl F.body ⟨enter asv,h1,[]⟩ (dG F.results h.length λv1 h1 x1=>v1=v/\h1=h'/\x1=x):=by
 rw[z4H hf hd];simp only[fR hr hp hl,z7N hO]
theorem sA {X:Ctx}{f:Nat}{a:List AV}{h:aA}{v:AV}{h':aA}{x:Esc}{K:jA}(H:bA X f a h λv1 h1 x1=>v1=v/\h1=h'/\x1=x):bA X f a h K=K v h' x:=propext (bA.eq H K)
theorem z9i {k:IntKind}{n:Nat}:sB (.p (.int k (n:Int)))=some n:=by simp [sB]
theorem zlZ {k:IntKind}{n:Nat}:sB (.p (.int k (no_index (OfNat.ofNat n:Int))))=some (OfNat.ofNat n:Nat):=z9i (n:=n)
theorem z10 {k:IntKind}{n:Int}(h:0<=n):sB (.p (.int k n))=some n.toNat:=by simp [sB,h]
theorem VB {α β:Type}(f:α->β){l:List α}{k:Nat}(h:k<l.length):(l.map f)[k]?=some (f l[k]):=by simp [h]
attribute [go_sem] eqs PV.eq1 PV.kind ne_eq not_false_eq_true not_true_eq_false Bool.and_self Bool.or_self Bool.not_eq_true
attribute [go_sem] Nat.max_le Nat.add_le_add_iff_left Option.isSome_none Option.isSome_some false_and and_false List.length_range Nat.sub_zero Nat.le_add_right
attribute [go_sem] z9i zlZ Int.ofNat_lt Int.ofNat_le List.length_map
theorem z5H {b:Nat}:xB [] b=true:=rfl
theorem z33 {h l:aA}{id k i j g off len fz:Nat}{sh:Sh}{xs:List PV}{v:PV}{P:jA}(hid:id=h.length+k)(hl:l[k]?=some (.row sh xs fz)) :
 YC h.length P [.o i,.t j] (some [.own id g off len,.p v]) (h++l) []=P (.tup [.own h.length g off len,.p v]) (h++[.row sh xs fz]) []:=by
 subst hid;have e1:(h++l)[h.length+k]?=some (.row sh xs fz):=by rw[List.getElem?_append_right (by omega),Nat.add_sub_cancel_left,hl]
 have e2:h.length<=h.length+k:=by omega
 have e3:(h++l).take h.length=h:=List.take_left
 simp only[YC,UF,tI,e1,e2,true_and,List.all_cons,List.all_nil,okO,Nat.beq_refl,AV.top,Nat.zero_le,decide_true,Bool.and_self,if_true,z5H,List.map_cons,List.map_nil,mvO,cond_true,XA,e3,List.filter_nil]
theorem zoA {h:aA}{i j:Nat}{u v:PV}{P:jA}{b:Nat}:YC b P [.o i,.t j] (some [.p u,.p v]) h []=P (.tup [.p u,.p v]) (h.take b) []:=by
 simp only[YC,UF,tI,List.all_cons,List.all_nil,AV.top,Nat.zero_le,decide_true,Bool.and_self,if_true,z5H,XA,List.filter_nil,true_and]
attribute [go_sem] z7O zoA z7P z7Q zo2 zo3 zo4 zqN List.zipIdx_cons List.zipIdx_nil List.map_cons List.map_nil Nat.reduceAdd Nat.reduceEqDiff if_true if_false Option.map_some Option.map_none List.append_nil List.nil_append decide_eq_true_eq
def doS (C:Hd)(gl:Nat->Option PV)(q:AOp × List (Nat × AV) × AV)(h:aA):Prop:=ADo C gl q.1 q.2.1 h q.2.2 h []
def agK (C:Hd)(gl:Nat->Option PV)(h:aA)(dn:DC):List Nat->Prop
 | []=>True
 | j::r=>(match dn[j]? with|some q=>doS C gl q h|none=>False)/\agK C gl h dn r
def eaK (C:Hd)(gl:Nat->Option PV)(o:AOp)(e:List (Nat × AV))(v:AV)(hs:List aA):List Nat->Prop
 | []=>True
 | k::r=>(match hs[k]? with|some g=>doS C gl (o,e,v) g|none=>False)/\eaK C gl o e v hs r
theorem z4P {C:Hd}{gl:Nat->Option PV}{h:aA}{dn:DC}:∀{l:List Nat},agK C gl h dn l↔∀j∈l,∃q,dn[j]?=some q/\ADo C gl q.1 q.2.1 h q.2.2 h []
 | []=>by simp [agK]
 | j::r=>by
  simp only[agK,List.mem_cons,forall_eq_or_imp];rw[z4P (l:=r)];refine and_congr_left (λ_=>?_)
  cases hd:dn[j]? with
  | none=>simp
  | some q=>simp [doS]
theorem z60 {C:Hd}{gl:Nat->Option PV}{o:AOp}{e:List (Nat × AV)}{v:AV}{hs:List aA}:∀{l:List Nat},eaK C gl o e v hs l↔∀k∈l,∃g,hs[k]?=some g/\ADo C gl o e g v g []
 | []=>by simp [eaK]
 | j::r=>by
  simp only[eaK,List.mem_cons,forall_eq_or_imp];rw[z60 (l:=r)];refine and_congr_left (λ_=>?_)
  cases hd:hs[j]? with
  | none=>simp
  | some q=>simp [doS]
def effK (b:Bool)(h h':aA)(y:Esc):Prop:=match b with
 | true=>True
 | false=>h'=h/\y=[]
theorem z6g {C:Hd}{gl:Nat->Option PV}{e:List (Nat × AV)}{h:aA}{x:Esc}{L:List (Nat × AV)->aA->Esc->Prop}{op:AOp}{rd early again:List Nat}{eff:Bool}{r:List DOp}{dn:DC}{hs:List aA}{v:AV}{h':aA}{y:Esc} :
 oT C gl ⟨op,rd,eff,early,again⟩ r dn hs e h x L v h' y=(effK eff h h' y/\eaK C gl op (EA (some rd) e) v hs early/\agK C gl h' dn again/\iD C gl r (dn++[(op,EA (some rd) e,v)]) (hs++[h]) (put op.dst v e) h' (y++x) L):=by
 rw[zgz,<-propext z60,<-propext z4P];cases eff <;> simp [effK]
theorem z6e {C:Hd}{gl:Nat->Option PV}{d:Option Nat}{g:Option (Nat × Bool)}{op:AO}{e:List (Nat × AV)}{v:AV}{h:aA}:doS C gl (⟨d,g,op⟩,e,v) h=doK C gl ⟨d,g,op⟩ e h (λv1 h1 x1=>v1=v/\h1=h/\x1=[]):=by
 unfold doS doK;refine propext ⟨λH=>⟨_,_,_,H,rfl,rfl,rfl⟩,λ⟨v1,h1,x1,H,a,b,c⟩=>by subst a;subst b;subst c;exact H⟩
theorem zgj {p:Prop}[Decidable p]{A B:Prop}:iB (.p (.bool (decide p))) A B=if p then A else B:=by rw[z5M];simp
def OH (C:Hd)(v:AV)(asv:List AV)(h:aA)(L:jA):Prop:=match v with
 | .fn g caps=>C g (asv++caps) h L
 | _=>False
theorem z4t {C:Hd}{gl:Nat->Option PV}{e:List (Nat × AV)}{h:aA}{x:Esc}{L:List (Nat × AV)->aA->Esc->Prop}{d:Option Nat}{f:Opd}{args:List Opd}{r:List AOp} :
 WA C gl (⟨d,none,.callv f args⟩::r) e h x L=OH C (Opd.ev gl e f) (args.map (Opd.ev gl e)) h (HK C gl r d e x L):=by
 have h2:wanted none e=some true:=(rfl)
 rw[WA];simp only[h2];unfold OH;split <;> simp_all <;> rfl
def NH (C:Hd)(v:AV)(asv:List AV)(h:aA)(R:AV->aA->Esc->Prop):Prop:=match v with
 | .fn g caps=>TB C g (asv++caps) h R
 | _=>False
theorem z6c {C:Hd}{gl:Nat->Option PV}{e:List (Nat × AV)}{h:aA}{R:AV->aA->Esc->Prop}{d:Option Nat}{f:Opd}{args:List Opd} :
 doK C gl ⟨d,none,.callv f args⟩ e h R=NH C (Opd.ev gl e f) (args.map (Opd.ev gl e)) h R:=by
 have h2:wanted none e=some true:=(rfl)
 unfold doK ADo;simp only[h2];unfold NH TB;split <;> simp_all
theorem zfO {C:Hd}{g:Nat}{caps asv:List AV}{h:aA}{L:jA}:OH C (.fn g caps) asv h L=C g (asv++caps) h L:=(rfl)
theorem zfM {C:Hd}{g:Nat}{caps asv:List AV}{h:aA}{R:AV->aA->Esc->Prop}:NH C (.fn g caps) asv h R=TB C g (asv++caps) h R:=(rfl)
theorem zfN {C:Hd}{v v':AV}{asv asv':List AV}{h h':aA}{L:jA}(h1:v=v')(h2:asv=asv')(h3:h=h'):OH C v asv h L=OH C v' asv' h' L:=by rw[h1,h2,h3]
theorem zfL {C:Hd}{v v':AV}{asv asv':List AV}{h h':aA}{R:AV->aA->Esc->Prop}(h1:v=v')(h2:asv=asv')(h3:h=h'):NH C v asv h R=NH C v' asv' h' R:=by rw[h1,h2,h3]
attribute [go_sem] z4t z6c zfO zfM
attribute [congr] zfN zfL
theorem zgp {k:IntKind}{n:Int}:rB none 0 (.int k n)=some (.int k n):=(rfl)
theorem zgr {s:List UInt8}:rB none 0 (.str s)=some (.str s):=(rfl)
theorem zgo {off:Nat}{cs:List PV}:rB none off (.agg cs)=(cs[off]?).bind λx=>if x.sc then some x else none:=(rfl)
theorem zgn {n off:Nat}{cs:List PV}:rB (some n) off (.agg cs)=if off+n<=cs.length then some (.agg ((cs.drop off).take n)) else none:=(rfl)
theorem zgq {v:PV}(h:v.sc=true):rB none 0 v=some v:=by cases v <;> first|rfl|cases h
attribute [go_sem] zgp zgr zgo zgn
theorem zj3 {id:Nat}{v:PV}:rC id (.p v)=[]:=(rfl)
attribute [go_sem] List.take_succ_cons List.take_zero List.take_nil List.drop_succ_cons List.drop_zero List.drop_nil List.length_cons List.length_nil Nat.reduceLeDiff Nat.reduceLT Int.reduceLT Int.reduceLE Int.reduceAdd Int.reduceSub Int.reduceMul Int.reduceNeg Int.reduceEq Nat.reduceSub Nat.reduceMul Nat.le_refl List.append_assoc
theorem zrn {b:Nat}{x0:Esc}{e:List (Nat × AV)}{h:aA}:mD b x0 ⟨e,h,[]⟩=⟨yE b e,h.take b,x0⟩:=(rfl)
theorem zga {n:Nat}:yE n []=[]:=(rfl)
theorem zfZ {n k:Nat}{v:AV}{r:List (Nat × AV)}:yE n ((k,v)::r)=(k,if v.top<=n then v else .und)::yE n r:=(rfl)
theorem top_p {v:PV}:AV.top (.p v)=0:=(rfl)
theorem z4a {id g o l:Nat}:AV.top (.own id g o l)=id+1:=by simp [AV.top]
theorem zrc {id o:Nat}:AV.top (.ref id o)=id+1:=by simp [AV.top]
theorem zra {id:Nat}:AV.top (.mp id)=id+1:=by simp [AV.top]
theorem zqZ {f:Nat}{cs:List AV}:AV.top (.fn f cs)=AV.tops cs:=by simp [AV.top]
theorem zrd {cs:List AV}:AV.top (.tup cs)=AV.tops cs:=by simp [AV.top]
theorem zrb:AV.top .nili=0:=(rfl)
theorem zri:AV.tops []=0:=(rfl)
theorem zre {v:AV}{r:List AV}:AV.tops (v::r)=max v.top (AV.tops r):=by simp [AV.tops]
theorem zo5 {b:Nat}{P:jA}{vs:List AV}{h:aA}:bE false b P (some vs) h []=match VA b h (XA vs) with
 | some v0=>match VA (max b v0.top) h (XA vs) with
  | some v=>v.top<=max b v0.top/\P v (h.take (max b v0.top)) []
  | none=>False
 | none=>False:=by
 simp only[bE,vB,List.length_nil,xB,List.all_nil,if_true,List.filter_nil]
theorem zor {b:Nat}{h:aA}{id g off len:Nat}:VA b h (.own id g off len)=if b<=id then(rd h (.own id g off len)).map λy=>.p (.sl y.1 y.2) else some (.own id g off len):=by simp only[VA]
theorem zou {b:Nat}{h:aA}{cs:List AV}:VA b h (.tup cs)=(wD b h cs).map .tup:=by simp only[VA]
theorem zot {b:Nat}{h:aA}{id o:Nat}:VA b h (.ref id o)=some (.ref id o):=by simp only[VA]
theorem zov {b:Nat}{h:aA}{v:AV}{r:List AV}:wD b h (v::r)=(match VA b h v with|some x=>(wD b h r).map (x :: ·)|none=>none):=by rw[wD];cases VA b h v <;> rfl
theorem zm0 {v u:AV}{r:List AV}:XA (v::u::r) = .tup (v::u::r):=(rfl)
theorem zaJ {h l:aA}{id:Nat}{o:Obj}(hid:id<h.length):(h++l).set id o=h.set id o++l:=List.set_append_left _ _ hid
theorem z86 {h l:aA}{id:Nat}(hid:id<h.length):(h++l)[id]?=h[id]?:=List.getElem?_append_left hid
theorem za9 {h l:aA}{i n:Nat}{o:Obj}:(h.set i o++l)[h.length+n]?=l[n]?:=by
 have:=gE (h.set i o) l n;rwa [List.length_set]at this
theorem zpS {h l:aA}{i:Nat}{o:Obj}:(h.set i o++l)[h.length]?=l[0]?:=za9 (n:=0)
theorem zaA {h l:aA}{i n:Nat}{o q:Obj}:(h.set i o++l).set (h.length+n) q=h.set i o++l.set n q:=by
 have:=rG (h.set i o) l n q;rwa [List.length_set]at this
theorem zpT {h l:aA}{i:Nat}{o q:Obj}:(h.set i o++l).set h.length q=h.set i o++l.set 0 q:=zaA (n:=0)
theorem zpU {h l:aA}{i n:Nat}{o:Obj}:(h.set i o++l).take (h.length+n)=h.set i o++l.take n:=by
 have:=dJ (h.set i o) l n;rwa [List.length_set]at this
theorem zpV {h l:aA}{i:Nat}{o:Obj}:(h.set i o++l).take h.length=h.set i o:=by
 have:=CN (h.set i o) l;rwa [List.length_set]at this
theorem zpR {h l:aA}{i n k:Nat}{o:Obj}:frz (h.set i o++l) (h.length+n) k=h.set i o++frz l n k:=by
 have:=z4W (h.set i o) l n k;rwa [List.length_set]at this
theorem VI {α:Type}{l:List α}{n:Nat}(h:l.length=n):win l 0 n=l:=by subst h;simp [win]
theorem zbu {α:Type}(l:List α):win l 0 l.length=l:=by simp [win]
attribute [go_sem] zrn zga zfZ top_p z4a zrc zra zqZ zrd zrb zri zre Nat.max_zero Nat.zero_max Nat.zero_le zos zor zou zot zow zov zm0 gE z4X rG z4Y dJ CN z4W za9 zpS zaA zpT zpU zpV zpR List.length_append zbu Nat.add_le_add_iff_right Nat.zero_add Nat.add_zero
attribute [go_sem] mE PV.shp List.reduceReplicate cond_true cond_false Bool.not_true Bool.not_false Bool.false_eq_true Bool.true_and Bool.and_true Bool.false_and Bool.and_false Bool.true_or Bool.or_true Bool.false_or Bool.or_false beq_self_eq_true List.all_cons List.all_nil
attribute [go_sem low] zo5
theorem zqO {h:aA}{id:Nat}{o:Obj}:(h.set id o).take h.length=h.set id o:=List.take_of_length_le (by simp)
attribute [go_sem] zqO Int.natCast_zero Int.natCast_one Int.cast_ofNat_Int
attribute [go_sem] aun BD BN KY List.foldlM_cons List.foldlM_nil Option.bind_some Option.pure_def Option.bind_eq_bind List.cons_append List.nil_append Int.zero_sub List.length_singleton
attribute [go_sem] gA zj3
attribute [go_sem] z4o z6b z6d TB ex3' z6g z6e List.not_mem_nil List.mem_cons List.mem_singleton forall_eq_or_imp forall_eq false_implies true_implies implies_true forall_const and_true true_and List.cons_append and_self reduceCtorEq List.getElem?_cons_zero List.getElem?_cons_succ Option.some.injEq exists_eq_left' List.set_cons_zero List.set_cons_succ List.set_set List.length_set
attribute [congr] zfI zb0
attribute [congr] zjT
attribute [go_sem] zaE z4v z4s z5O z5N zgj decide_true decide_false z8Z z8Y z9a aop Opd.ev eA put EA SB CD fJ pC PF zmz enter rd rds pur rE nA mkA unp cut AV.cells PV.cells PV.sc AV.sc splice pint pbool DF
attribute [go_sem low] z5M zr5 zr4
attribute [congr] zgi
end
section
def AO.noNext:AO->Bool
 | .mnext _ _=>false
 | _=>true
def ACode.noNext:ACode->Bool
 | .reg ops _=>ops.all λo=>o.op.noNext
 | .seq a b=>a.noNext&&b.noNext
 | .cond _ a b=>a.noNext&&b.noNext
 | .condu _ _ _=>false
 | .det _=>false
 | .block _ b=>b.noNext
 | .loop b=>b.noNext
 | .scope b=>b.noNext
 | .pr _ b=>b.noNext
 | _=>true
def Dt (C D:Hd):Prop:=∀f a h K,C f a h K->∃v h' x,K v h' x/\D f a h λv1 h1 x1=>v1=v/\h1=h'/\x1=x
variable {C D:Hd} {gl:Nat->Option PV}
theorem yN (hD:D.Mono)(hC:Dt C D):∀(ops:List AOp) e h x K,(ops.all λo=>o.op.noNext)=true->WA C gl ops e h x K->∃e' h' x',K e' h' x'/\WA D gl ops e h x λe1 h1 x1=>e1=e'/\h1=h'/\x1=x'
 | [],e,h,x,K,_,H=>⟨e,h,x,H,rfl,rfl,rfl⟩
 | o::r,e,h,x,K,hn,H=>by
  obtain⟨dst,guard,op⟩:=o;simp only[List.all_cons,Bool.and_eq_true]at hn;obtain⟨hn1,hn2⟩:=hn;unfold WA at H;dsimp only at H;split at H
  ·rename_i hw
   cases op;case call f args=>
    obtain⟨v,h',x',H',G'⟩:=hC _ _ _ _ H;obtain⟨e2,h2,x2,k2,g2⟩:=yN hD hC r _ _ _ K hn2 H';refine⟨e2,h2,x2,k2,?_⟩;unfold WA;simp only[hw]
    exact hD _ _ _ _ _ (λv1 h1 x1 ⟨a1,a2,a3⟩=>by subst a1;subst a2;subst a3;exact g2) G'
   case callv f args=>
    dsimp only at H;split at H
    ·rename_i hf
     obtain⟨v,h',x',H',G'⟩:=hC _ _ _ _ H;obtain⟨e2,h2,x2,k2,g2⟩:=yN hD hC r _ _ _ K hn2 H';refine⟨e2,h2,x2,k2,?_⟩;unfold WA;simp only[hw,hf]
     exact hD _ _ _ _ _ (λv1 h1 x1 ⟨a1,a2,a3⟩=>by subst a1;subst a2;subst a3;exact g2) G'
    ·exact H.elim
   case mnext sh xs=>simp [AO.noNext]at hn1
   all_goals
    dsimp only at H;split at H
    ·rename_i ha
     obtain⟨e2,h2,x2,k2,g2⟩:=yN hD hC r _ _ _ K hn2 H;refine⟨e2,h2,x2,k2,?_⟩;unfold WA;simp only[hw,ha]
     exact g2
    ·exact H.elim
  ·rename_i hw
   obtain⟨e2,h2,x2,k2,g2⟩:=yN hD hC r _ _ _ K hn2 H;refine⟨e2,h2,x2,k2,?_⟩;unfold WA;simp only[hw]
   exact g2
  ·exact H.elim
theorem XW (hD:D.Mono)(hC:Dt C D){o:AOp}{e:List (Nat × AV)}{h h':aA}{v:AV}{x:Esc}(H:ADo C gl o e h v h' x):ADo D gl o e h v h' x:=by
 have key:∀f a h,C f a h (λv1 h1 x1=>v1=v/\h1=h'/\x1=x)->D f a h (λv1 h1 x1=>v1=v/\h1=h'/\x1=x):=λf a h hc=>by
  obtain⟨v2,h2,x2,⟨e1,e2,e3⟩,hd⟩:=hC _ _ _ _ hc;subst e1;subst e2;subst e3
  exact hd
 unfold ADo at H ⊢;split at H
 ·split at H
  ·exact key _ _ _ H
  ·split at H
   ·exact key _ _ _ H
   ·exact H.elim
  ·exact H.elim
  ·exact H
 ·exact H
 ·exact H.elim
theorem z4p (hD:D.Mono)(hC:Dt C D):∀(ds:List DOp) dn hs e h x K,iD C gl ds dn hs e h x K->∃e' h' x',K e' h' x'/\iD D gl ds dn hs e h x λe1 h1 x1=>e1=e'/\h1=h'/\x1=x'
 | [],dn,hs,e,h,x,K,H=>⟨e,h,x,H,rfl,rfl,rfl⟩
 | o::r,dn,hs,e,h,x,K,H=>by
  obtain⟨v,h',y,h1,h2,h3,h4,h5⟩:=H;obtain⟨e2,q2,x2,k2,g2⟩:=z4p hD hC r _ _ _ _ _ K h5;exact⟨e2,q2,x2,k2,v,h',y,XW hD hC h1,h2,λk hk=>by obtain⟨g,a1,a2⟩:=h3 k hk;exact⟨g,a1,XW hD hC a2⟩,
   λj hj=>by obtain⟨q,a1,a2⟩:=h4 j hj;exact⟨q,a1,XW hD hC a2⟩,g2⟩
theorem zb7 {T U:St->(Ex->St->Prop)->Prop}(hT:∀ s K,T s K->∃ e s',K e s'/\U s λe1 s1=>e1=e/\s1=s'){K:Ex->St->Prop}{s:St}(H:ALoop T K s):∃e s',K e s'/\ALoop U (λe1 s1=>e1=e/\s1=s') s:=by
 induction H with
 | mk s R h hn he hr ih=>
  obtain⟨e,s',hR,hU⟩:=hT _ _ h;cases e with
  | normal=>
   obtain⟨e2,s2,k2,g2⟩:=ih s' hR;exact⟨e2,s2,k2,.mk _ _ hU (λs1 ⟨_,h1⟩=>by subst h1;exact g2) (λi s1 ⟨h1,_⟩=>by cases h1) (λs1 ⟨h1,_⟩=>by cases h1)⟩
  | exit i=>exact⟨_,_,he i s' hR,.mk _ _ hU (λs1 ⟨h1,_⟩=>by cases h1) (λj s1 h1=>h1) (λs1 ⟨h1,_⟩=>by cases h1)⟩
  | ret=>exact⟨_,_,hr s' hR,.mk _ _ hU (λs1 ⟨h1,_⟩=>by cases h1) (λj s1 ⟨h1,_⟩=>by cases h1) (λs1 h1=>h1)⟩
theorem OG (hD:D.Mono)(hC:Dt C D):∀(c:ACode),c.noNext=true->∀s K,AW C gl c s K->∃e s',K e s'/\AW D gl c s λe1 s1=>e1=e/\s1=s'
 | .skip,_,s,K,H=>⟨_,_,H,rfl,rfl⟩
 | .reg ops keep,hn,s,K,H=>by
  obtain⟨e,h,x,h1,h2⟩:=yN hD hC ops _ _ _ _ hn H;refine⟨_,_,h1,?_⟩;show WA D gl ops s.env s.h s.esc λe1 h1 x1=>_
  exact EH (C:=D) (C':=D) (λf a h K K' hK h=>hD _ _ _ _ _ hK h) ops _ _ _ _ _ (λe1 h1 x1 ⟨a1,a2,a3⟩=>by subst a1;subst a2;subst a3;exact⟨rfl,rfl⟩) h2
 | .draw ds keep,_,s,K,H=>by
  obtain⟨e,h,x,h1,h2⟩:=z4p hD hC ds _ _ _ _ _ _ H;refine⟨_,_,h1,?_⟩;show iD D gl ds [] [] s.env s.h s.esc λe1 h1 x1=>_
  exact IQ (C:=D) (C':=D) (λf a h K K' hK h=>hD _ _ _ _ _ hK h) ds _ _ _ _ _ _ _ (λe1 h1 x1 ⟨a1,a2,a3⟩=>by subst a1;subst a2;subst a3;exact⟨rfl,rfl⟩) h2
 | .seq a b,hn,s,K,H=>by
  simp only[ACode.noNext,Bool.and_eq_true]at hn;obtain⟨e,s',h1,h2⟩:=OG hD hC a hn.1 _ _ H;have mono:=λ(K K':Ex->St->Prop) (hK:∀e s,K e s->K' e s)=>CC (C:=D) (C':=D) (gl:=gl) (λf a h K K' hK h=>hD _ _ _ _ _ hK h) a s K K' hK
  cases e with
  | normal=>
   obtain⟨e2,s2,k2,g2⟩:=OG hD hC b hn.2 _ _ h1;refine⟨e2,s2,k2,mono _ _ (λe1 s1 ⟨a1,a2⟩=>?_) h2⟩
   subst a1;subst a2;exact g2
  | exit i=>exact⟨_,_,h1,mono _ _ (λe1 s1 ⟨a1,a2⟩=>by subst a1;subst a2;exact⟨rfl,rfl⟩) h2⟩
  | ret=>exact⟨_,_,h1,mono _ _ (λe1 s1 ⟨a1,a2⟩=>by subst a1;subst a2;exact⟨rfl,rfl⟩) h2⟩
 | .condu c a b,hn,s,K,H=>by cases hn
 | .det b,hn,s,K,H=>by cases hn
 | .cond c a b,hn,s,K,H=>by
  simp only[ACode.noNext,Bool.and_eq_true]at hn;unfold AW at H;split at H
  ·rename_i t ht
   split at H
   ·obtain⟨e,s',h1,h2⟩:=OG hD hC a hn.1 _ _ H
    refine⟨e,s',h1,?_⟩;unfold AW;simp only[ht];exact h2
   ·obtain⟨e,s',h1,h2⟩:=OG hD hC b hn.2 _ _ H
    refine⟨e,s',h1,?_⟩;unfold AW;simp only[ht];exact h2
  ·exact H.elim
 | .block id b,hn,s,K,H=>by
  obtain⟨e,s',h1,h2⟩:=OG hD hC b hn _ _ H;have mono:=λ(K K':Ex->St->Prop) (hK:∀e s,K e s->K' e s)=>CC (C:=D) (C':=D) (gl:=gl) (λf a h K K' hK h=>hD _ _ _ _ _ hK h) b s K K' hK
  cases e with
  | normal=>exact⟨_,_,h1,mono _ _ (λe1 s1 ⟨a1,a2⟩=>by subst a1;subst a2;exact⟨rfl,rfl⟩) h2⟩
  | exit i=>
   dsimp only at h1;split at h1
   ·rename_i hi
    exact⟨_,_,h1,mono _ _ (λe1 s1 ⟨a1,a2⟩=>by subst a1;subst a2;dsimp only;rw[if_pos hi];exact⟨rfl,rfl⟩) h2⟩
   ·rename_i hi
    exact⟨_,_,h1,mono _ _ (λe1 s1 ⟨a1,a2⟩=>by subst a1;subst a2;dsimp only;rw[if_neg hi];exact⟨rfl,rfl⟩) h2⟩
  | ret=>exact⟨_,_,h1,mono _ _ (λe1 s1 ⟨a1,a2⟩=>by subst a1;subst a2;exact⟨rfl,rfl⟩) h2⟩
 | .loop b,hn,s,K,H=>zb7 (λs K h=>OG hD hC b hn s K h) H
 | .scope b,hn,s,K,H=>by
  obtain⟨e,s',h1,h2⟩:=OG hD hC b hn _ _ H;exact⟨_,_,h1,CC (C:=D) (C':=D) (gl:=gl) (λf a h K K' hK h=>hD _ _ _ _ _ hK h) b _ _ _ (λe1 s1 ⟨a1,a2⟩=>by subst a1;subst a2;exact⟨rfl,rfl⟩) h2⟩
 | .pr l b,hn,s,K,H=>OG hD hC b hn _ K H
 | .exit id,_,s,K,H=>⟨_,_,H,rfl,rfl⟩
 | .ret,_,s,K,H=>⟨_,_,H,rfl,rfl⟩
 | .bad,_,s,K,H=>H.elim
theorem z7T {F:AFun}{b:Nat}{s:St}{K:jA}(H:fin F b s K):∃v h x,K v h x/\fin F b s λv1 h1 x1=>v1=v/\h1=h/\x1=x:=by
 cases h0:qD F.results with
 | true=>
  unfold fin at H;rw[h0]at H;cases h1:pC s F.results with
  | none=>rw[h1]at H;exact H.elim
  | some vs=>
   rw[h1]at H;unfold YC at H;dsimp only at H;cases h2:UF b s.h F.results vs with
   | none=>rw[h2]at H;exact H.elim
   | some y=>
    rw[h2]at H;exact⟨_,_,_,H.2,by unfold fin;rw[h0,h1];unfold YC;dsimp only;rw[h2];exact⟨H.1,rfl,rfl,rfl⟩⟩
 | false=>
 unfold fin at H;rw[h0]at H;cases h1:pC s F.results with
 | none=>rw[h1]at H;exact H.elim
 | some vs=>
  rw[h1]at H;dsimp only at H;cases h2:F.keep with
  | true=>
   rw[h2]at H;dsimp only at H;by_cases h3:xB s.esc (vB (List.length s.esc) s.esc (max b (XA vs).top))=true
   ·rw[if_pos h3]at H
    exact⟨_,_,_,H,by unfold fin;rw[h0];dsimp only;rw[h1];dsimp only;rw[h2];dsimp only;rw[if_pos h3];exact⟨rfl,rfl,rfl⟩⟩
   ·rw[if_neg h3]at H
    exact⟨_,_,_,H,by unfold fin;rw[h0];dsimp only;rw[h1];dsimp only;rw[h2];dsimp only;rw[if_neg h3];exact⟨rfl,rfl,rfl⟩⟩
  | false=>
   rw[h2]at H;dsimp only at H;cases h4:VA b s.h (XA vs) with
   | none=>rw[h4]at H;exact H.elim
   | some v0=>
    rw[h4]at H;dsimp only at H;by_cases h3:xB s.esc (vB (List.length s.esc) s.esc (max b v0.top))=true
    ·rw[if_pos h3]at H
     cases h5:VA (vB (List.length s.esc) s.esc (max b v0.top)) s.h (XA vs) with
     | none=>rw[h5]at H;exact H.elim
     | some v=>
      rw[h5]at H;exact⟨_,_,_,H.2,by unfold fin;rw[h0];dsimp only;rw[h1];dsimp only;rw[h2];dsimp only;rw[h4];dsimp only;rw[if_pos h3,h5];exact⟨H.1,rfl,rfl,rfl⟩⟩
    ·rw[if_neg h3]at H
     exact⟨_,_,_,H,by unfold fin;rw[h0];dsimp only;rw[h1];dsimp only;rw[h2];dsimp only;rw[h4];dsimp only;rw[if_neg h3];exact⟨rfl,rfl,rfl⟩⟩
def Ctx.NoNext (X:Ctx):Prop:=∀f F,X.fn f=some F->(F.isDet||F.body.noNext)=true
theorem zdg (hD:D.Mono)(hC:Dt C D){F:AFun}{a:List AV}{h:aA}{K:jA}(hb:F.body.noNext=true)(H:oC C gl F a h K):∃v h' x,K v h' x/\oC D gl F a h λv1 h1 x1=>v1=v/\h1=h'/\x1=x:=by
 unfold oC at H ⊢;cases hp:(if F.byref then some (a,h) else nA h a) with
 | none=>rw[hp]at H;exact H.elim
 | some q=>
  obtain⟨asv,h1⟩:=q;rw[hp]at H;obtain⟨hl,H⟩:=H;obtain⟨e,s',k1,g1⟩:=OG hD hC _ hb _ _ H;have mono:=λ(K K':Ex->St->Prop) (hK:∀e s,K e s->K' e s)=>CC (C:=D) (C':=D) (gl:=gl) (λf a h K K' hK h=>hD _ _ _ _ _ hK h) F.body ⟨enter asv,h1,[]⟩ K K' hK
  cases e with
  | exit i=>exact k1.elim
  | normal=>
   obtain⟨v,h',x,k2,g2⟩:=z7T k1;exact⟨v,h',x,k2,hl,mono _ _ (λe1 s1 ⟨a1,a2⟩=>by subst a1;subst a2;exact g2) g1⟩
  | ret=>
   obtain⟨v,h',x,k2,g2⟩:=z7T k1;exact⟨v,h',x,k2,hl,mono _ _ (λe1 s1 ⟨a1,a2⟩=>by subst a1;subst a2;exact g2) g1⟩
theorem zb1 {X:Ctx}(hX:X.NoNext):Dt (bA X) (bA X):=by
 intro f a h K H;refine H (λf a h K=>∃v h' x,K v h' x/\bA X f a h λv1 h1 x1=>v1=v/\h1=h'/\x1=x) ?_ ?_
 ·intro f a h K K' hK ⟨v,h',x,k,g⟩
  exact⟨v,h',x,hK _ _ _ k,g⟩
 ·intro f a h K H
  have hC:Dt (λf a h K=>∃v h' x,K v h' x/\bA X f a h λv1 h1 x1=>v1=v/\h1=h'/\x1=x) (bA X):=λf a h K H=>H
  have hD:=bA.mono X
  unfold ZB at H;split at H
  ·rename_i F hF
   unfold pD at H;cases hd:F.isDet with
   | true=>
    rw[hd]at H;obtain⟨v,h',x,k,H⟩:=H;refine⟨v,h',x,k,bA.fold ?_⟩;unfold ZB;simp only[hF,pD,hd];exact⟨v,h',x,⟨rfl,rfl,rfl⟩,AN (λf a h K K' hK ⟨v2,h2,x2,k2,g2⟩=>hD _ _ _ _ _ (λv1 h1 x1 hv=>by obtain⟨rfl,rfl,rfl⟩:=hv;exact hK _ _ _ k2) g2) (λ_ _ _ h=>h) H⟩
   | false=>
    rw[hd]at H;obtain⟨v,h',x,k1,g1⟩:=zdg hD hC (by have:=hX f F hF;rw[hd]at this;simpa using this) H
    refine⟨v,h',x,k1,bA.fold ?_⟩;unfold ZB;simp only[hF,pD,hd]
    exact g1
  ·rename_i hF
   split at H
   ·rename_i hx2
    refine⟨_,_,_,H,bA.fold ?_⟩;unfold ZB;simp only[hF,hx2]
    exact⟨trivial,trivial,trivial⟩
   ·rename_i hx2
    split at H
    ·rename_i hp
     split at H
     ·rename_i hu
      split at H
      ·rename_i hx
       refine⟨_,_,_,H,bA.fold ?_⟩;unfold ZB;simp only[hF,hx2,hp,hu,hx]
       exact⟨trivial,trivial,trivial⟩
      ·exact H.elim
     ·exact H.elim
    ·exact H.elim
theorem bA.one {X:Ctx}(hX:X.NoNext){f:Nat}{a:List AV}{h:aA}{Q:jA}(H:bA X f a h Q):∃v h' x,Q v h' x/\∀K:jA,bA X f a h K=K v h' x:=by
 obtain⟨v,h',x,k,g⟩:=zb1 hX _ _ _ _ H;exact⟨v,h',x,k,λK=>sA g⟩
end
def pK (o:Option AV)(k:AV->Prop):Prop:=match o with
 | some v=>k v
 | none=>False
def wK (o:Option (AV × aA × Esc))(k:AV->aA->Esc->Prop):Prop:=match o with
 | some y=>k y.1 y.2.1 y.2.2
 | none=>False
def ZP (c a b:AV):Option AV:=match c with
 | .p (.bool t)=>some (bif t then a else b)
 | _=>none
def OL (x:AV)(h:aA):Option (AV×aA×Esc):=match x.cells with
 | some cs=>some (.ref h.length 0,h++[.box cs],[])
 | none=>none
def FP:List (Nat × Nat × AV)->List AV->Option (List AV)
 | [],cs=>some cs
 | (off,n,x)::r,cs=>match x.cells with
  | some vs=>if vs.length=n/\off+n<=cs.length then FP r (splice cs off vs) else none
  | none=>none
def lC (z:List AV)(ps:List (Nat × Nat × AV)):Option AV:=(FP ps z).map mkA
def GP (sh:Sh):List (Nat×AV)->aA->List PV->Option (List PV×aA)
 | [],h,xs=>some (xs,h)
 | (i,x)::r,h,xs=>match pur h x with
  | some (v,h')=>if v.shp sh/\i<xs.length then GP sh r h' (xs.set i v) else none
  | none=>none
def UC (own:Bool)(sh:Sh)(n:Nat)(z:PV)(ps:List (Nat × AV))(h:aA):Option (AV×aA×Esc):=match GP sh ps h (List.replicate n z) with
 | some (xs,h')=>if !z.shp sh then none else some (bif own then(.own h'.length n 0 n,h'++[.row sh xs 0],[]) else(.p (.sl sh xs),h',[]))
 | none=>none
def AA (sh:Sh)(a:AV)(h:aA):Option AV:=match a with
 | .ref id off=>match h[id]? with
  | some (.box cs)=>cut sh off cs
  | _=>none
 | .rref id g i off=>match h[id]? with
  | some (.row _ xs _)=>if g=xs.length then((xs[i]?).bind (rB sh off)).map .p else none
  | _=>none
 | .vp v=>(rB sh 0 v).map .p
 | .bt k off id g=>ldA sh k off id g h
 | _=>none
def lB (sh:Sh)(a x:AV)(h:aA):Option (AV×aA×Esc):=match a with
 | .ref id off=>match h[id]?,x.cells with
  | some (.box cs),some vs=>if vs.length=gA sh/\off+vs.length<=cs.length then some (.und,h.set id (.box (splice cs off vs)),GD id cs x) else none
  | _,_=>none
 | .rref id g i off=>match pur h x with
  | some (v,h1)=>match h1[id]? with
   | some (.row rsh xs fz)=>if g=xs.length/\fz<=i/\v.cells.length=gA sh/\v.cells.all PV.sc then match xs[i]? with
    | some (.agg cs)=>if off+v.cells.length<=cs.length then some (.und,h1.set id (.row rsh (xs.set i (.agg (splice cs off v.cells))) fz),[]) else none
    | some _=>if off=0/\v.sc then some (.und,h1.set id (.row rsh (xs.set i v) fz),[]) else none
    | none=>none
    else none
   | _=>none
  | none=>none
 | .bt k off id g=>stA sh k off id g x h
 | _=>none
def iF (x:AV):Option AV:=match x with
 | .ref _ _ | .rref _ _ _ _ | .vp _ | .fn _ _=>some x
 | .bt k _ _ _=>nlA k x
 | _=>none
def zA (op:BinOp)(x y:AV):Option AV:=match x,y with
 | .p a,.p b=>(SB op a b).map .p
 | _,_=>none
def SA (ks:List Nat)(neg:Bool)(x y:AV):Option AV:=match x,y with
 | .p (.agg asv),.p (.agg bs)=>if asv.map PV.kind=ks/\bs.map PV.kind=ks/\ks≠[] then(eqs asv bs).map λt=>pbool (bif neg then !t else t) else none
 | .p (.bool a),.p (.bool b)=>if ks=[] then some (pbool (bif neg then !decide (a=b) else decide (a=b))) else none
 | _,_=>none
def WP (k:Nat)(neg:Bool)(x:AV):Option AV:=bif gG k x then some .anyb else(NJ k x).map λr=>pbool (bif neg then !r else r)
def aU (x:AV):Option AV:=if GG x then some .ifc else none
def oUn (op:UnOp)(x:AV):Option AV:=match x with
 | .p a=>(aun op a).map .p
 | _=>none
def LE (c:Cv)(x:AV)(h:aA):Option (AV×aA×Esc):=(BD h c x).map λy=>(y.1,y.2,[])
def PL (k:IntKind)(x:AV):Option AV:=match x with
 | .p (.int _ n)=>some (.p (.int k (k.wrap n)))
 | _=>none
def bU (sh:Sh)(z:PV)(len cap:AV)(h:aA):Option (AV×aA×Esc):=match sB len,sB cap with
 | some n,some m=>if n<=m/\m<=LA/\z.shp sh then some (.own h.length n 0 n,h++[.row sh (List.replicate n z) 0],[]) else none
 | _,_=>none
def iE (d:Nat):Option AV->Option Nat
 | none=>some d
 | some x=>sB x
def aQ (x:AV)(lo hi:Option AV):Option AV:=match x with
 | .p (.str s)=>match iE 0 lo,iE s.length hi with
  | some l,some r=>if l<=r/\r<=s.length then some (.p (.str (win s l (r-l)))) else none
  | _,_=>none
 | _=>none
def QJ (sh:Sh)(x:AV)(lo hi mx:Option AV)(h:aA):Option AV:=match x with
 | .p (.sl sh' xs)=>match iE 0 lo,iE xs.length hi,iE xs.length mx with
  | some l,some r,some m=>if sh'=sh/\l<=r/\r<=m/\m<=xs.length then some (if mx.isSome/\m=l then .sl0 sh else .p (.sl sh (win xs l (r-l)))) else none
  | _,_,_=>none
 | .sl0 sh'=>match iE 0 lo,iE 0 hi,iE 0 mx with
  | some l,some r,some m=>if l=0/\r=0/\m=0 then some (.sl0 sh') else none
  | _,_,_=>none
 | .own id g off len=>match h[id]? with
  | some (.row rsh xs _)=>match iE 0 lo,iE len hi,iE len mx with
   | some l,some r,some m=>if rsh=sh/\g=xs.length/\off+len<=xs.length/\l<=r/\r<=m/\m<=len then some (if mx.isSome/\m=l then .sl0 sh else .own id g (off+l) (r-l)) else none
   | _,_,_=>none
  | _=>none
 | _=>none
def FA (off:Nat)(sh:Sh)(x:AV):Option AV:=match x with
 | .ref id o=>some (.ref id (o+off))
 | .rref id g i o=>some (.rref id g i (o+off))
 | .vp v=>(rB sh off v).map .vp
 | .bt k o id g=>faA k off o id g
 | _=>none
def EI (off:Nat)(sh:Sh)(x:AV):Option AV:=match x with
 | .p v=>match v with
  | .agg _=>(rB sh off v).map .p
  | _=>none
 | .agg cs=>cut sh off cs
 | _=>none
def VC (sh:Sh)(x i:AV)(h:aA):Option AV:=match x,sB i with
 | .p (.sl sh' xs),some k=>if sh'=sh then(xs[k]?).map .vp else none
 | .own id g off len,some k=>match h[id]? with
  | some (.row rsh xs _)=>if rsh=sh/\g=xs.length/\off+len<=xs.length/\k<len then some (.rref id g (off+k) 0) else none
  | _=>none
 | .bt kk _ id g,some k=>iaA sh kk id g k h
 | _,_=>none
def PJ (n:Nat)(sh:Sh)(x i:AV):Option AV:=match x,sB i with
 | .ref id o,some k=>if k<n then some (.ref id (o+k*gA sh)) else none
 | .rref id g j o,some k=>if k<n then some (.rref id g j (o+k*gA sh)) else none
 | .vp v,some k=>if k<n then(rB sh (k*gA sh) v).map .vp else none
 | _,_=>none
def FI (n:Nat)(sh:Sh)(x i:AV):Option AV:=match x,sB i with
 | .p (.agg cs),some k=>if k<n then(rB sh (k*gA sh) (.agg cs)).map .p else none
 | _,_=>none
def QL (x i:AV):Option AV:=match x,sB i with
 | .p (.str s),some k=>(s[k]?).map λb=>.p (.int .u8 b.toNat)
 | _,_=>none
def OJ (x:AV)(i:Nat):Option AV:=match x with
 | .tup vs=>vs[i]?
 | _=>none
def rH (x:AV):Option AV:=match x with
 | .p (.sl _ xs)=>some (pint xs.length)
 | .sl0 _=>some (pint 0)
 | .own _ _ _ len=>some (pint len)
 | .bt k _ _ g=>lnA k g
 | _=>none
def KD (x:AV):Option AV:=match x with
 | .p (.str s)=>some (pint s.length)
 | _=>none
def NL (sh:Sh)(s x:AV)(h:aA):Option (AV×aA×Esc):=match rds h x with
 | some (sh',ys)=>if sh'=sh then match s with
  | .sl0 _=>if ys.length<=LA then some (.own h.length ys.length 0 ys.length,h++[.row sh ys 0],[]) else none
  | .own id g off len=>match h[id]? with
   | some (.row rsh xs fz)=>if rsh=sh/\g=xs.length/\off=0/\len=xs.length/\len+ys.length<=LA/\fz<=xs.length then some (.own id (g+ys.length) off (len+ys.length),h.set id (.row sh (xs++ys) fz),[])
    else if rsh=sh/\g=xs.length/\off+len+ys.length<=xs.length/\fz<=off+len/\1<=ys.length/\len+ys.length<=LA/\sh=none/\xs.all PV.intP=true/\ys.all PV.intP=true then
     some (.p (.sl sh (win xs off len++ys)),h.set id (.row sh (splice xs (off+len) (List.replicate ys.length .unk)) (off+len+ys.length)),[])
    else none
   | _=>none
  | _=>none
  else none
 | none=>none
def YT (sh:Sh)(d s:AV)(h:aA):Option (AV×aA×Esc):=match d,rds h s with
 | .own id g off len,some (sh',ys)=>match h[id]? with
  | some (.row rsh xs fz)=>if rsh=sh/\sh'=sh/\g=xs.length/\off+len<=xs.length/\fz<=off then
   some (pint (min ys.length len),h.set id (.row sh (splice xs off (ys.take (min ys.length len))) fz),[])
   else none
  | _=>none
 | _,_=>none
def oClr (sh:Sh)(z:PV)(x:AV)(h:aA):Option (AV×aA×Esc):=match x with
 | .sl0 _=>some (.tup [],h,[])
 | .own id g off len=>match h[id]? with
  | some (.row rsh xs fz)=>if rsh=sh/\g=xs.length/\off+len<=xs.length/\fz<=off then
   some (.tup [],h.set id (.row sh (splice xs off (List.replicate len z)) fz),[])
   else none
  | _=>none
 | _=>none
def oMx (xs:List AV):Option AV:=match xs with
 | .p a::r=>((unp r).bind λl=>l.foldlM BN a).map .p
 | _=>none
def oMn (xs:List AV):Option AV:=match xs with
 | .p a::r=>((unp r).bind λl=>l.foldlM KY a).map .p
 | _=>none
def FB (kk:Sh × List Nat)(ok:Bool)(z x k:AV)(h:aA):Option AV:=match bD kk k with
 | some key=>match (match x with | .nilm=>some []|m=>(WB h m).map λy=>y.2.1) with
  | some es=>match PB key es with
   | some r=>
    let v:=((r.bind (es[·]?)).map ME.val)
    some (bif ok then .tup [v.getD z,pbool v.isSome] else v.getD z)
   | none=>none
  | none=>none
 | none=>none
def LB (kk:Sh × List Nat)(m k x:AV)(h:aA):Option (AV×aA×Esc):=match bD kk k,WB h m,GG x with
 | some key,some (id,es,c),true=>match PB key es with
  | some (some i)=>some (.und,h.set id (.amap (es.modify i λe=>{ e with val:=x }) c),rC id x)
  | some none=>some (.und,h.set id (.amap (es++[⟨key,x,c⟩]) (c+1)),rC id x)
  | none=>none
 | _,_,_=>none
def YP (kk:Sh × List Nat)(z m k:AV)(h:aA):Option (AV×aA×Esc):=match bD kk k,WB h m with
 | some key,some (id,es,c)=>match PB key es with
  | some (some i)=>(es[i]?).map λe=>(.tup [e.val,pint e.born],h,[])
  | some none=>some (.tup [z,pint c],h.set id (.amap (es++[⟨key,z,c⟩]) (c+1)),[])
  | none=>none
 | _,_=>none
def VP (m s x:AV)(h:aA):Option (AV×aA×Esc):=match WB h m,sB s,GG x with
 | some (id,es,c),some b,true=>match es.findIdx? (λe=>e.born==b) with
  | some i=>some (.und,h.set id (.amap (es.modify i λe=>{ e with val:=x }) c),rC id x)
  | none=>none
 | _,_,_=>none
def ZT (kk:Sh × List Nat)(m k:AV)(h:aA):Option (AV×aA×Esc):=match bD kk k,WB h m with
 | some key,some (id,es,c)=>match PB key es with
  | some (some i)=>some (.und,h.set id (.amap (es.eraseIdx i) c),[])
  | some none=>some (.und,h,[])
  | none=>none
 | _,_=>none
def XP (x:AV)(h:aA):Option AV:=match x with
 | .nilm=>some (pint 0)
 | .mp id=>(WB h (.mp id)).map λy=>pint y.2.1.length
 | _=>none
def SL (x:AV)(h:aA):Option (AV×aA×Esc):=match WB h x with
 | some (id,_,c)=>some (.it h.length,h++[.iter (some id) c [] c],[])
 | none=>match x with
  | .nilm=>some (.it h.length,h++[.iter none 0 [] 0],[])
  | _=>none
def RL (i:AV)(h:aA):Option (AV×aA×Esc):=match i with
 | .it id=>match h[id]? with
  | some (.iter (some m) _ seen last)=>match WB h (.mp m),seen.getLast? with
   | some (_,es,c),some b=>if c=last then(es.find? (λe=>e.born==b)).map λe=>(.tup [.p e.key,e.val],h,[]) else none
   | _,_=>none
  | _=>none
 | _=>none
def alK (z:List AV)(h:aA)(k:AV->aA->Esc->Prop):Prop:=k (.ref h.length 0) (h++[.box z]) []
def nwK (sh:Sh)(h:aA)(k:AV->aA->Esc->Prop):Prop:=k (.own h.length 0 0 0) (h++[.row sh [] 0]) []
def mmK (h:aA)(k:AV->aA->Esc->Prop):Prop:=k (.mp h.length) (h++[.amap [] 0]) []
def ev3 (ev:Opd->AV):List (Nat×Nat×Opd)->List (Nat×Nat×AV)
 | []=>[]
 | (a,b,x)::r=>(a,b,ev x)::ev3 ev r
def ev2 (ev:Opd->AV):List (Nat×Opd)->List (Nat×AV)
 | []=>[]
 | (a,x)::r=>(a,ev x)::ev2 ev r
def evO (ev:Opd->AV):Option Opd->Option AV
 | none=>none
 | some x=>some (ev x)
def ev1 (ev:Opd->AV):List Opd->List AV
 | []=>[]
 | x::r=>ev x::ev1 ev r
def opN (o:AO)(ev:Opd->AV)(h:aA)(k:AV->aA->Esc->Prop):Prop:=match o with
 | .mv x=>k (ev x) h []
 | .pick c a b=>pK (ZP (ev c) (ev a) (ev b)) λv=>k v h []
 | .alloc z=>alK z h k
 | .box x=>wK (OL (ev x) h) k
 | .build z ps=>pK (lC z (ev3 ev ps)) λv=>k v h []
 | .bsl own sh n z ps=>wK (UC own sh n z (ev2 ev ps) h) k
 | .load sh a=>pK (AA sh (ev a) h) λv=>k v h []
 | .store sh a x=>wK (lB sh (ev a) (ev x) h) k
 | .nilchk x=>pK (iF (ev x)) λv=>k v h []
 | .bin op x y=>pK (zA op (ev x) (ev y)) λv=>k v h []
 | .eqa ks neg x y=>pK (SA ks neg (ev x) (ev y)) λv=>k v h []
 | .isnil n neg x=>pK (WP n neg (ev x)) λv=>k v h []
 | .mkif x=>pK (aU (ev x)) λv=>k v h []
 | .un op x=>pK (oUn op (ev x)) λv=>k v h []
 | .conv (.i c) x=>pK (PL c (ev x)) λv=>k v h []
 | .mkfn f caps=>k (.fn f (ev1 ev caps)) h []
 | .slice sh x lo hi mx=>pK (QJ sh (ev x) (evO ev lo) (evO ev hi) (evO ev mx) h) λv=>k v h []
 | .slstr x lo hi=>pK (aQ (ev x) (evO ev lo) (evO ev hi)) λv=>k v h []
 | .mksl sh z len cap=>wK (bU sh z (ev len) (ev cap) h) k
 | .faddr off sh x=>pK (FA off sh (ev x)) λv=>k v h []
 | .field off sh x=>pK (EI off sh (ev x)) λv=>k v h []
 | .iaddr sh x i=>pK (VC sh (ev x) (ev i) h) λv=>k v h []
 | .iaddra n sh x i=>pK (PJ n sh (ev x) (ev i)) λv=>k v h []
 | .idxa n sh x i=>pK (FI n sh (ev x) (ev i)) λv=>k v h []
 | .idxs x i=>pK (QL (ev x) (ev i)) λv=>k v h []
 | .ext x i=>pK (OJ (ev x) i) λv=>k v h []
 | .len x=>pK (rH (ev x)) λv=>k v h []
 | .lens x=>pK (KD (ev x)) λv=>k v h []
 | .app sh s x=>wK (NL sh (ev s) (ev x) h) k
 | .copy sh d s=>wK (YT sh (ev d) (ev s) h) k
 | .uns m t xs=>wK (DB m t (ev1 ev xs) h) k
 | .clr sh z x=>wK (oClr sh z (ev x) h) k
 | .mx xs=>pK (oMx (ev1 ev xs)) λv=>k v h []
 | .mn xs=>pK (oMn (ev1 ev xs)) λv=>k v h []
 | .new0 sh=>nwK sh h k
 | .conv .s2b x=>wK (LE .s2b (ev x) h) k
 | .conv .b2s x=>wK (LE .b2s (ev x) h) k
 | .conv .r2s x=>wK (LE .r2s (ev x) h) k
 | .conv .same x=>wK (LE .same (ev x) h) k
 | .mkmap=>mmK h k
 | .look kk ok z x key=>pK (FB kk ok z (ev x) (ev key) h) λv=>k v h []
 | .mupd kk m key x=>wK (LB kk (ev m) (ev key) (ev x) h) k
 | .ment kk z m key=>wK (YP kk z (ev m) (ev key) h) k
 | .estore m s x=>wK (VP (ev m) (ev s) (ev x) h) k
 | .mdel kk m key=>wK (ZT kk (ev m) (ev key) h) k
 | .lenm x=>pK (XP (ev x) h) λv=>k v h []
 | .mrange x=>wK (SL (ev x) h) k
 | .mentry i=>wK (RL (ev i) h) k
 | .call _ _ | .callv _ _ | .mnext _ _=>False
theorem zbk {o:Option (AV × aA × Esc)}{k:AV->aA->Esc->Prop}:TJ o k=wK o k:=rfl
theorem HG {o:Option AV}{h:aA}{k:AV->aA->Esc->Prop}:wK (o.map λv=>(v,h,[])) k=pK o λv=>k v h []:=by cases o <;> rfl
theorem z7H (ev:Opd->AV):∀(ps:List (Nat×Nat×Opd)) (z:List AV),DF ev ps z=FP (ev3 ev ps) z
 | [],z=>rfl
 | (off,n,x)::r,z=>by
  simp only[DF,ev3,FP];cases (ev x).cells with
  | none=>rfl
  | some vs=>simp only[z7H ev r]
theorem z7K (ev:Opd->AV)(sh:Sh):∀(ps:List (Nat×Opd)) (h:aA) (z:List PV),mE ev sh ps h z=GP sh (ev2 ev ps) h z
 | [],h,z=>rfl
 | (i,x)::r,h,z=>by
  simp only[mE,ev2,GP];cases pur h (ev x) with
  | none=>rfl
  | some y=>simp only[z7K ev sh r]
theorem z5p (ev:Opd->AV)(d:Nat)(o:Option Opd):bnd ev d o=iE d (evO ev o):=by cases o <;> rfl
theorem zj9 (ev:Opd->AV)(o:Option Opd):(evO ev o).isSome=o.isSome:=by cases o <;> rfl
theorem eH (ev:Opd->AV)(l:List Opd):l.map ev=ev1 ev l:=by
 induction l with
 | nil=>rfl
 | cons x r ih=>simp only[List.map_cons,ev1,ih]
theorem zd7 (sh:Sh)(ev:Opd->AV)(h:aA)(x:AV)(lo hi mx:Option Opd):asl sh ev h x lo hi mx=QJ sh x (evO ev lo) (evO ev hi) (evO ev mx) h:=by
 unfold asl QJ;simp only[z5p,zj9];rfl
theorem xN {p:Prop}[Decidable p]{a:AV}{h:aA}{k:AV->aA->Esc->Prop}:wK (if p then some (a,h,[]) else none) k=pK (if p then some a else none) λv=>k v h []:=by split <;> rfl
theorem pG {α:Type}{o:Option α}{f:α->AV}{h:aA}{k:AV->aA->Esc->Prop}:wK (o.map λv=>(f v,h,[])) k=pK (o.map f) λv=>k v h []:=by cases o <;> rfl
theorem HQ {α:Type}{p:Prop}[Decidable p]{o:Option α}{f:α->AV}{h:aA}{k:AV->aA->Esc->Prop}:wK (if p then o.map (λv=>(f v,h,[])) else none) k=pK (if p then o.map f else none) λv=>k v h []:=by
 split
 ·exact pG
 ·rfl
theorem z9r {o:AO}(hp:o.plain=true){ev:Opd->AV}{h:aA}{k:AV->aA->Esc->Prop}:TJ (aop o ev h) k=opN o ev h k:=by
 rw[zbk];cases o <;> first|(cases hp;done)|skip
 case mv=>rfl
 case pick c a b=>
  simp only[aop,opN,ZP];generalize ev c=v;cases v <;> try rfl
  rename_i p;cases p <;> rfl
 case alloc=>rfl
 case box=>rfl
 case build z ps=>simp only[aop,opN];rw[<-HG,lC,z7H,Option.map_map];rfl
 case bsl=>simp only[aop,opN,UC,z7K];rfl
 case load sh a=>
  simp only[aop,opN,AA];generalize ev a=v;cases v with
  | ref id off=>dsimp only;cases h[id]? with
   | none=>rfl
   | some o=>cases o <;> first|rfl|exact HG
  | rref id g i off=>dsimp only;cases h[id]? with
   | none=>rfl
   | some o=>cases o <;> first|rfl|exact HQ
  | vp v=>exact pG
  | p v=>cases v <;> rfl
  | bt _ _ _ _=>exact HG
  | _=>rfl
 case store=>simp only[aop,opN];rfl
 case nilchk x=>
  simp only[aop,opN,iF];generalize ev x=v;cases v <;> try rfl
  exact HG
 case bin op x y=>
  simp only[aop,opN,zA];generalize ev x=v;generalize ev y=u;cases v <;> try rfl
  cases u <;> try rfl
  exact pG
 case eqa ks neg x y=>
  simp only[aop,opN,SA];generalize ev x=v;generalize ev y=u;cases v <;> try rfl
  rename_i p;cases p <;> try rfl
  all_goals (cases u <;> try rfl)
  all_goals (rename_i q;cases q <;> try rfl)
  ·exact xN
  ·exact HQ
 case isnil k neg p=>
  simp only[aop,opN,WP];cases gG k (ev p) with
  | true=>rfl
  | false=>exact pG
 case mkif=>exact xN
 case un op x=>
  simp only[aop,opN,oUn];generalize ev x=v;cases v <;> try rfl
  exact pG
 case conv c x=>
  cases c;case i k'=>
   simp only[aop,opN,PL,BD];generalize ev x=v;cases v <;> try rfl
   rename_i p;cases p <;> rfl
  all_goals rfl
 case mkfn f caps=>simp only[aop,opN,eH];rfl
 case slice=>simp only[aop,opN,zd7];exact HG
 case slstr x lo hi=>
  simp only[aop,opN,aQ,z5p];generalize ev x=v;cases v <;> try rfl
  rename_i p;cases p <;> try rfl
  rename_i s;dsimp only;generalize iE 0 _=o1;generalize iE s.length _=o2;cases o1 <;> try rfl
  cases o2 <;> try rfl
  exact xN
 case mksl=>simp only[aop,opN];rfl
 case faddr off sh x=>
  simp only[aop,opN,FA];generalize ev x=v;cases v <;> try rfl
  ·exact pG
  ·exact HG
 case field off sh x=>
  simp only[aop,opN,EI];generalize ev x=v;cases v <;> try rfl
  ·rename_i p;cases p <;> try rfl
   exact pG
  ·exact HG
 case iaddr sh x i=>
  simp only[aop,opN,VC];generalize ev x=v;generalize sB (ev i)=n;cases v <;> try rfl
  ·rename_i p;cases p <;> try rfl
   cases n <;> try rfl
   exact HQ
  ·cases n <;> try rfl
   rename_i id g off len k;dsimp only;cases h[id]? with
   | none=>rfl
   | some o=>cases o <;> first|rfl|exact xN
  ·cases n <;> try rfl
   exact HG
 case iaddra m sh x i=>
  simp only[aop,opN,PJ];generalize ev x=v;generalize sB (ev i)=n;cases v <;> try rfl
  all_goals (cases n <;> try rfl)
  ·exact xN
  ·exact xN
  ·exact HQ
 case idxa m sh x i=>
  simp only[aop,opN,FI];generalize ev x=v;generalize sB (ev i)=n;cases v <;> try rfl
  rename_i p;cases p <;> try rfl
  cases n <;> try rfl
  exact HQ
 case idxs x i=>
  simp only[aop,opN,QL];generalize ev x=v;generalize sB (ev i)=n;cases v <;> try rfl
  rename_i p;cases p <;> try rfl
  cases n <;> try rfl
  exact pG
 case ext x i=>
  simp only[aop,opN,OJ];generalize ev x=v;cases v <;> try rfl
  exact HG
 case len x=>
  simp only[aop,opN,rH];generalize ev x=v;cases v <;> try rfl
  ·rename_i p;cases p <;> rfl
  ·exact HG
 case lens x=>
  simp only[aop,opN,KD];generalize ev x=v;cases v <;> try rfl
  rename_i p;cases p <;> rfl
 case app=>simp only[aop,opN];rfl
 case copy=>simp only[aop,opN];rfl
 case uns=>simp only[aop,opN,eH,zbk]
 case clr=>simp only[aop,opN];rfl
 case mx xs=>
  simp only[aop,opN,eH,oMx];generalize ev1 ev xs=l;cases l <;> try rfl
  rename_i v r;cases v <;> try rfl
  exact pG
 case mn xs=>
  simp only[aop,opN,eH,oMn];generalize ev1 ev xs=l;cases l <;> try rfl
  rename_i v r;cases v <;> try rfl
  exact pG
 case new0=>rfl
 case look kk ok z x key=>
  simp only[aop,opN,FB];cases bD kk (ev key) <;> try rfl
  rename_i kk;generalize ev x=v;cases v <;> try rfl
  rename_i id;dsimp only;cases WB h (.mp id) <;> try rfl
  rename_i y;dsimp only[Option.map_some];cases PB kk y.2.1 <;> rfl
 case lenm x=>
  simp only[aop,opN,XP];generalize ev x=v;cases v <;> try rfl
  exact pG
 all_goals rfl
section
def gV (v:AV)(b:Bool)(h:aA)(A:(AV->aA->Esc->Prop)->Prop)(k:AV->aA->Esc->Prop):Prop:=tF v b (A k) (k .skp h [])
def gP (v:AV)(b:Bool)(o:Option AV)(h:aA)(k:AV->aA->Esc->Prop):Prop:=gV v b h (λk=>pK o λu=>k u h []) k
def gM (v:AV)(b:Bool)(u:AV)(h:aA)(k:AV->aA->Esc->Prop):Prop:=gV v b h (λk=>k u h []) k
def upB (b:Bool):Bool:=(λ(_:AV->Bool->Option AV->aA->(AV->aA->Esc->Prop)->Prop)=>b) gP
def gK (g:Option (Nat × Bool))(e:List (Nat × AV))(h:aA)(A:(AV->aA->Esc->Prop)->Prop)(k:AV->aA->Esc->Prop):Prop:=match g with
 | none=>A k
 | some (t,b)=>gV (eA e t) b h A k
def opC (C:Hd)(o:AO)(ev:Opd->AV)(h:aA)(k:AV->aA->Esc->Prop):Prop:=match o with
 | .call f args=>C f (ev1 ev args) h k
 | .callv f args=>OH C (ev f) (ev1 ev args) h k
 | .mnext sh xs=>match tG h sh (ev1 ev xs) with
  | some l=>l≠[]/\∀y∈l,k y.1 y.2 []
  | none=>False
 | o=>opN o ev h k
def uF (C:Hd)(gl:Nat->Option PV):List AOp->List (Nat×AV)->aA->Esc->(List (Nat×AV)->aA->Esc->Prop)->Prop
 | [],e,h,x,L=>L e h x
 | o::r,e,h,x,L=>gK o.guard e h (opC C o.op (Opd.ev gl e) h) λv h' x'=>uF C gl r (put o.dst v e) h' (x'++x) L
variable {C:Hd} {gl:Nat->Option PV}
theorem z9p {o:AO}{d:Option Nat}{r:List AOp}{e:List (Nat × AV)}{h:aA}{x:Esc}{L:List (Nat × AV)->aA->Esc->Prop} :
 WA C gl (⟨d,none,o⟩::r) e h x L=opC C o (Opd.ev gl e) h (HK C gl r d e x L):=by
 cases hp:o.plain with
 | true=>
  rw[zb9 hp,z9r hp];cases o <;> first|rfl|cases hp
 | false=>
  cases o <;> first|(cases hp;done)|skip
  all_goals first
   | (rw[z4s,eH];rfl)
   | (rw[z4t,eH];rfl)
   | (unfold WA opC;simp only[wanted,eH];rfl)
theorem z43:∀ (ops:List AOp) (e:List (Nat × AV)) (h:aA) (x:Esc) (L:List (Nat × AV)->aA->Esc->Prop),WA C gl ops e h x L=uF C gl ops e h x L
 | [],e,h,x,L=>rfl
 | ⟨d,g,o⟩::r,e,h,x,L=>by
  have ih:(λ(v:AV) (h':aA) (x':Esc)=>uF C gl r (put d v e) h' (x'++x) L)=HK C gl r d e x L:=by
   funext v h' x';rw[<-z43 r];rfl
  show _=gK g e h (opC C o (Opd.ev gl e) h) λv h' x'=>uF C gl r (put d v e) h' (x'++x) L
  rw[ih];cases g with
  | none=>exact z9p
  | some tb=>
   obtain⟨t,b⟩:=tb;rw[z4v,z9p];rfl
def opE (C:Hd)(o:AO)(ev:Opd->AV)(h:aA)(k:AV->aA->Esc->Prop):Prop:=match o with
 | .call f args=>TB C f (ev1 ev args) h k
 | .callv f args=>NH C (ev f) (ev1 ev args) h k
 | .mnext _ _=>False
 | o=>opN o ev h k
def iI (still eff:Bool)(h h':aA)(y:Esc)(Q:Prop):Prop:=match upB eff with
 | true=>Q
 | false=>match still with
  | true=>Q
  | false=>(h'=h/\y=[])/\Q
def nK (C:Hd)(gl:Nat->Option PV)(q:AOp × List (Nat × AV) × AV)(g:aA):Prop:=
 gK q.1.guard q.2.1 g (opE C q.1.op (Opd.ev gl q.2.1) g) λv1 h1 x1=>v1=q.2.2/\h1=g/\x1=[]
def SE (C:Hd)(gl:Nat->Option PV)(h:aA)(dn:DC)(Q:Prop):List Nat->Prop
 | []=>Q
 | j::r=>(match dn[j]? with|some q=>nK C gl q h|none=>False)/\SE C gl h dn Q r
def ZE (C:Hd)(gl:Nat->Option PV)(o:AOp)(e:List (Nat × AV))(v:AV)(hs:List aA)(Q:Prop):List Nat->Prop
 | []=>Q
 | k::r=>(match hs[k]? with|some g=>nK C gl (o,e,v) g|none=>False)/\ZE C gl o e v hs Q r
def RE (C:Hd)(gl:Nat->Option PV):List DOp->DC->List aA->List (Nat×AV)->aA->Esc->(List (Nat×AV)->aA->Esc->Prop)->Prop
 | [],_,_,e,h,x,L=>L e h x
 | o::r,dn,hs,e,h,x,L=>gK o.op.guard (EA (some o.rd) e) h (opE C o.op.op (Opd.ev gl (EA (some o.rd) e)) h) λv h' y=>
  iI o.op.op.still o.eff h h' y (ZE C gl o.op (EA (some o.rd) e) v hs (SE C gl h' dn (RE C gl r (dn++[(o.op,EA (some o.rd) e,v)]) (hs++[h]) (put o.op.dst v e) h' (y++x) L) o.again) o.early)
theorem z9q {o:AO}{d:Option Nat}{e:List (Nat × AV)}{h:aA}{R:AV->aA->Esc->Prop}:doK C gl ⟨d,none,o⟩ e h R=opE C o (Opd.ev gl e) h R:=by
 cases hp:o.plain with
 | true=>
  rw[zgx hp,z9r hp];cases o <;> first|rfl|cases hp
 | false=>
  cases o <;> first|(cases hp;done)|skip
  all_goals first
   | (rw[z6b,eH];rfl)
   | (rw[z6c,eH];rfl)
   | (unfold doK ADo opE;simp [wanted])
theorem z8f {o:AOp}{e:List (Nat × AV)}{h:aA}{R:AV->aA->Esc->Prop}:doK C gl o e h R=gK o.guard e h (opE C o.op (Opd.ev gl e) h) R:=by
 obtain⟨d,g,op⟩:=o;cases g with
 | none=>exact z9q
 | some tb=>
  obtain⟨t,b⟩:=tb;rw[z6d,z9q];rfl
theorem za7 {q:AOp × List (Nat × AV) × AV}{g:aA}:doS C gl q g=nK C gl q g:=by
 obtain⟨⟨d,gd,op⟩,e,v⟩:=q;rw[z6e,z8f];rfl
theorem z4Q {h:aA}{dn:DC}{Q:Prop}:∀{l:List Nat},SE C gl h dn Q l=(agK C gl h dn l/\Q)
 | []=>by simp [SE,agK]
 | j::r=>by
  unfold SE agK;rw[z4Q (l:=r)];cases dn[j]? with
  | none=>simp
  | some q=>simp only[za7,and_assoc]
theorem z61 {o:AOp}{e:List (Nat × AV)}{v:AV}{hs:List aA}{Q:Prop}:∀{l:List Nat},ZE C gl o e v hs Q l=(eaK C gl o e v hs l/\Q)
 | []=>by simp [ZE,eaK]
 | j::r=>by
  unfold ZE eaK;rw[z61 (l:=r)];cases hs[j]? with
  | none=>simp
  | some q=>simp only[za7,and_assoc]
theorem zgy {o:AOp}(hs:o.op.still=true){e:List (Nat × AV)}{h:aA}{R:AV->aA->Esc->Prop}:doK C gl o e h (λv h' y=>(h'=h/\y=[])/\R v h' y)=doK C gl o e h R:=by
 unfold doK;refine propext ⟨λ⟨v,h',y,H,_,r⟩=>⟨v,h',y,H,r⟩,λ⟨v,h',y,H,r⟩=>⟨v,h',y,H,zb5 hs H,r⟩⟩
theorem z42:∀ (ds:List DOp) (dn:DC) (hs:List aA) (e:List (Nat × AV)) (h:aA) (x:Esc) (L:List (Nat × AV)->aA->Esc->Prop),iD C gl ds dn hs e h x L=RE C gl ds dn hs e h x L
 | [],dn,hs,e,h,x,L=>rfl
 | ⟨o,rd,eff,early,again⟩::r,dn,hs,e,h,x,L=>by
  rw[z4o];show _=gK o.guard (EA (some rd) e) h (opE C o.op (Opd.ev gl (EA (some rd) e)) h) λv h' y=>
   iI o.op.still eff h h' y (ZE C gl o (EA (some rd) e) v hs (SE C gl h' dn (RE C gl r (dn++[(o,EA (some rd) e,v)]) (hs++[h]) (put o.dst v e) h' (y++x) L) again) early)
  rw[<-z8f];have e1:oT C gl ⟨o,rd,eff,early,again⟩ r dn hs e h x L=λv h' y=>(effK eff h h' y/\ZE C gl o (EA (some rd) e) v hs (SE C gl h' dn (RE C gl r (dn++[(o,EA (some rd) e,v)]) (hs++[h]) (put o.dst v e) h' (y++x) L) again) early):=by
   funext v h' y
   rw[z6g,z61,z4Q,<-z42 r]
  rw[e1];cases eff with
  | true=>
   congr 1;funext v h' y
   simp [effK,iI,upB]
  | false=>
   cases hs':o.op.still with
   | true=>
    have:=zgy (C:=C) (gl:=gl) (o:=o) hs' (e:=EA (some rd) e) (h:=h) (R:=λv h' y=>ZE C gl o (EA (some rd) e) v hs (SE C gl h' dn (RE C gl r (dn++[(o,EA (some rd) e,v)]) (hs++[h]) (put o.dst v e) h' (y++x) L) again) early)
    exact this
   | false=>rfl
def NW (C:Hd)(gl:Nat->Option PV):ACode->St->(Ex->St->Prop)->Prop
 | .skip,s,K=>K .normal s
 | .reg ops keep,s,K=>uF C gl ops s.env s.h s.esc λe h x=>K .normal ⟨EA keep e,h,x⟩
 | .draw ds keep,s,K=>RE C gl ds [] [] s.env s.h s.esc λe h x=>K .normal ⟨EA keep e,h,x⟩
 | .seq a b,s,K=>NW C gl a s λe s'=>match e with
  | .normal=>NW C gl b s' K
  | .exit i=>K (.exit i) s'
  | .ret=>K .ret s'
 | .cond c a b,s,K=>iB (Opd.ev gl s.env c) (NW C gl a s K) (NW C gl b s K)
 | .condu c a b,s,K=>ON (Opd.ev gl s.env c) (NW C gl a s K) (NW C gl b s K)
 | .det b,s,K=>NW C gl b s K
 | .block id b,s,K=>NW C gl b s λe s'=>match e with
  | .normal=>K .normal s'
  | .exit i=>bif Nat.beq i id then K .normal s' else K (.exit i) s'
  | .ret=>K .ret s'
 | .loop b,s,K=>ALoop (NW C gl b) K s
 | .scope b,s,K=>NW C gl b ⟨s.env,s.h,[]⟩ λe s'=>K e (mD s.h.length s.esc s')
 | .pr l b,s,K=>NW C gl b ⟨EA (some l) s.env,s.h,s.esc⟩ K
 | .exit id,s,K=>K (.exit id) s
 | .ret,s,K=>K .ret s
 | .bad,_,_=>False
theorem QD:∀ (c:ACode) (s:St) (K:Ex->St->Prop),AW C gl c s K=NW C gl c s K
 | .skip,s,K=>rfl
 | .reg ops keep,s,K=>z43 _ _ _ _ _
 | .draw ds keep,s,K=>z42 _ _ _ _ _ _ _
 | .seq a b,s,K=>by
  unfold AW NW;rw[QD a];congr 1;funext e s'
  cases e with
  | normal=>exact QD b s' K
  | _=>rfl
 | .cond c a b,s,K=>by
  unfold AW NW iB;rw[<-QD a,<-QD b];rfl
 | .condu c a b,s,K=>by
  unfold AW NW ON;rw[<-QD a,<-QD b];rfl
 | .det b,s,K=>QD b s K
 | .block id b,s,K=>by
  unfold AW NW;rw[QD b];congr 1;funext e s'
  cases e with
  | exit i=>
   dsimp only;by_cases hi:i=id
   ·subst hi;simp
   ·rw[if_neg hi]
    have:Nat.beq i id=false:=by cases h:Nat.beq i id with|false=>rfl|true=>exact absurd (Nat.eq_of_beq_eq_true h) hi
    rw[this];rfl
  | _=>rfl
 | .loop b,s,K=>by
  show ALoop (AW C gl b) K s=ALoop (NW C gl b) K s
  rw[show AW C gl b=NW C gl b from funext λs=>funext λK=>QD b s K]
 | .scope b,s,K=>QD b _ _
 | .pr l b,s,K=>QD b _ _
 | .exit id,s,K=>rfl
 | .ret,s,K=>rfl
 | .bad,s,K=>rfl
end
section
variable {C:Hd} {gl:Nat->Option PV} {e:List (Nat × AV)} {h:aA} {x:Esc} {K:Ex->St->Prop} {s:St}
abbrev AI (n:Int):AV:=.p (.int .i64 n)
abbrev AB (b:Bool):AV:=.p (.bool b)
def xD (C:Hd)(gl:Nat->Option PV)(b:ACode)(K:Ex->St->Prop)(e:Ex)(s:St):Prop:=match e with
 | .normal=>NW C gl b s K
 | .exit i=>K (.exit i) s
 | .ret=>K .ret s
def qC (id:Nat)(K:Ex->St->Prop)(e:Ex)(s:St):Prop:=match e with
 | .normal=>K .normal s
 | .exit i=>bif Nat.beq i id then K .normal s else K (.exit i) s
 | .ret=>K .ret s
def nqK (sh:Option Sh)(l:List AV)(h:aA)(k:AV->aA->Esc->Prop):Prop:=match tG h sh l with
 | some l=>l≠[]/\∀y∈l,k y.1 y.2 []
 | none=>False
def nxK (i:AV)(h:aA)(k:AV->aA->Esc->Prop):Prop:=match CI h i with
 | some l=>l≠[]/\∀y∈l,k y.1 y.2 []
 | none=>False
def gv (gl:Nat->Option PV)(n:Nat):AV:=match gl n with|some v=>.vp v|none=>.und
theorem zaG {b:ACode}:xD C gl b K .normal s=NW C gl b s K:=(rfl)
theorem zaH {b:ACode}:xD C gl b K .ret s=K .ret s:=(rfl)
theorem z5m {i:Nat}:qC i K .normal s=K .normal s:=(rfl)
theorem z5o {i:Nat}:qC i K (.exit i) s=K .normal s:=by simp [qC]
theorem z5n {i:Nat}:qC i K .ret s=K .ret s:=(rfl)
theorem qG {b:ACode}:NW C gl (.scope b) ⟨e,h,x⟩ K=NW C gl b ⟨e,h,[]⟩ (zaD h.length x K):=(rfl)
theorem zbY {c:ACode}{s s':St}(hs:s=s'):NW C gl c s K=NW C gl c s' K:=by rw[hs]
def UA (C:Hd)(gl:Nat->Option PV)(b:ACode)(K:Ex->St->Prop)(e:List (Nat × AV))(h:aA)(x:Esc):Prop:=ALoop (NW C gl b) K ⟨e,h,x⟩
theorem EC {l:List Nat}{b:ACode}:NW C gl (.loop (.pr l b)) ⟨e,h,x⟩ K=UA C gl (.pr l b) K (EA (some l) e) h x:=by
 show ALoop _ _ _=ALoop _ _ _
 exact z4r (funext λR=>by show NW C gl b _ R=NW C gl b _ R;dsimp only;rw[z95])
theorem jC {l:List Nat}{b:ACode}:NW C gl (.loop (.scope (.pr l b))) ⟨e,h,x⟩ K=UA C gl (.scope (.pr l b)) K (EA (some l) e) h x:=by
 show ALoop _ _ _=ALoop _ _ _
 exact z4r (funext λR=>by show NW C gl b _ _=NW C gl b _ _;dsimp only;rw[z95])
theorem zbX {b:ACode}{e e':List (Nat × AV)}{h h':aA}{x x':Esc}(h1:e=e')(h2:h=h')(h3:x=x'):UA C gl b K e h x=UA C gl b K e' h' x':=by rw[h1,h2,h3]
theorem bB {σ:Type}{b:ACode}(S:σ->St)(P:σ->Prop)(m:σ->Nat)(t0:σ)(hs:(⟨e,h,x⟩:St)=S t0)(h0:P t0)(hr:∀ t,P t->NW C gl b (S t) (VT S P m K t)):UA C gl b K e h x:=by
 show ALoop (NW C gl b) K _
 rw[hs];have key:∀n t,m t<n->P t->ALoop (NW C gl b) K (S t):=by
  intro n;induction n with
  | zero=>intro t h;omega
  | succ n ih=>
   intro t hm hp;refine .mk _ _ (hr t hp) (λs' h'=>?_) (λi s' h'=>h') (λs' h'=>h')
   obtain⟨u,rfl,hu,hlt⟩:=h';exact ih u (by omega) hu
 exact key _ t0 (Nat.lt_succ_self _) h0
theorem CA {X:Ctx}{f:Nat}{F:AFun}{a asv:List AV}{h h1:aA}{P:jA}(hf:X.fn f=some F)(hr:F.byref=false)(hp:nA h a=some (asv,h1))(hl:asv.length=F.nparams)(hd:F.isDet=false:=by rfl)(hO:qD F.results=false:=by rfl) :
 bA X f a h P=NW (bA X) X.gl F.body ⟨enter asv,h1,[]⟩ (oA F.results F.keep h.length P):=by
 rw[zq4 hf hr hp hl hd hO,QD]
theorem HN {X:Ctx}{f:Nat}{F:AFun}{a asv:List AV}{h h1:aA}{P:jA}(hf:X.fn f=some F)(hr:F.byref=false)(hp:nA h a=some (asv,h1))(hl:asv.length=F.nparams)(hd:F.isDet=true:=by rfl)(hO:qD F.results=false:=by rfl) :
 bA X f a h P = ∃v h' x,P v h' x/\NW (bA X) X.gl F.body ⟨enter asv,h1,[]⟩ (oA F.results F.keep h.length λv1 h1 x1=>v1=v/\h1=h'/\x1=x):=by
 rw[zq6 hf hr hp hl hd hO];simp only[QD]
theorem SF {X:Ctx}{f:Nat}{F:AFun}{asv:List AV}{h:aA}{P:jA}(hf:X.fn f=some F)(hr:F.byref=true)(hl:asv.length=F.nparams)(hd:F.isDet=false:=by rfl)(hO:qD F.results=false:=by rfl) :
 bA X f asv h P=NW (bA X) X.gl F.body ⟨enter asv,h,[]⟩ (oA F.results F.keep h.length P):=by
 rw[zq0 hf hr hl hd hO,QD]
theorem z50 {X:Ctx}{f:Nat}{F:AFun}{a asv:List AV}{h h1:aA}{P:jA}(hf:X.fn f=some F)(hr:F.byref=false)(hp:nA h a=some (asv,h1))(hl:asv.length=F.nparams)(hd:F.isDet=false:=by rfl)(hO:qD F.results=true:=by rfl) :
 bA X f a h P=NW (bA X) X.gl F.body ⟨enter asv,h1,[]⟩ (dG F.results h.length P):=by
 rw[zq5 hf hr hp hl hd hO,QD]
theorem zfK {X:Ctx}{f:Nat}{F:AFun}{a asv:List AV}{h h1:aA}{P:jA}(hf:X.fn f=some F)(hr:F.byref=false)(hp:nA h a=some (asv,h1))(hl:asv.length=F.nparams)(hd:F.isDet=true:=by rfl)(hO:qD F.results=true:=by rfl) :
 bA X f a h P = ∃v h' x,P v h' x/\NW (bA X) X.gl F.body ⟨enter asv,h1,[]⟩ (dG F.results h.length λv1 h1 x1=>v1=v/\h1=h'/\x1=x):=by
 rw[zq7 hf hr hp hl hd hO];simp only[QD]
theorem z9w {v:AV}{k:AV->Prop}:pK (some v) k=k v:=(rfl)
theorem z9v {k:AV->Prop}:pK none k=False:=(rfl)
theorem zbl {v:AV}{h:aA}{x:Esc}{k:AV->aA->Esc->Prop}:wK (some (v,h,x)) k=k v h x:=(rfl)
theorem zbj {k:AV->aA->Esc->Prop}:wK none k=False:=(rfl)
theorem zm5 {p:Prop}[Decidable p]{a b:Option AV}{k:AV->Prop}:pK (if p then a else b) k=if p then pK a k else pK b k:=by split <;> rfl
theorem zr2 {p:Prop}[Decidable p]{a b:Option (AV × aA × Esc)}{k:AV->aA->Esc->Prop}:wK (if p then a else b) k=if p then wK a k else wK b k:=by split <;> rfl
theorem zm4 {o o':Option AV}{k:AV->Prop}(h:o=o'):pK o k=pK o' k:=by rw[h]
theorem zr1 {o o':Option (AV × aA × Esc)}{k:AV->aA->Esc->Prop}(h:o=o'):wK o k=wK o' k:=by rw[h]
theorem zkj {v v':AV}{b:Bool}{h:aA}{A:(AV->aA->Esc->Prop)->Prop}{k:AV->aA->Esc->Prop}(h1:v=v'):gV v b h A k=gV v' b h A k:=by rw[h1]
theorem zki {v v':AV}{b:Bool}{o:Option AV}{h:aA}{k:AV->aA->Esc->Prop}(h1:v=v'):gP v b o h k=gP v' b o h k:=by rw[h1]
theorem zkg {v v':AV}{b:Bool}{u:AV}{h:aA}{k:AV->aA->Esc->Prop}(h1:v=v'):gM v b u h k=gM v' b u h k:=by rw[h1]
section
variable {A:(AV->aA->Esc->Prop)->Prop} {o:Option AV} {u:AV} {k:AV->aA->Esc->Prop} {t b:Bool}
theorem z8u:gV (.p (.bool true)) true h A k=A k:=(rfl)
theorem z8q:gV (.p (.bool false)) false h A k=A k:=(rfl)
theorem z8t:gV (.p (.bool true)) false h A k=k .skp h []:=(rfl)
theorem z8r:gV (.p (.bool false)) true h A k=k .skp h []:=(rfl)
theorem z8s:gV .skp b h A k=k .skp h []:=(rfl)
theorem z8p:gP (.p (.bool true)) true o h k=pK o λv=>k v h []:=(rfl)
theorem z8l:gP (.p (.bool false)) false o h k=pK o λv=>k v h []:=(rfl)
theorem z8o:gP (.p (.bool true)) false o h k=k .skp h []:=(rfl)
theorem z8m:gP (.p (.bool false)) true o h k=k .skp h []:=(rfl)
theorem z8n:gP .skp b o h k=k .skp h []:=(rfl)
theorem zkh:gP (.p (.bool t)) b o h k=tF (.p (.bool t)) b (pK o λv=>k v h []) (k .skp h []):=(rfl)
theorem z8k:gM (.p (.bool true)) true u h k=k u h []:=(rfl)
theorem z8g:gM (.p (.bool false)) false u h k=k u h []:=(rfl)
theorem z8j:gM (.p (.bool true)) false u h k=k .skp h []:=(rfl)
theorem z8h:gM (.p (.bool false)) true u h k=k .skp h []:=(rfl)
theorem z8i:gM .skp b u h k=k .skp h []:=(rfl)
theorem zkf:gM (.p (.bool t)) b u h k=tF (.p (.bool t)) b (k u h []) (k .skp h []):=(rfl)
end
section
variable {k k':IntKind} {a b:Int} {sa sb:List UInt8}
theorem zdP:zA .add (.p (.int k a)) (.p (.int k b))=some (.p (.int k (k.wrap (a+b)))):=by simp [zA,SB,CD]
theorem zec:zA .sub (.p (.int k a)) (.p (.int k b))=some (.p (.int k (k.wrap (a-b)))):=by simp [zA,SB,CD]
theorem zdW:zA .mul (.p (.int k a)) (.p (.int k b))=some (.p (.int k (k.wrap (a*b)))):=by simp [zA,SB,CD]
theorem zdZ:zA .quo (.p (.int k a)) (.p (.int k b))=if b=0 then none else some (.p (.int k (k.wrap (a.tdiv b)))):=by simp [zA,SB,CD] <;> split <;> rfl
theorem zea:zA .rem (.p (.int k a)) (.p (.int k b))=if b=0 then none else some (.p (.int k (a.tmod b))):=by simp [zA,SB,CD] <;> split <;> rfl
theorem zdQ:zA .and (.p (.int k a)) (.p (.int k b))=some (.p (.int k (xI k a b))):=by simp [zA,SB,CD]
theorem zdR:zA .eql (.p (.int k a)) (.p (.int k b))=some (.p (.bool (decide (a=b)))):=by simp [zA,SB,CD]
theorem zdX:zA .neq (.p (.int k a)) (.p (.int k b))=some (.p (.bool (!decide (a=b)))):=by simp [zA,SB,CD]
theorem zdV:zA .lss (.p (.int k a)) (.p (.int k b))=some (.p (.bool (decide (a<b)))):=by simp [zA,SB,CD]
theorem zdU:zA .leq (.p (.int k a)) (.p (.int k b))=some (.p (.bool (decide (a<=b)))):=by simp [zA,SB,CD]
theorem zdT:zA .gtr (.p (.int k a)) (.p (.int k b))=some (.p (.bool (decide (b<a)))):=by simp [zA,SB,CD]
theorem zdS:zA .geq (.p (.int k a)) (.p (.int k b))=some (.p (.bool (decide (b<=a)))):=by simp [zA,SB,CD]
theorem zeb:zA .shr (.p (.int k a)) (.p (.int k' b))=if b<0 then none else some (.p (.int k (IJ k a b))):=by simp [zA,SB] <;> split <;> rfl
theorem zqG:zA .add (.p (.str sa)) (.p (.str sb))=if sa.length+sb.length<=QA then some (.p (.str (sa++sb))) else none:=by simp [zA,SB,fJ] <;> split <;> rfl
theorem zqH:zA .eql (.p (.str sa)) (.p (.str sb))=some (.p (.bool (decide (sa=sb)))):=by simp [zA,SB,fJ]
theorem zqJ:zA .neq (.p (.str sa)) (.p (.str sb))=some (.p (.bool (!decide (sa=sb)))):=by simp [zA,SB,fJ]
theorem zrt {t:Bool}:oUn .not (.p (.bool t))=some (.p (.bool !t)):=(rfl)
theorem convI {k':IntKind}:PL k (.p (.int k' a))=some (.p (.int k (k.wrap a))):=(rfl)
theorem zms {i j:Nat}:iF (.ref i j)=some (.ref i j):=(rfl)
theorem zmt {i j m n:Nat}:iF (.rref i j m n)=some (.rref i j m n):=(rfl)
theorem znW {t:Bool}{u v:AV}:ZP (.p (.bool t)) u v=some (bif t then u else v):=(rfl)
theorem zlE {sh:Sh}{xs:List PV}:rH (.p (.sl sh xs))=some (.p (.int .i64 xs.length)):=(rfl)
theorem zlD {i g o l:Nat}:rH (.own i g o l)=some (.p (.int .i64 l)):=(rfl)
theorem zlG:KD (.p (.str sa))=some (.p (.int .i64 sa.length)):=(rfl)
theorem ext_t {vs:List AV}{i:Nat}:OJ (.tup vs) i=vs[i]?:=(rfl)
theorem zjL {off i j:Nat}{sh:Sh}:FA off sh (.ref i j)=some (.ref i (j+off)):=(rfl)
theorem zjM {off i j m n:Nat}{sh:Sh}:FA off sh (.rref i j m n)=some (.rref i j m (n+off)):=(rfl)
theorem zjS {off:Nat}{sh:Sh}{cs:List PV}:EI off sh (.p (.agg cs))=(rB sh off (.agg cs)).map .p:=(rfl)
def ldB (sh:Sh)(off:Nat):Option Obj->Option AV
 | some (.box cs)=>cut sh off cs
 | _=>none
def ldR (sh:Sh)(g i off:Nat):Option Obj->Option AV
 | some (.row _ xs _)=>if g=xs.length then((xs[i]?).bind (rB sh off)).map .p else none
 | _=>none
theorem zlL {sh:Sh}{i j:Nat}:AA sh (.ref i j) h=ldB sh j h[i]?:=by unfold AA ldB;rfl
theorem z8U {sh:Sh}{i g m n:Nat}:AA sh (.rref i g m n) h=ldR sh g m n h[i]?:=by unfold AA ldR;rfl
theorem z8V {sh:Sh}{v:PV}:AA sh (.vp v) h=(rB sh 0 v).map .p:=(rfl)
theorem zl5 {sh:Sh}{off:Nat}{cs:List AV}:ldB sh off (some (.box cs))=cut sh off cs:=(rfl)
theorem z8P {sh sh':Sh}{g i off fz:Nat}{xs:List PV}:ldR sh g i off (some (.row sh' xs fz))=if g=xs.length then((xs[i]?).bind (rB sh off)).map .p else none:=(rfl)
def stB (sh:Sh)(id off:Nat)(v:AV)(h:aA):Option Obj->Option (List AV)->Option (AV×aA×Esc)
 | some (.box cs),some vs=>if vs.length=gA sh/\off+vs.length<=cs.length then some (.und,h.set id (.box (splice cs off vs)),GD id cs v) else none
 | _,_=>none
theorem zqC {sh:Sh}{i j:Nat}{v:AV}:lB sh (.ref i j) v h=stB sh i j v h h[i]? v.cells:=by unfold lB stB;rfl
theorem zqv {sh:Sh}{id off:Nat}{v:AV}{cs vs:List AV}:stB sh id off v h (some (.box cs)) (some vs)=if vs.length=gA sh/\off+vs.length<=cs.length then some (.und,h.set id (.box (splice cs off vs)),GD id cs v) else none:=(rfl)
theorem zj4 {id:Nat}{cs:List AV}{v:AV}(h:eF cs=false):GD id cs v=rC id v:=by
 unfold GD;rw[h];rfl
theorem zkB {a:AV}{v:PV}:eF [a,.p v]=false:=(rfl)
theorem zk9 {a:AV}:eF [a]=false:=(rfl)
theorem zkA {a b c:AV}{l:List AV}:eF (a::b::c::l)=false:=by unfold eF;split <;> first|rfl|(rename_i h;simp at h)
theorem zj7 {id t n m:Nat}{a:AV}:GD id [a,.bt 1 t (id+1) n] (.ref id m)=[]:=by
 unfold GD;have e:decide (AV.top (.ref id m)<=AV.tops [a,.bt 1 t (id+1) n])=true:=by simp [AV.top,AV.tops];omega
 rw[e];rfl
theorem zj5 {id t t' i n n':Nat}{a:AV}:GD id [a,.bt 1 t i n] (.bt 1 t' i n')=[]:=by
 unfold GD;have e:decide (AV.top (.bt 1 t' i n')<=AV.tops [a,.bt 1 t i n])=true:=by simp [AV.top,AV.tops];omega
 rw[e];rfl
def stE (sh:Sh)(id i off fz:Nat)(rsh:Sh)(xs:List PV)(v:PV)(h1:aA):Option PV->Option (AV×aA×Esc)
 | some (.agg cs)=>if off+v.cells.length<=cs.length then some (.und,h1.set id (.row rsh (xs.set i (.agg (splice cs off v.cells))) fz),[]) else none
 | some _=>if off=0/\v.sc then some (.und,h1.set id (.row rsh (xs.set i v) fz),[]) else none
 | none=>none
def stO (sh:Sh)(id g i off:Nat)(v:PV)(h1:aA):Option Obj->Option (AV×aA×Esc)
 | some (.row rsh xs fz)=>if g=xs.length/\fz<=i/\v.cells.length=gA sh/\v.cells.all PV.sc then stE sh id i off fz rsh xs v h1 xs[i]? else none
 | _=>none
def stR (sh:Sh)(id g i off:Nat):Option (PV×aA)->Option (AV×aA×Esc)
 | some y=>stO sh id g i off y.1 y.2 y.2[id]?
 | none=>none
theorem zqD {sh:Sh}{id g i off:Nat}{x:AV}:lB sh (.rref id g i off) x h=stR sh id g i off (pur h x):=by
 unfold lB stR;cases pur h x with
 | none=>rfl
 | some y=>
  obtain⟨v,h1⟩:=y;dsimp only;unfold stO;cases h1[id]? with
  | none=>rfl
  | some o=>cases o <;> rfl
theorem zqy {sh:Sh}{id g i off:Nat}{v:PV}{h1:aA}:stR sh id g i off (some (v,h1))=stO sh id g i off v h1 h1[id]?:=(rfl)
theorem zqx {sh rsh:Sh}{id g i off fz:Nat}{v:PV}{h1:aA}{xs:List PV}:stO sh id g i off v h1 (some (.row rsh xs fz))=if g=xs.length/\fz<=i/\v.cells.length=gA sh/\v.cells.all PV.sc then stE sh id i off fz rsh xs v h1 xs[i]? else none:=(rfl)
theorem zqw {sh rsh:Sh}{id i off fz:Nat}{v:PV}{h1:aA}{xs cs:List PV}:stE sh id i off fz rsh xs v h1 (some (.agg cs))=if off+v.cells.length<=cs.length then some (.und,h1.set id (.row rsh (xs.set i (.agg (splice cs off v.cells))) fz),[]) else none:=(rfl)
def iaS (xs:List PV):Option Nat->Option AV
 | some k=>(xs[k]?).map .vp
 | none=>none
theorem zkx {sh:Sh}{xs:List PV}{i:AV}:VC sh (.p (.sl sh xs)) i h=iaS xs (sB i):=by
 unfold VC iaS;cases sB i <;> simp
theorem zkt {xs:List PV}{n:Nat}:iaS xs (some n)=(xs[n]?).map .vp:=(rfl)
def iaO (sh:Sh)(id g off len:Nat):Option Obj->Option Nat->Option AV
 | some (.row rsh xs _),some k=>if rsh=sh/\g=xs.length/\off+len<=xs.length/\k<len then some (.rref id g (off+k) 0) else none
 | _,_=>none
theorem zkw {sh:Sh}{id g off len:Nat}{i:AV}:VC sh (.own id g off len) i h=iaO sh id g off len h[id]? (sB i):=by
 unfold VC iaO;cases sB i with
 | none=>dsimp only;cases h[id]? with
  | none=>rfl
  | some o=>cases o <;> rfl
 | some k=>dsimp only;cases h[id]? with
  | none=>rfl
  | some o=>cases o <;> rfl
theorem zks {sh rsh:Sh}{id g off len k fz:Nat}{xs:List PV}:iaO sh id g off len (some (.row rsh xs fz)) (some k)=if rsh=sh/\g=xs.length/\off+len<=xs.length/\k<len then some (.rref id g (off+k) 0) else none:=(rfl)
theorem zk5 {i:AV}:QL (.p (.str sa)) i=(sB i).bind λn=>(sa[n]?).map λb=>.p (.int .u8 b.toNat):=by
 unfold QL;cases sB i <;> rfl
end
theorem z4R {z:List AV}{k:AV->aA->Esc->Prop}:alK z h k=k (.ref h.length 0) (h++[.box z]) []:=(rfl)
theorem z9n {sh:Sh}{k:AV->aA->Esc->Prop}:nwK sh h k=k (.own h.length 0 0 0) (h++[.row sh [] 0]) []:=(rfl)
theorem z9e {k:AV->aA->Esc->Prop}:mmK h k=k (.mp h.length) (h++[.amap [] 0]) []:=(rfl)
theorem zgl {A B:Prop}:ON (.p (.bool false)) A B=B:=(rfl)
theorem zgk {A B:Prop}:ON .anyb A B=(A/\B):=(rfl)
theorem zoM {t:Nat}{h:aA}:dB t [] h=([],h):=(rfl)
theorem zoO {h:aA}{s:Sh}{r:List AV}:dB 0 (.sl0 s::r) h=(.own h.length 0 0 0::(dB 0 r (h++[.row s [] 0])).1,(dB 0 r (h++[.row s [] 0])).2):=(rfl)
theorem zoK {h:aA}{r:List AV}:dB 1 (.sl0 none::r) h=(.bt 3 0 h.length 0::(dB 1 r (h++[.arow none []])).1,(dB 1 r (h++[.arow none []])).2):=(rfl)
theorem zoN {t:Nat}{h:aA}{v:PV}{r:List AV}:dB t (.p v::r) h=(.p v::(dB t r h).1,(dB t r h).2):=(rfl)
theorem zoL {t:Nat}{h:aA}{i:Nat}{r:List AV}:dB t (.mp i::r) h=(.mp i::(dB t r h).1,(dB t r h).2):=(rfl)
attribute [go_sem] zoM zoO zoK zoN zoL
def ldAr (sh:Sh)(off g:Nat):Option Obj->Option AV
 | some (.arow rsh cs)=>if g*gA rsh=cs.length then cut sh off cs else none
 | _=>none
theorem zlJ {sh:Sh}{off id g:Nat}:AA sh (.bt 4 off id g) h=ldAr sh off g h[id]?:=by
 show ldA sh 4 off id g h=_
 unfold ldA ldAr;rfl
theorem zl4 {sh rsh:Sh}{off g:Nat}{cs:List AV}:ldAr sh off g (some (.arow rsh cs))=if g*gA rsh=cs.length then cut sh off cs else none:=(rfl)
def iaAr (sh:Sh)(id g:Nat):Option Obj->Option Nat->Option AV
 | some (.arow rsh cs),some i=>if rsh=sh/\g*gA rsh=cs.length/\i<g then some (.bt 4 (i*gA sh) id g) else none
 | _,_=>none
theorem zku {sh:Sh}{t id g:Nat}{i:AV}:VC sh (.bt 3 t id g) i h=iaAr sh id g h[id]? (sB i):=by
 unfold VC iaAr;cases sB i with
 | none=>cases h[id]? with
  | none=>rfl
  | some o=>cases o <;> rfl
 | some k=>
  show iaA sh 3 id g k h=_
  unfold iaA;cases h[id]? with
  | none=>rfl
  | some o=>cases o <;> rfl
theorem zkr {sh rsh:Sh}{id g i:Nat}{cs:List AV}:iaAr sh id g (some (.arow rsh cs)) (some i)=if rsh=sh/\g*gA rsh=cs.length/\i<g then some (.bt 4 (i*gA sh) id g) else none:=(rfl)
theorem zlB {t id g:Nat}:rH (.bt 3 t id g)=some (.p (.int .i64 g)):=(rfl)
def apAr (sh:Sh)(h:aA)(t id g g':Nat):Option Obj->Option Obj->Option (AV×aA×Esc)
 | some (.arow rsh cs),some (.arow rsh' ds)=>if rsh=sh/\rsh'=sh/\g*gA sh=cs.length/\g'*gA sh=ds.length/\g+g'<=LA then
  some (.bt 3 t id (g+g'),h.set id (.arow sh (cs++ds)),bif decide (id<AV.tops ds) then [(id,AV.tops ds)] else []) else none
 | _,_=>none
theorem zdx {sh:Sh}{t id g t' id' g':Nat}:apA sh h (.bt 3 t id g) (.bt 3 t' id' g')=apAr sh h t id g g' h[id]? h[id']?:=by
 show(match h[id]?,h[id']? with|_,_=>_)=_
 unfold apAr;rfl
theorem zdz {sh rsh rsh':Sh}{t id g g':Nat}{cs ds:List AV}:apAr sh h t id g g' (some (.arow rsh cs)) (some (.arow rsh' ds))=if rsh=sh/\rsh'=sh/\g*gA sh=cs.length/\g'*gA sh=ds.length/\g+g'<=LA then
 some (.bt 3 t id (g+g'),h.set id (.arow sh (cs++ds)),bif decide (id<AV.tops ds) then [(id,AV.tops ds)] else []) else none:=(rfl)
theorem zgu:aC 0=none:=(rfl)
attribute [go_sem] zlJ zl4 zku zkr zlB zdx zdz zgu
attribute [go_sem] zaG zaH z5m z5o z5n qG z9w z9v zbl zbj zm5 zr2 z8u z8q z8t z8r z8s z8p z8l z8o z8m z8n z8k z8g z8j z8h z8i zdP zec zdW zdZ zea zdQ zdR zdX zdV zdU zdT zdS zeb zqG zqH zqJ zrt convI zms zmt znW zlE zlD zlG ext_t zjL zjM zjS zlL z8U z8V zl5 z8P zqC zqv zqD zqy zqx zqw zj4 zkB zk9 zkA zj7 zj5 zkx zkt zkw zks zk5 z4R z9n z9e DB mK tK KJ SP n64 aI BH JH rds rd OL lC FP UC GP SA WP gG zgl zgk NJ aU GG LE bU iE aQ QJ PJ FI NL YT oClr oMx oMn FB LB YP VP ZT XP SL RL
attribute [go_sem ↓] z9w z9v zbl zbj z8u z8q z8t z8r z8s z8p z8l z8o z8m z8n z8k z8g z8j z8h z8i z5O z5N zaG zaH z5m z5o z5n z4R z9n z9e z8Z z8Y z9a zaE z7O z7P z7Q
attribute [go_sem low] zkh zkf
attribute [congr] zbY zbX zm4 zr1 zkj zki zkg
end
section
variable {P:Program}
structure ExtRow (P:Program) (f:Nat) (e:Array Value->Sem Value):Prop where
 row:∃fn,P.funcs[f]?=some fn∧fn.name ≠ "runtime.NumGoroutine" ∧ fn.body=none∧Extern.findNext fn=none∧Extern.find fn=some e
theorem ExtRow.run {f:Nat}{e:Array Value->Sem Value}(R:ExtRow P f e){us:Array Value}{w w':World}{x:Value}(he:(e us).run P w = .ok x w'):(callFunc f us).run P w = .ok (.value x) w':=by
 obtain⟨fn,h1,h2,h3,h4,h5⟩:=R.row;unfold callFunc;simp [h1,h2,h3,h4,h5,he]
theorem ztl {f:Nat}{e:Array Value→Sem Value}(h:(match P.funcs[f]? with | some fn=>fn.name != "runtime.NumGoroutine" && fn.body.isNone&&(Extern.findNext fn).isNone | none=>false)=true)(h2:(P.funcs[f]?).bind Extern.find=some e):ExtRow P f e:=by
 cases hf:P.funcs[f]? with
 | none=>rw[hf]at h;cases h
 | some fn=>
  rw[hf]at h h2;simp only[Bool.and_eq_true,bne_iff_ne,ne_eq,Option.isNone_iff_eq_none]at h;exact⟨⟨fn,hf,h.1.1,h.1.2,h.2,h2⟩⟩
def sD (s:List UInt8)(c:UInt8):Int:=if s.findIdx (· == c)<s.length then(s.findIdx (· == c):Int) else -1
def VG:List UInt8->List UInt8->Int
 | [],[]=>0
 | [],_::_=>-1
 | _::_,[]=>1
 | a::asv,b::bs=>if a<b then -1 else if b<a then 1 else VG asv bs
theorem z5i (s:List UInt8)(i:Nat):(⟨s.toArray⟩:ByteArray)[i]! = s.getD i 0:=by
 by_cases h:i<s.length
 ·rw[getElem!_pos (⟨s.toArray⟩:ByteArray) i h]
  show s.toArray[i]=_
  simp [h]
 ·rw[getElem!_neg (⟨s.toArray⟩:ByteArray) i h]
  simp [Nat.not_lt.1 h];rfl
theorem zjU (s:List UInt8)(c:UInt8):(match (List.range (⟨s.toArray⟩:ByteArray).size).find? λi=>(⟨s.toArray⟩:ByteArray)[i]! == c with
 | some i=>(i:Int)
 | none=>-1)=sD s c:=by
 have hsz:(⟨s.toArray⟩:ByteArray).size=s.length:=rfl
 have hget:∀i,i<s.length->(⟨s.toArray⟩:ByteArray)[i]! = s.getD i 0:=by
  intro i hi;exact z5i s i
 unfold sD;rw[hsz];by_cases h:s.findIdx (· == c)<s.length
 ·rw[if_pos h]
  have hf:(List.range s.length).find? (λi=>(⟨s.toArray⟩:ByteArray)[i]! == c)=some (s.findIdx (· == c)):=by
   rw[List.find?_eq_some_iff_getElem];refine⟨?_,s.findIdx (· == c),by simpa using h,by simp,λj hj=>?_⟩
   ·rw[hget _ h]
    have:=List.findIdx_getElem (w:=h);simpa [h] using this
   ·simp only[List.getElem_range]
    have hj':j<s.length:=by omega
    rw[hget _ hj'];have:=List.not_of_lt_findIdx hj;simpa [hj'] using this
  rw[hf]
 ·rw[if_neg h]
  have hf:(List.range s.length).find? (λi=>(⟨s.toArray⟩:ByteArray)[i]! == c)=none:=by
   rw[List.find?_eq_none];intro i hi;rw[List.mem_range]at hi;rw[hget _ hi];intro hc;exact h (List.findIdx_lt_length_of_exists ⟨s[i],List.getElem_mem hi,by simpa [hi] using hc⟩)
  rw[hf]
theorem zgh:∀ (a b:List UInt8),Extern.BytealgCompare.cmp ⟨a.toArray⟩ ⟨b.toArray⟩=VG a b:=by
 have key:∀(a b:List UInt8),(match (List.range (min a.length b.length)).find? λi=>a.getD i 0 != b.getD i 0 with
  | some i=>if a.getD i 0<b.getD i 0 then(-1:Int) else 1
  | none=>if a.length<b.length then -1 else if a.length>b.length then 1 else 0)=VG a b:=by
  intro a;induction a with
  | nil=>intro b;cases b <;> simp [VG]
  | cons x a ih=>
   intro b;cases b with
   | nil=>simp [VG]
   | cons y b=>
    have hm:min (x::a).length (y::b).length=min a.length b.length+1:=by simp only[List.length_cons];omega
    rw[hm,List.range_succ_eq_map,List.find?_cons];simp only[List.getD_cons_zero];by_cases hxy:x=y
    ·subst hxy
     have hlt:¬x<x:=UInt8.lt_irrefl x
     simp only[bne_self_eq_false,List.find?_map,VG,hlt,if_false];rw[<-ih b];have hc:((λi=>(x::a).getD i 0 != (x::b).getD i 0) ∘ Nat.succ)=λi=>a.getD i 0 != b.getD i 0:=by
      funext i;simp
     rw[hc];cases (List.range (min a.length b.length)).find? λi=>a.getD i 0 != b.getD i 0 with
     | none=>simp
     | some i=>simp
    ·have:(x != y)=true:=by simpa using hxy
     rw[this];simp only[VG,List.getD_cons_zero];by_cases h1:x<y
     ·simp [h1]
     ·have h2:y<x:=by
       rcases UInt8.lt_or_lt_of_ne (a:=x) (b:=y) hxy with h|h
       ·exact absurd h h1
       ·exact h
      simp [h1,h2]
 intro a b;rw[<-key a b];unfold Extern.BytealgCompare.cmp;have sa:(⟨a.toArray⟩:ByteArray).size=a.length:=rfl
 have sb:(⟨b.toArray⟩:ByteArray).size=b.length:=rfl
 simp only[sa,sb,z5i];generalize List.find? _ _=q;cases q <;> rfl
def lL (fi fc:Nat)(f:Nat)(vs:List PV):Option PV:=
 bif Nat.beq f fi then(match vs with
  | [.str s,.int .u8 c]=>some (.int .i64 (sD s (UInt8.ofNat c.toNat)))
  | _=>none)
 else bif Nat.beq f fc then(match vs with
  | [.str a,.str b]=>some (.int .i64 (VG a b))
  | _=>none)
 else none
theorem extF_ok {fi fc:Nat}(h1:ExtRow P fi Extern.BytealgIndexByte.indexByte)(h2:ExtRow P fc Extern.BytealgCompare.compare){f:Nat}{vs:List PV}{r:PV}(h:lL fi fc f vs=some r):z4z P f vs r:=by
 intro M w us hM hl hr;unfold lL at h;cases e1:Nat.beq f fi with
 | true=>
  rw[e1]at h;have e:=Nat.eq_of_beq_eq_true e1
  subst e;simp only[cond_true]at h;split at h
  ·rename_i s c
   injection h with h
   subst h;match us,hl with
   | [u,v],_=>
    have q1:=hr 0 _ u rfl rfl
    have q2:=hr 1 _ v rfl rfl
    cases q1;cases q2
    refine⟨.int .i64 (sD s (UInt8.ofNat c.toNat)),w,h1.run ?_,WExt.refl w,.int _ _⟩;rw[<-zjU];show(match (List.range (⟨s.toArray⟩:ByteArray).size).find? λi=>(⟨s.toArray⟩:ByteArray)[i]! == UInt8.ofNat c.toNat with|some i=>(pure (goInt i):Sem Value)|none=>pure (goInt (-1))).run P w=_
    generalize List.find? _ _=q;cases q <;> rfl
  ·cases h
 | false=>
  rw[e1]at h;simp only[cond_false]at h;cases e2:Nat.beq f fc with
  | true=>
   rw[e2]at h;have e:=Nat.eq_of_beq_eq_true e2
   subst e;simp only[cond_true]at h;split at h
   ·rename_i a b
    injection h with h
    subst h;match us,hl with
    | [u,v],_=>
     have q1:=hr 0 _ u rfl rfl
     have q2:=hr 1 _ v rfl rfl
     cases q1;cases q2
     refine⟨.int .i64 (VG a b),w,h2.run ?_,WExt.refl w,.int _ _⟩;rw[<-zgh];rfl
   ·cases h
  | false=>rw[e2]at h;cases h
theorem zjE {X:Ctx}{f:Nat}{asv:List AV}{vs:List PV}{h h1:aA}{r:PV}{K:jA}(hf:X.fn f=none)(h2:X.ex2 f asv h=none)(hp:nA h asv=some (vs.map .p,h1))(hu:unp (vs.map AV.p)=some vs)(hx:X.ext f vs=some r):bA X f asv h K=K (.p r) h1 []:=by
 refine propext (bA.eq (bA.fold ?_) K);unfold ZB;simp only[hf,h2,hp,hu,hx];exact⟨trivial,trivial,trivial⟩
structure GrowRow (P:Program) (f:Nat) (sh:Sh):Prop where
 enter:∀us w,(callFunc f us).run P w = .ok (.enter f us) w
 room:∀a w,Calls P f #[.slice a 0 0,.int .i64 0] w λe w'=>e = .returned (.slice a 0 0)/\w'=w
 grow:∀a (n:Nat) w,0<n->n<=1048576->Calls P f #[.slice a 0 0,.int .i64 n] w λe w'=>∃G cs E,e = .returned (.slice (some ⟨w.heap.size,0,none⟩) 0 G)/\cs.size=G*gA sh/\w'=w.drew.alloc (.cells cs E)
def pH:List (Nat × Sh)->Nat->List AV->aA->Option (AV × aA × Esc)
 | [],_,_,_=>none
 | (g,sh)::r,f,asv,h=>bif Nat.beq f g then(match asv with
  | [.sl0 _,.p (.int .i64 n)]=>bif decide (0<=n)&&decide (n<=1048576) then some (.own h.length 0 0 0,h++[.row sh [] 0],[]) else none
  | _=>none) else pH r f asv h
theorem z8A {gl:Nat->Option PV}:∀(gs:List (Nat×Sh)),(∀g sh,(g,sh)∈gs->GrowRow P g sh)->∀{f:Nat} {asv:List AV} {h:aA} {v:AV} {h':aA} {x:Esc},pH gs f asv h=some (v,h',x) ->
 MC P gl f asv h λv1 h1 x1=>v1=v/\h1=h'/\x1=x
 | [],_,f,asv,h,v,h',x,H=>by cases H
 | (g,sh)::r,hg,f,asv,h,v,h',x,H=>by
  unfold pH at H;cases e1:Nat.beq f g with
  | false=>
   rw[e1]at H;exact z8A r (λg sh hm=>hg g sh (by simp [hm])) H
  | true=>
   rw[e1]at H;have e:=Nat.eq_of_beq_eq_true e1
   subst e;have R:=hg f sh (by simp)
   simp only[cond_true]at H;split at H
   ·rename_i sh' n
    cases hb:(decide (0<=n)&&decide (n<=1048576)) with
    | false=>rw[hb]at H;cases H
    | true=>
     rw[hb]at H;simp only[cond_true,Option.some.injEq,Prod.mk.injEq]at H;obtain⟨rfl,rfl,rfl⟩:=H;simp only[Bool.and_eq_true,decide_eq_true_eq]at hb;intro μ w vs Hh Hg hl hr;match vs,hl with
     | [u1,u2],_=>
      have q1:=hr 0 _ u1 rfl rfl
      have q2:=(hr 1 _ u2 rfl rfl).p_inv
      cases q1;cases q2
      obtain⟨m,hm⟩:=Int.eq_ofNat_of_zero_le hb.1;subst hm;refine .inl ⟨R.enter _,?_⟩;rcases Nat.eq_zero_or_pos m with h0|h0
      ·subst h0
       refine(R.room _ w).mono λe w' he=>?_
       obtain⟨rfl,rfl⟩:=he;obtain⟨n1,n2⟩:=UP Hh sh;refine⟨_,_,_,_,⟨rfl,rfl,rfl⟩,?_,n1,n2,rA.push (by simp [Obj.top])⟩
       exact .own h.length 0 0 0 _ 0 sh [] 0 none (Nat.le_refl _) (by simp) (by rw[<-Hh.len];simp) (by simp) (by simp) (λ_=>rfl)
      ·refine(R.grow _ m w h0 (by omega)).mono λe w' he=>?_
       obtain⟨G,cs,E,rfl,hcs,rfl⟩:=he;have hw:WExt w (w.drew.alloc (.cells cs E)):=(WExt.drew w _).trans (WExt.push _ _)
       obtain⟨n1,n2⟩:=LJ (sh:=sh) (xs:=[]) Hh hw (b:=w.heap.size) (n:=cs.size) (Nat.le_refl _) (by show w.heap.size<(w.heap.push _).size;simp) (c:=cs) (gB.push (w:=w.drew) cs E) (by simp) (by simp) (by simp)
       refine⟨_,_,_,_,⟨rfl,rfl,rfl⟩,?_,n1,n2,rA.push (by simp [Obj.top])⟩
       refine .own h.length 0 0 0 _ G sh [] 0 (some (w.heap.size,cs.size)) (Nat.zero_le _) (by simp) (by rw[<-Hh.len];simp) (by simp) (by simp) (λ_=>?_)
       exact .inr ⟨by simp,by simp [hcs]⟩
   ·cases H
end
instance {n:Nat}:OfNat Opd n:=⟨.t n⟩
abbrev GL:=Nat->Option PV
abbrev KT:=Ex->St->Prop
def cI (n:Int):Opd:=.c (.p (.int .i64 n))
def cT:Opd:=.c (.p (.bool true))
def cF:Opd:=.c (.p (.bool false))
def cS (s:List UInt8):Opd:=.c (.p (.str s))
def uO (d:Nat)(o:AO):AOp:=⟨some d,none,o⟩
def wO (o:AO):AOp:=⟨none,none,o⟩
def gD (d g:Nat)(b:Bool)(o:AO):AOp:=⟨some d,some (g,b),o⟩
def mV (d:Nat)(x:Opd):AOp:=⟨some d,none,.mv x⟩
def bN (d:Nat)(b:BinOp)(x y:Opd):AOp:=⟨some d,none,.bin b x y⟩
def cL (d f:Nat)(l:List Opd):AOp:=⟨some d,none,.call f l⟩
def lD (d:Nat)(s:Sh)(x:Opd):AOp:=⟨some d,none,.load s x⟩
def iA (d:Nat)(s:Sh)(x y:Opd):AOp:=⟨some d,none,.iaddr s x y⟩
def fA (d o:Nat)(s:Sh)(x:Opd):AOp:=⟨some d,none,.faddr o s x⟩
def sT (d:Nat)(s:Sh)(x y:Opd):AOp:=⟨some d,none,.store s x y⟩
def lN (d:Nat)(x:Opd):AOp:=⟨some d,none,.len x⟩
def eX (d:Nat)(x:Opd)(i:Nat):AOp:=⟨some d,none,.ext x i⟩
def dF (o:AOp)(l:List Nat):DOp:=⟨o,l,false,[],[]⟩
def dT (o:AOp)(l:List Nat):DOp:=⟨o,l,true,[],[]⟩
def dA (o:AOp)(l:List Nat)(e:Bool)(a b:List Nat):DOp:=⟨o,l,e,a,b⟩
def rg (l:List AOp)(k:List Nat):ACode:=.reg l (some k)
def dr (l:List DOp)(k:List Nat):ACode:=.draw l (some k)
end Go.Am
