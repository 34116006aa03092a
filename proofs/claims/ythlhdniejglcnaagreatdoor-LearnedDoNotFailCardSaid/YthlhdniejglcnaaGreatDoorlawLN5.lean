/- Texts of the proof, laid together: AmW, CodesA, CodesB. -/
import Derived.KernelRfl
import Derived.Test.YthlhdniejglcnaaGreatDoorlawLN4
set_option linter.all false
section
/- A function's formula,computed out of its code. -/
set_option linter.all false
namespace Go.Am
abbrev En:=List (Nat × AV)
variable {C:Hd} {gl:Nat→Option PV} {e:En} {h h':aA} {x y:Esc} {K:Ex→St→Prop} {s:St} {L:En→aA→Esc→Prop} {k:AV→aA→Esc→Prop} {ev:Opd→AV} {r:List AOp} {q:List DOp} {dn:aD} {hs:List aA} {Q:Prop}
abbrev Sf (C:Hd)(gl:Nat→Option PV)(c:ACode)(e:En)(h:aA)(x:Esc)(K:Ex→St→Prop):Type:={P:Prop // NW C gl c ⟨e,h,x⟩ K=P}
def gO (G:AO→(Opd→AV)→aA→(AV→aA→Esc→Prop)→Prop)(t:AV)(g:Bool)(o:AO)(ev:Opd→AV)(h:aA)(k:AV→aA→Esc→Prop):Prop:=gV t g h (G o ev h) k
theorem agetB {e:En}{n m:Nat}{v:AV}:gA ((n,v)::e) m=match Nat.beq n m with|true=>v|false=>gA e m:=by
 show(if n=m then v else gA e m)=_
 cases hb:Nat.beq n m with
 | true=>rw[if_pos (Nat.eq_of_beq_eq_true hb)]
 | false=>rw[if_neg (Nat.ne_of_beq_eq_false hb)]
theorem wA:(∀ {C:Hd} {gl:GL} {e:En} {h:aA} {x:Esc} {K:KT} {l:List Nat} {b:ACode},NW C gl (.pr l b) ⟨e,h,x⟩ K=NW C gl b ⟨MA (some l) e,h,x⟩ K) ∧
 (∀{C:Hd} {gl:GL} {K:KT} {s:St} {a b:ACode},NW C gl (.seq a b) s K=NW C gl a s (xD C gl b K)) ∧
 (∀{C:Hd} {gl:GL} {K:KT} {s:St} {i:Nat} {b:ACode},NW C gl (.block i b) s K=NW C gl b s (tC i K)) ∧
 (∀{C:Hd} {gl:GL} {e:En} {h:aA} {x:Esc} {K:KT} {c:Opd} {a b:ACode},NW C gl (.cond c a b) ⟨e,h,x⟩ K=YA (Opd.ev gl e c) (NW C gl a ⟨e,h,x⟩ K) (NW C gl b ⟨e,h,x⟩ K)) ∧
 (∀{C:Hd} {gl:GL} {e:En} {h:aA} {x:Esc} {K:KT} {c:Opd} {a b:ACode},NW C gl (.condu c a b) ⟨e,h,x⟩ K=qN (Opd.ev gl e c) (NW C gl a ⟨e,h,x⟩ K) (NW C gl b ⟨e,h,x⟩ K)) ∧
 (∀{C:Hd} {gl:GL} {K:KT} {s:St} {b:ACode},NW C gl (.det b) s K=NW C gl b s K) ∧
 (∀{C:Hd} {gl:GL} {K:KT} {s:St},NW C gl .skip s K=K .normal s) ∧
 (∀{C:Hd} {gl:GL} {K:KT} {s:St} {i:Nat},NW C gl (.exit i) s K=K (.exit i) s) ∧
 (∀{C:Hd} {gl:GL} {K:KT} {s:St},NW C gl .ret s K=K .ret s) ∧
 (∀{C:Hd} {gl:GL} {K:KT} {s:St},NW C gl .bad s K=False) ∧
 (∀{C:Hd} {gl:GL} {e:En} {h:aA} {x:Esc} {K:KT} {l:List AOp} {o:List Nat},NW C gl (.reg l (some o)) ⟨e,h,x⟩ K=kF C gl l e h x fun e h x=>K .normal ⟨MA (some o) e,h,x⟩) ∧
 (∀{C:Hd} {gl:GL} {e:En} {h:aA} {x:Esc} {K:KT} {l:List AOp},NW C gl (.reg l none) ⟨e,h,x⟩ K=kF C gl l e h x fun e h x=>K .normal ⟨e,h,x⟩) ∧
 (∀{C:Hd} {gl:GL} {e:En} {h:aA} {x:Esc} {K:KT} {l:List DOp} {o:List Nat},NW C gl (.draw l (some o)) ⟨e,h,x⟩ K=LE C gl l [] [] e h x fun e h x=>K .normal ⟨MA (some o) e,h,x⟩) ∧
 (∀{C:Hd} {gl:GL} {e:En} {h:aA} {x:Esc} {K:KT} {l:List DOp},NW C gl (.draw l none) ⟨e,h,x⟩ K=LE C gl l [] [] e h x fun e h x=>K .normal ⟨e,h,x⟩) ∧
 (∀{C:Hd} {gl:GL} {e:En} {h:aA} {x:Esc} {L:En→aA→Esc→Prop},kF C gl [] e h x L=L e h x) ∧
 (∀{C:Hd} {gl:GL} {e:En} {h:aA} {x:Esc} {L:En→aA→Esc→Prop} {r:List AOp} {d:Option Nat} {o:AO},kF C gl (⟨d,none,o⟩::r) e h x L=opC C o (Opd.ev gl e) h fun v h' x'=>kF C gl r (put d v e) h' (x'++x) L) ∧
 (∀{C:Hd} {gl:GL} {e:En} {h:aA} {x:Esc} {L:En→aA→Esc→Prop} {r:List AOp} {d:Option Nat} {t:Nat} {b:Bool} {o:AO},kF C gl (⟨d,some (t,b),o⟩::r) e h x L=gO (opC C) (gA e t) b o (Opd.ev gl e) h fun v h' x'=>kF C gl r (put d v e) h' (x'++x) L) ∧
 (∀{C:Hd} {gl:GL} {e:En} {h:aA} {x:Esc} {L:En→aA→Esc→Prop} {dn:aD} {hs:List aA},LE C gl [] dn hs e h x L=L e h x) ∧
 (∀{C:Hd} {gl:GL} {e:En} {h:aA} {x:Esc} {L:En→aA→Esc→Prop} {q:List DOp} {dn:aD} {hs:List aA} {d:Option Nat} {o:AO} {rd a b:List Nat} {f:Bool},LE C gl (⟨⟨d,none,o⟩,rd,f,a,b⟩::q) dn hs e h x L=opE C o (Opd.ev gl (MA (some rd) e)) h fun v h' y=>
  BH o.still f h h' y (XE C gl ⟨d,none,o⟩ (MA (some rd) e) v hs (NE C gl h' dn (LE C gl q (dn++[(⟨d,none,o⟩,MA (some rd) e,v)]) (hs++[h]) (put d v e) h' (y++x) L) b) a)) ∧
 (∀{C:Hd} {gl:GL} {e:En} {h:aA} {x:Esc} {L:En→aA→Esc→Prop} {q:List DOp} {dn:aD} {hs:List aA} {d:Option Nat} {t:Nat} {g:Bool} {o:AO} {rd a b:List Nat} {f:Bool},LE C gl (⟨⟨d,some (t,g),o⟩,rd,f,a,b⟩::q) dn hs e h x L=gO (opE C) (gA (MA (some rd) e) t) g o (Opd.ev gl (MA (some rd) e)) h fun v h' y=>
  BH o.still f h h' y (XE C gl ⟨d,some (t,g),o⟩ (MA (some rd) e) v hs (NE C gl h' dn (LE C gl q (dn++[(⟨d,some (t,g),o⟩,MA (some rd) e,v)]) (hs++[h]) (put d v e) h' (y++x) L) b) a)) ∧
 (∀{h':aA} {h:aA} {y:Esc} {Q:Prop} {b:Bool},BH b true h h' y Q=Q) ∧
 (∀{h':aA} {h:aA} {y:Esc} {Q:Prop},BH true false h h' y Q=Q) ∧
 (∀{h':aA} {h:aA} {y:Esc} {Q:Prop},BH false false h h' y Q=((h'=h∧y=[])∧Q)) ∧
 (∀{C:Hd} {gl:GL} {h:aA} {dn:aD} {Q:Prop},NE C gl h dn Q []=Q) ∧
 (∀{C:Hd} {gl:GL} {h:aA} {dn:aD} {Q:Prop} {j:Nat} {l:List Nat},NE C gl h dn Q (j::l)=((match dn[j]? with|some q=>SJ C gl q h|none=>False)∧NE C gl h dn Q l)) ∧
 (∀{C:Hd} {gl:GL} {e:En} {hs:List aA} {Q:Prop} {o:AOp} {v:AV},XE C gl o e v hs Q []=Q) ∧
 (∀{C:Hd} {gl:GL} {e:En} {hs:List aA} {Q:Prop} {o:AOp} {v:AV} {j:Nat} {l:List Nat},XE C gl o e v hs Q (j::l)=((match hs[j]? with|some g=>SJ C gl (o,e,v) g|none=>False)∧XE C gl o e v hs Q l)) ∧
 (∀{C:Hd} {gl:GL} {e:En} {d:Option Nat} {o:AO} {v:AV} {g:aA},SJ C gl (⟨d,none,o⟩,e,v) g=opE C o (Opd.ev gl e) g fun v1 h1 x1=>v1=v∧h1=g∧x1=[]) ∧
 (∀{C:Hd} {gl:GL} {e:En} {d:Option Nat} {t:Nat} {b:Bool} {o:AO} {v:AV} {g:aA},SJ C gl (⟨d,some (t,b),o⟩,e,v) g=gO (opE C) (gA e t) b o (Opd.ev gl e) g fun v1 h1 x1=>v1=v∧h1=g∧x1=[]) ∧
 (∀{e:En} {d:Nat} {v:AV},put (some d) v e=(d,v)::e) ∧
 (∀{e:En} {v:AV},put none v e=e) ∧
 (∀{e:En} {n:Nat} {l:List Nat},MA (some (n::l)) e=(n,gA e n)::MA (some l) e) ∧
 (∀{e:En},MA (some []) e=[]) ∧
 (∀{e:En} {n m:Nat} {v:AV},gA ((n,v)::e) m=match Nat.beq n m with|true=>v|false=>gA e m) ∧
 (∀{gl:GL} {e:En} {n:Nat},Opd.ev gl e (.t n)=gA e n) ∧
 (∀{gl:GL} {e:En} {v:AV},Opd.ev gl e (.c v)=v) ∧
 (∀{gl:GL} {e:En} {n:Nat},Opd.ev gl e (.f n) = .fn n []) ∧
 (∀{gl:GL} {e:En} {n:Nat},Opd.ev gl e (.g n)=gv gl n) ∧
 (∀{n:Nat},(OfNat.ofNat n:Opd) = .t n) ∧
 (∀{C:Hd} {h:aA} {k:AV→aA→Esc→Prop} {ev:Opd→AV} {a:Opd},opC C (.mnext none [a]) ev h k=nxK (ev a) h k) ∧
 (∀{C:Hd} {h:aA} {k:AV→aA→Esc→Prop} {ev:Opd→AV} {sh:Sh} {l:List Opd},opC C (.mnext (some sh) l) ev h k=nqK (some sh) (ev1 ev l) h k) ∧
 (∀{C:Hd} {h:aA} {k:AV→aA→Esc→Prop} {ev:Opd→AV} {f:Nat} {a:List Opd},opC C (.call f a) ev h k=C f (ev1 ev a) h k) ∧
 (∀{C:Hd} {h:aA} {k:AV→aA→Esc→Prop} {ev:Opd→AV} {f:Opd} {a:List Opd},opC C (.callv f a) ev h k=pH C (ev f) (ev1 ev a) h k) ∧
 (∀{C:Hd} {h:aA} {k:AV→aA→Esc→Prop} {ev:Opd→AV} {f:Nat} {a:List Opd},opE C (.call f a) ev h k=bC C f (ev1 ev a) h k) ∧
 (∀{C:Hd} {h:aA} {k:AV→aA→Esc→Prop} {ev:Opd→AV} {f:Opd} {a:List Opd},opE C (.callv f a) ev h k=jN C (ev f) (ev1 ev a) h k) ∧
 (∀{ev:Opd→AV},ev1 ev []=[]) ∧
 (∀{ev:Opd→AV} {a:Opd} {l:List Opd},ev1 ev (a::l)=ev a::ev1 ev l) ∧
 (∀{ev:Opd→AV},ev2 ev []=[]) ∧
 (∀{ev:Opd→AV} {n:Nat} {a:Opd} {l:List (Nat×Opd)},ev2 ev ((n,a)::l)=(n,ev a)::ev2 ev l) ∧
 (∀{ev:Opd→AV},ev3 ev []=[]) ∧
 (∀{ev:Opd→AV} {n m:Nat} {a:Opd} {l:List (Nat×Nat×Opd)},ev3 ev ((n,m,a)::l)=(n,m,ev a)::ev3 ev l) ∧
 (∀{ev:Opd→AV},evO ev none=none) ∧
 (∀{ev:Opd→AV} {a:Opd},evO ev (some a)=some (ev a)):=
 ⟨(by intros;rfl),(by intros;rfl),(by intros;rfl),(by intros;rfl),(by intros;rfl),(by intros;rfl),(by intros;rfl),(by intros;rfl),(by intros;rfl),(by intros;rfl),(by intros;rfl),(by intros;rfl),(by intros;rfl),(by intros;rfl),(by intros;rfl),(by intros;rfl),(by intros;rfl),(by intros;rfl),(by intros;rfl),(by intros;rfl),(by intros;rfl),(by intros;rfl),(by intros;rfl),(by intros;rfl),(by intros;rfl),(by intros;rfl),(by intros;rfl),(by intros;rfl),(by intros;rfl),(by intros;rfl),(by intros;rfl),(by intros;rfl),(by intros;rfl),(by intro e n m v;exact agetB),(by intros;rfl),(by intros;rfl),(by intros;rfl),(by intros;rfl),(by intros;rfl),(by intros;rfl),(by intros;rfl),(by intros;rfl),(by intros;rfl),(by intros;rfl),(by intros;rfl),(by intros;rfl),(by intros;rfl),(by intros;rfl),(by intros;rfl),(by intros;rfl),(by intros;rfl),(by intros;rfl),(by intros;rfl)⟩
abbrev OpW (G:AO→(Opd→AV)→aA→(AV→aA→Esc→Prop)→Prop):Prop:=∀{ev:Opd→AV} {h:aA} {k:AV→aA→Esc→Prop},
 (∀{x},G (.mv x) ev h k=k (ev x) h [])∧(∀{c a b},G (.pick c a b) ev h k=pK (sP (ev c) (ev a) (ev b)) fun v=>k v h [])∧(∀{z},G (.alloc z) ev h k=alK z h k) ∧
 (∀{x},G (.box x) ev h k=wK (oL (ev x) h) k)∧(∀{z ps},G (.build z ps) ev h k=pK (qC z (ev3 ev ps)) fun v=>k v h [])∧(∀{o sh n z ps},G (.bsl o sh n z ps) ev h k=wK (YC o sh n z (ev2 ev ps) h) k) ∧
 (∀{sh a},G (.load sh a) ev h k=pK (CA sh (ev a) h) fun v=>k v h [])∧(∀{sh a x},G (.store sh a x) ev h k=wK (kB sh (ev a) (ev x) h) k)∧(∀{x},G (.nilchk x) ev h k=pK (aF (ev x)) fun v=>k v h []) ∧
 (∀{o x y},G (.bin o x y) ev h k=pK (BA o (ev x) (ev y)) fun v=>k v h [])∧(∀{l n x y},G (.eqa l n x y) ev h k=pK (SA l n (ev x) (ev y)) fun v=>k v h [])∧(∀{n b x},G (.isnil n b x) ev h k=pK (pP n b (ev x)) fun v=>k v h []) ∧
 (∀{x},G (.mkif x) ev h k=pK (qT (ev x)) fun v=>k v h [])∧(∀{o x},G (.un o x) ev h k=pK (oUn o (ev x)) fun v=>k v h [])∧(∀{c x},G (.conv (.i c) x) ev h k=pK (pL c (ev x)) fun v=>k v h []) ∧
 (∀{f l},G (.mkfn f l) ev h k=k (.fn f (ev1 ev l)) h [])∧(∀{sh x a b c},G (.slice sh x a b c) ev h k=pK (yJ sh (ev x) (evO ev a) (evO ev b) (evO ev c) h) fun v=>k v h [])∧(∀{x a b},G (.slstr x a b) ev h k=pK (tP (ev x) (evO ev a) (evO ev b)) fun v=>k v h []) ∧
 (∀{sh z a b},G (.mksl sh z a b) ev h k=wK (rT sh z (ev a) (ev b) h) k)∧(∀{o sh x},G (.faddr o sh x) ev h k=pK (EA o sh (ev x)) fun v=>k v h [])∧(∀{o sh x},G (.field o sh x) ev h k=pK (RH o sh (ev x)) fun v=>k v h []) ∧
 (∀{sh x i},G (.iaddr sh x i) ev h k=pK (eD sh (ev x) (ev i) h) fun v=>k v h [])∧(∀{n sh x i},G (.iaddra n sh x i) ev h k=pK (xJ n sh (ev x) (ev i)) fun v=>k v h [])∧(∀{n sh x i},G (.idxa n sh x i) ev h k=pK (SH n sh (ev x) (ev i)) fun v=>k v h []) ∧
 (∀{x i},G (.idxs x i) ev h k=pK (qL (ev x) (ev i)) fun v=>k v h [])∧(∀{x i},G (.ext x i) ev h k=pK (wJ (ev x) i) fun v=>k v h [])∧(∀{x},G (.len x) ev h k=pK (ZG (ev x)) fun v=>k v h [])∧(∀{x},G (.lens x) ev h k=pK (JD (ev x)) fun v=>k v h []) ∧
 (∀{sh a x},G (.app sh a x) ev h k=wK (nL sh (ev a) (ev x) h) k)∧(∀{sh a x},G (.copy sh a x) ev h k=wK (oT sh (ev a) (ev x) h) k)∧(∀{m t l},G (.uns m t l) ev h k=wK (nD m t (ev1 ev l) h) k)∧(∀{sh z x},G (.clr sh z x) ev h k=wK (oClr sh z (ev x) h) k) ∧
 (∀{l},G (.mx l) ev h k=pK (oMx (ev1 ev l)) fun v=>k v h [])∧(∀{l},G (.mn l) ev h k=pK (oMn (ev1 ev l)) fun v=>k v h [])∧(∀{sh},G (.new0 sh) ev h k=nwK sh h k)∧(∀{x},G (.conv .s2b x) ev h k=wK (HE .s2b (ev x) h) k)∧(∀{x},G (.conv .b2s x) ev h k=wK (HE .b2s (ev x) h) k) ∧
 (∀{x},G (.conv .r2s x) ev h k=wK (HE .r2s (ev x) h) k)∧(∀{x},G (.conv .same x) ev h k=wK (HE .same (ev x) h) k)∧(G .mkmap ev h k=mmK h k)∧(∀{n o z x y},G (.look n o z x y) ev h k=pK (XB n o z (ev x) (ev y) h) fun v=>k v h [])∧(∀{n m y x},G (.mupd n m y x) ev h k=wK (rC n (ev m) (ev y) (ev x) h) k) ∧
 (∀{n z m y},G (.ment n z m y) ev h k=wK (rP n z (ev m) (ev y) h) k)∧(∀{m a x},G (.estore m a x) ev h k=wK (oP (ev m) (ev a) (ev x) h) k)∧(∀{n m y},G (.mdel n m y) ev h k=wK (pT n (ev m) (ev y) h) k)∧(∀{x},G (.lenm x) ev h k=pK (qP (ev x) h) fun v=>k v h []) ∧
 (∀{x},G (.mrange x) ev h k=wK (sL (ev x) h) k)∧(∀{i},G (.mentry i) ev h k=wK (rL (ev i) h) k)
theorem w_op:∀ G,(G=opC C∨G=opE C)→OpW G:=by
 rintro G (rfl|rfl) <;> refine fun {_ _ _}=>⟨?_,?_,?_,?_,?_,?_,?_,?_,?_,?_,?_,?_,?_,?_,?_,?_,?_,?_,?_,?_,?_,?_,?_,?_,?_,?_,?_,?_,?_,?_,?_,?_,?_,?_,?_,?_,?_,?_,?_,?_,?_,?_,?_,?_,?_,?_,?_,?_⟩ <;> intros <;> rfl
theorem w_oc:OpW (opC C):=w_op _ (.inl rfl)
theorem w_oe:OpW (opE C):=w_op _ (.inr rfl)
abbrev OpG (G:AO→(Opd→AV)→aA→(AV→aA→Esc→Prop)→Prop):Prop:=∀{t:AV} {g:Bool} {ev:Opd→AV} {h:aA} {k:AV→aA→Esc→Prop},
 (∀{x},gO G t g (.mv x) ev h k=gM t g (ev x) h k) ∧
 (∀{c a b},gO G t g (.pick c a b) ev h k=gP t g (sP (ev c) (ev a) (ev b)) h k) ∧
 (∀{z},gO G t g (.alloc z) ev h k=gV t g h (fun k=>alK z h k) k) ∧
 (∀{x},gO G t g (.box x) ev h k=gV t g h (fun k=>wK (oL (ev x) h) k) k) ∧
 (∀{z ps},gO G t g (.build z ps) ev h k=gP t g (qC z (ev3 ev ps)) h k) ∧
 (∀{o sh n z ps},gO G t g (.bsl o sh n z ps) ev h k=gV t g h (fun k=>wK (YC o sh n z (ev2 ev ps) h) k) k) ∧
 (∀{sh a},gO G t g (.load sh a) ev h k=gP t g (CA sh (ev a) h) h k) ∧
 (∀{sh a x},gO G t g (.store sh a x) ev h k=gV t g h (fun k=>wK (kB sh (ev a) (ev x) h) k) k) ∧
 (∀{x},gO G t g (.nilchk x) ev h k=gP t g (aF (ev x)) h k) ∧
 (∀{o x y},gO G t g (.bin o x y) ev h k=gP t g (BA o (ev x) (ev y)) h k) ∧
 (∀{l n x y},gO G t g (.eqa l n x y) ev h k=gP t g (SA l n (ev x) (ev y)) h k) ∧
 (∀{n b x},gO G t g (.isnil n b x) ev h k=gP t g (pP n b (ev x)) h k) ∧
 (∀{x},gO G t g (.mkif x) ev h k=gP t g (qT (ev x)) h k) ∧
 (∀{o x},gO G t g (.un o x) ev h k=gP t g (oUn o (ev x)) h k) ∧
 (∀{c x},gO G t g (.conv (.i c) x) ev h k=gP t g (pL c (ev x)) h k) ∧
 (∀{f l},gO G t g (.mkfn f l) ev h k=gM t g (.fn f (ev1 ev l)) h k) ∧
 (∀{sh x a b c},gO G t g (.slice sh x a b c) ev h k=gP t g (yJ sh (ev x) (evO ev a) (evO ev b) (evO ev c) h) h k) ∧
 (∀{x a b},gO G t g (.slstr x a b) ev h k=gP t g (tP (ev x) (evO ev a) (evO ev b)) h k) ∧
 (∀{sh z a b},gO G t g (.mksl sh z a b) ev h k=gV t g h (fun k=>wK (rT sh z (ev a) (ev b) h) k) k) ∧
 (∀{o sh x},gO G t g (.faddr o sh x) ev h k=gP t g (EA o sh (ev x)) h k) ∧
 (∀{o sh x},gO G t g (.field o sh x) ev h k=gP t g (RH o sh (ev x)) h k) ∧
 (∀{sh x i},gO G t g (.iaddr sh x i) ev h k=gP t g (eD sh (ev x) (ev i) h) h k) ∧
 (∀{n sh x i},gO G t g (.iaddra n sh x i) ev h k=gP t g (xJ n sh (ev x) (ev i)) h k) ∧
 (∀{n sh x i},gO G t g (.idxa n sh x i) ev h k=gP t g (SH n sh (ev x) (ev i)) h k) ∧
 (∀{x i},gO G t g (.idxs x i) ev h k=gP t g (qL (ev x) (ev i)) h k) ∧
 (∀{x i},gO G t g (.ext x i) ev h k=gP t g (wJ (ev x) i) h k) ∧
 (∀{x},gO G t g (.len x) ev h k=gP t g (ZG (ev x)) h k) ∧
 (∀{x},gO G t g (.lens x) ev h k=gP t g (JD (ev x)) h k) ∧
 (∀{sh a x},gO G t g (.app sh a x) ev h k=gV t g h (fun k=>wK (nL sh (ev a) (ev x) h) k) k) ∧
 (∀{sh a x},gO G t g (.copy sh a x) ev h k=gV t g h (fun k=>wK (oT sh (ev a) (ev x) h) k) k) ∧
 (∀{m t2 l},gO G t g (.uns m t2 l) ev h k=gV t g h (fun k=>wK (nD m t2 (ev1 ev l) h) k) k) ∧
 (∀{sh z x},gO G t g (.clr sh z x) ev h k=gV t g h (fun k=>wK (oClr sh z (ev x) h) k) k) ∧
 (∀{l},gO G t g (.mx l) ev h k=gP t g (oMx (ev1 ev l)) h k) ∧
 (∀{l},gO G t g (.mn l) ev h k=gP t g (oMn (ev1 ev l)) h k) ∧
 (∀{sh},gO G t g (.new0 sh) ev h k=gV t g h (fun k=>nwK sh h k) k) ∧
 (∀{x},gO G t g (.conv .s2b x) ev h k=gV t g h (fun k=>wK (HE .s2b (ev x) h) k) k) ∧
 (∀{x},gO G t g (.conv .b2s x) ev h k=gV t g h (fun k=>wK (HE .b2s (ev x) h) k) k) ∧
 (∀{x},gO G t g (.conv .r2s x) ev h k=gV t g h (fun k=>wK (HE .r2s (ev x) h) k) k) ∧
 (∀{x},gO G t g (.conv .same x) ev h k=gV t g h (fun k=>wK (HE .same (ev x) h) k) k) ∧
 (gO G t g .mkmap ev h k=gV t g h (fun k=>mmK h k) k) ∧
 (∀{n o z x y},gO G t g (.look n o z x y) ev h k=gP t g (XB n o z (ev x) (ev y) h) h k) ∧
 (∀{n m y x},gO G t g (.mupd n m y x) ev h k=gV t g h (fun k=>wK (rC n (ev m) (ev y) (ev x) h) k) k) ∧
 (∀{n z m y},gO G t g (.ment n z m y) ev h k=gV t g h (fun k=>wK (rP n z (ev m) (ev y) h) k) k) ∧
 (∀{m a x},gO G t g (.estore m a x) ev h k=gV t g h (fun k=>wK (oP (ev m) (ev a) (ev x) h) k) k) ∧
 (∀{n m y},gO G t g (.mdel n m y) ev h k=gV t g h (fun k=>wK (pT n (ev m) (ev y) h) k) k) ∧
 (∀{x},gO G t g (.lenm x) ev h k=gP t g (qP (ev x) h) h k) ∧
 (∀{x},gO G t g (.mrange x) ev h k=gV t g h (fun k=>wK (sL (ev x) h) k) k) ∧
 (∀{i},gO G t g (.mentry i) ev h k=gV t g h (fun k=>wK (rL (ev i) h) k) k)
theorem w_og:∀ G,(G=opC C∨G=opE C)→OpG G:=by
 rintro G (rfl|rfl) <;> refine fun {_ _ _ _ _}=>⟨?_,?_,?_,?_,?_,?_,?_,?_,?_,?_,?_,?_,?_,?_,?_,?_,?_,?_,?_,?_,?_,?_,?_,?_,?_,?_,?_,?_,?_,?_,?_,?_,?_,?_,?_,?_,?_,?_,?_,?_,?_,?_,?_,?_,?_,?_,?_,?_⟩ <;> intros <;> rfl
theorem w_gc:OpG (opC C):=w_og _ (.inl rfl)
theorem w_ge:OpG (opE C):=w_og _ (.inr rfl)
theorem wG:(∀ {C:Hd} {t:AV} {g:Bool} {f:Nat} {a:List Opd} {ev:Opd→AV} {h:aA} {k:AV→aA→Esc→Prop},gO (opC C) t g (.call f a) ev h k=gV t g h (C f (ev1 ev a) h) k)∧(∀ {C:Hd} {t:AV} {g:Bool} {f:Opd} {a:List Opd} {ev:Opd→AV} {h:aA} {k:AV→aA→Esc→Prop},gO (opC C) t g (.callv f a) ev h k=gV t g h (pH C (ev f) (ev1 ev a) h) k) ∧
 (∀{C:Hd} {t:AV} {g:Bool} {f:Nat} {a:List Opd} {ev:Opd→AV} {h:aA} {k:AV→aA→Esc→Prop},gO (opE C) t g (.call f a) ev h k=gV t g h (bC C f (ev1 ev a) h) k)∧(∀{C:Hd} {t:AV} {g:Bool} {f:Opd} {a:List Opd} {ev:Opd→AV} {h:aA} {k:AV→aA→Esc→Prop},gO (opE C) t g (.callv f a) ev h k=gV t g h (jN C (ev f) (ev1 ev a) h) k):=⟨rfl,rfl,rfl,rfl⟩
theorem wB:(∀ {α:Type} {l:List α},[]++l=l)∧(∀ {α:Type} {a:α} {l m:List α},a::l++m=a::(l++m))∧(∀ {α:Type} {a:α} {l:List α},(a::l)[0]?=some a)∧(∀ {α:Type} {a:α} {l:List α} {i:Nat},(a::l)[i+1]?=l[i]?) ∧
 (∀{C:Hd} {gl:GL} {b:ACode} {K:KT} {s:St},xD C gl b K .normal s=NW C gl b s K)∧(∀{C:Hd} {gl:GL} {b:ACode} {K:KT} {s:St} {i:Nat},xD C gl b K (.exit i) s=K (.exit i) s)∧(∀{C:Hd} {gl:GL} {b:ACode} {K:KT} {s:St},xD C gl b K .ret s=K .ret s) ∧
 (∀{i:Nat} {K:KT} {s:St},tC i K .normal s=K .normal s)∧(∀{i j:Nat} {K:KT} {s:St},tC i K (.exit j) s=match Nat.beq j i with|true=>K .normal s|false=>K (.exit j) s)∧(∀{i:Nat} {K:KT} {s:St},tC i K .ret s=K .ret s):=
 ⟨by intros;rfl,by intros;rfl,by intros;rfl,by intros;rfl,by intros;rfl,by intros;rfl,by intros;rfl,by intros;rfl,by intro i j K s;show(bif Nat.beq j i then _ else _)=_;cases Nat.beq j i <;> rfl,by intros;rfl⟩
theorem wS:(∀ {n:Int},cI n = .c (.p (.int .i64 n)))∧(cT = .c (.p (.bool true)))∧(cF = .c (.p (.bool false)))∧(∀ {l:List UInt8},cS l = .c (.p (.str l)))∧(∀ {d:Nat} {o:AO},uO d o=⟨some d,none,o⟩)∧(∀ {o:AO},wO o=⟨none,none,o⟩)∧(∀ {d g:Nat} {b:Bool} {o:AO},gD d g b o=⟨some d,some (g,b),o⟩)∧(∀ {d:Nat} {x:Opd},mV d x=⟨some d,none,.mv x⟩) ∧
 (∀{d:Nat} {b:BinOp} {x y:Opd},bN d b x y=⟨some d,none,.bin b x y⟩)∧(∀{d f:Nat} {l:List Opd},cL d f l=⟨some d,none,.call f l⟩)∧(∀{d:Nat} {s:Sh} {x:Opd},lD d s x=⟨some d,none,.load s x⟩)∧(∀{d:Nat} {s:Sh} {x y:Opd},iA d s x y=⟨some d,none,.iaddr s x y⟩)∧(∀{d o:Nat} {s:Sh} {x:Opd},fA d o s x=⟨some d,none,.faddr o s x⟩) ∧
 (∀{d:Nat} {s:Sh} {x y:Opd},sT d s x y=⟨some d,none,.store s x y⟩)∧(∀{d:Nat} {x:Opd},lN d x=⟨some d,none,.len x⟩)∧(∀{d:Nat} {x:Opd} {i:Nat},eX d x i=⟨some d,none,.ext x i⟩)∧(∀{o:AOp} {l:List Nat},dF o l=⟨o,l,false,[],[]⟩)∧(∀{o:AOp} {l:List Nat},dT o l=⟨o,l,true,[],[]⟩)∧(∀{o:AOp} {l:List Nat} {e:Bool} {a b:List Nat},dA o l e a b=⟨o,l,e,a,b⟩) ∧
 (∀{l:List AOp} {k:List Nat},rg l k = .reg l (some k))∧(∀{l:List DOp} {k:List Nat},dr l k = .draw l (some k)):=
 ⟨rfl,rfl,rfl,rfl,rfl,rfl,rfl,rfl,rfl,rfl,rfl,rfl,rfl,rfl,rfl,rfl,rfl,rfl,rfl,rfl,rfl⟩
def wZ:=And.intro wA (And.intro wB (And.intro @w_oc (And.intro @w_oe (And.intro @w_gc (And.intro @w_ge (And.intro wG wS))))))
end Go.Am
end
section
/- The functions asv abstract code,and asv formulas over their values: printed by program out of the translation. -/
set_option linter.all false
set_option maxRecDepth 100000
namespace Go.Am
def AJ:ACode:=.pr [19,106,107,108] (.seq (rg [bN 109 .lss 108 107] [19,106,107,108,109])
(.seq (.cond 109 .skip
(.exit 0))
(.seq (.block 1 (.seq (rg [mV 110 108,
iA 111 (some 6) 106 108,
lD 112 (some 6) 111,
uO 22 (.alloc [.p (.int .i64 0),.p (.int .i64 0),.p (.int .i64 0),.p (.str []),.p (.str []),.p (.str [])]),
mV 21 110,
wO (.store (some 6) 22 112)] [19,21,22,106,107,108])
(.seq (dr [dF (mV 113 19) [19],
dF (mV 114 21) [21],
dF (iA 115 none 113 114) [113,114],
dF (lD 116 none 115) [115],
dF (fA 117 4 none 22) [22],
dF (lD 118 none 117) [117],
dF (bN 119 .neq 116 118) [116,118]] [19,106,107,108,119])
(.cond 119 (.seq (rg [mV 2 cF] [2])
.ret)
.skip))))
(rg [bN 120 .add 108 (cI 1),
mV 108 120] [19,106,107,108]))))
def kK (C:Hd)(gl:GL)(e:En)(h:aA)(x:Esc)(K:KT):Sf C gl AJ e h x K:=⟨_,by simp only[AJ,↓wZ,AO.still];rfl⟩
theorem yS {C gl e h x K}:NW C gl AJ ⟨e,h,x⟩ K=(kK C gl e h x K).1:=(kK C gl e h x K).2
theorem zjS {C gl e h x K}:NW C gl (.loop (.scope AJ)) ⟨e,h,x⟩ K=QA C gl (.scope AJ) K [(19,gA e 19),(106,gA e 106),(107,gA e 107),(108,gA e 108)] h x:=BC
def vP:ACode:=.pr [] (.seq (rg [cL 121 cJ [],
mV 2 121] [2])
.ret)
def tN (C:Hd)(gl:GL)(e:En)(h:aA)(x:Esc)(K:KT):Sf C gl vP e h x K:=⟨_,by simp only[vP,↓wZ,AO.still];rfl⟩
theorem UZ {C gl e h x K}:NW C gl vP ⟨e,h,x⟩ K=(tN C gl e h x K).1:=(tN C gl e h x K).2
def z1a:ACode:=(.seq (rg [mV 2 cF] [0])
(.seq (rg [mV 23 0,
uO 24 (.build [.sl0 none,.p (.int .i64 0)] [(0,1,23)]),
uO 25 (.box 24),
mV 3 25] [3])
(.seq (rg [mV 26 3,
cL 27 lO [26],
mV 28 3,
mV 29 3,
cL 30 NF [29,(cI 0),(cI 6)],
cL 31 nO [28,30],
mV 4 27,
mV 5 31] [4,5])
(.seq (rg [mV 33 4,
mV 34 5,
cL 35 bP [33,34],
mV 32 35,
eX 36 32 0,
eX 37 32 1,
mV 6 36,
mV 7 37] [4,5,6,7])
(.seq (.seq (rg [mV 38 7,
bN 39 .neq 38 (cI 0)] [4,5,6,7,39])
(.cond 39 (.seq (rg [mV 40 4,
cL 41 pO [40],
mV 42 7,
bN 43 .eql 41 42,
mV 44 43,
gD 45 44 true (.call cJ []),
uO 46 (.pick 44 45 cF),
mV 2 46] [2])
.ret)
.skip))
(.seq (rg [mV 48 4,
mV 49 6,
cL 50 aP [48,49],
mV 47 50,
eX 51 47 0,
eX 52 47 1,
eX 53 47 2,
mV 8 51,
mV 9 52,
mV 10 53] [4,5,6,8,9,10])
(.seq (rg [mV 55 5,
cL 56 XK [55],
mV 54 56,
eX 57 54 0,
eX 58 54 1,
eX 59 54 2,
eX 60 54 3,
mV 11 57,
mV 12 58,
mV 13 59,
mV 14 60] [4,5,6,8,9,10,11,12,14])
(.seq (rg [mV 62 6,
cL 63 XK [62],
mV 61 63,
eX 64 61 0,
eX 65 61 1,
eX 66 61 2,
eX 67 61 3,
mV 15 64,
mV 16 65,
mV 17 66,
mV 18 67] [4,5,6,8,9,10,11,12,14,15,16,18])
(.seq (rg [mV 69 4,
mV 70 6,
cL 71 cP [69,70],
mV 68 71,
eX 72 68 0,
eX 73 68 1,
mV 19 72,
mV 20 73] [5,6,8,9,10,11,12,14,15,16,18,19,20])
(.seq (.seq (rg [mV 74 10,
mV 75 14,
mV 76 18,
mV 77 20,
uO 78 (.bsl false none 4 (.int .i64 0) [(0,74),(1,75),(2,76),(3,77)]),
cL 79 bJ [78],
bN 80 .neq 79 (cI 0),
mV 81 80,
gD 82 81 false (.mv 8),
gD 83 81 false (.len 82),
gD 84 81 false (.mv 9),
gD 85 81 false (.len 84),
gD 86 81 false (.bin .add 83 85),
gD 87 81 false (.bin .gtr 86 (cI 0)),
uO 88 (.pick 81 cT 87),
mV 89 88,
gD 90 89 false (.mv 11),
gD 91 89 false (.mv 15),
gD 92 89 false (.bin .neq 90 91),
uO 93 (.pick 89 cT 92),
mV 94 93,
gD 95 94 false (.mv 12),
gD 96 94 false (.mv 16),
gD 97 94 false (.bin .neq 95 96),
uO 98 (.pick 94 cT 97),
mV 99 98,
gD 100 99 false (.mv 19),
gD 101 99 false (.len 100),
gD 102 99 false (.mv 5),
gD 103 99 false (.len 102),
gD 104 99 false (.bin .neq 101 103),
uO 105 (.pick 99 cT 104)] [6,19,105])
(.cond 105 (.seq (rg [mV 2 cF] [2])
.ret)
.skip))
(.seq (.seq (rg [mV 106 6,
lN 107 106,
mV 108 (cI 0)] [19,106,107,108])
(.block 0 (.loop (.scope AJ))))
vP)))))))))))
def gW:AFun:=⟨1,[.t 2],z1a,false,false⟩
def sN (C:Hd)(gl:GL)(e:En)(h:aA)(x:Esc)(K:KT):Sf C gl z1a e h x K:=⟨_,by simp only[z1a,↓wZ,AO.still];rfl⟩
theorem zfN {C gl v0 h x K}:NW C gl gW.body ⟨enter [v0],h,x⟩ K=(sN C gl [(0,v0)] h x K).1:=(sN C gl [(0,v0)] h x K).2
def IT:ACode:=.pr [0,3,6,8,9,10] (rg [mV 57 3,
lD 58 (some 5) 6,
uO 59 (.bsl false (some 5) 1 (.agg [.str [],.int .i64 0,.int .i64 0,.sl (some 2) [],.sl (some 2) []]) [(0,58)]),
uO 60 (.app (some 5) 57 59),
mV 3 60] [0,3,8,9,10])
def GF (C:Hd)(gl:GL)(e:En)(h:aA)(x:Esc)(K:KT):Sf C gl IT e h x K:=⟨_,by simp only[IT,↓wZ,AO.still];rfl⟩
theorem HG {C gl e h x K}:NW C gl IT ⟨e,h,x⟩ K=(GF C gl e h x K).1:=(GF C gl e h x K).2
def JT:ACode:=.pr [0,3,8,9,10] (rg [bN 61 .add 10 (cI 1),
mV 10 61] [0,3,8,9,10])
def pF (C:Hd)(gl:GL)(e:En)(h:aA)(x:Esc)(K:KT):Sf C gl JT e h x K:=⟨_,by simp only[JT,↓wZ,AO.still];rfl⟩
theorem jG {C gl e h x K}:NW C gl JT ⟨e,h,x⟩ K=(pF C gl e h x K).1:=(pF C gl e h x K).2
def CL:ACode:=.pr [0,3,8,9,10] (.seq (rg [bN 11 .lss 10 9] [0,3,8,9,10,11])
(.seq (.cond 11 .skip
(.exit 0))
(.seq (.block 1 (.seq (rg [iA 12 none 8 10,
lD 13 none 12,
mV 5 13] [0,3,5,8,9,10])
(.seq (.seq (rg [mV 14 0,
cL 15 jE [14,(cI 3)],
mV 16 15,
gD 17 16 true (.mv 3),
gD 18 16 true (.len 17),
gD 19 16 true (.bin .gtr 18 (cI 0)),
uO 20 (.pick 16 19 cF)] [0,3,5,8,9,10,20])
(.cond 20 (.exit 1)
.skip))
(.seq (rg [mV 21 5,
mV 22 0,
cL 23 NF [22,(cI 2),(cI 4)],
mV 24 0,
uO 25 (.bsl false none 4 (.int .i64 0) [(0,(cI 0)),(1,(cI 0)),(2,(cI 5)),(3,(cI 257))]),
cL 26 EC [24,25],
uO 27 (.build [.p (.str []),.p (.int .i64 0),.p (.int .i64 0),.sl0 (some 2),.sl0 (some 2)] [(0,1,21),(1,1,23),(2,1,26)]),
uO 6 (.alloc [.p (.str []),.p (.int .i64 0),.p (.int .i64 0),.sl0 (some 2),.sl0 (some 2)]),
wO (.store (some 5) 6 27)] [0,3,6,8,9,10])
(.seq (rg [mV 28 0,
cL 29 NF [28,(cI 1),(cI 4)],
uO 30 (.build [.p (.str []),.p (.int .i64 0)] [(0,1,(cS [100,97,116,97])),(1,1,29)]),
uO 31 (.bsl true (some 2) 1 (.agg [.str [],.int .i64 0]) [(0,30)]),
fA 32 3 none 6,
wO (.store none 32 31)] [0,3,6,8,9,10])
(.seq (rg [fA 33 1 none 6,
lD 34 none 33,
cL 35 PB [(cS [48]),34],
uO 36 (.build [.p (.str []),.p (.str [])] [(0,1,35),(1,1,(cS [100,97,116,97]))]),
uO 37 (.bsl true (some 2) 1 (.agg [.str [],.str []]) [(0,36)]),
fA 38 4 none 6,
wO (.store none 38 37)] [0,3,6,8,9,10])
(.seq (.seq (rg [fA 39 2 none 6,
lD 40 none 39,
bN 41 .neq 40 (cI 0),
mV 42 41,
gD 43 42 true (.mv 0),
gD 44 42 true (.call jE [43,(cI 2)]),
uO 45 (.pick 42 44 cF)] [0,3,6,8,9,10,45])
(.cond 45 (dr [dF (fA 46 4 none 6) [6],
dF (lD 47 none 46) [46],
dF (fA 48 1 none 6) [6],
dF (lD 49 none 48) [48],
dF (bN 50 .sub 49 (cI 1)) [49],
dA (cL 51 PB [(cS [48]),50]) [50] true [] [1],
dF (bN 52 .add (cS [49]) 51) [51],
dF (uO 53 (.build [.p (.str []),.p (.str [])] [(0,1,52),(1,1,(cS [105,100,99,111,100,101]))])) [52],
dF (uO 54 (.bsl false (some 2) 1 (.agg [.str [],.str []]) [(0,53)])) [53],
dT (uO 55 (.app (some 2) 47 54)) [47,54],
dF (fA 56 4 none 6) [6],
dT (wO (.store none 56 55)) [56,55]] [0,3,6,8,9,10])
.skip))
IT)))))))
JT)))
def SE (C:Hd)(gl:GL)(e:En)(h:aA)(x:Esc)(K:KT):Sf C gl CL e h x K:=⟨_,by simp only[CL,↓wZ,AO.still];rfl⟩
theorem LF {C gl e h x K}:NW C gl CL ⟨e,h,x⟩ K=(SE C gl e h x K).1:=(SE C gl e h x K).2
theorem zjU {C gl e h x K}:NW C gl (.loop (.scope CL)) ⟨e,h,x⟩ K=QA C gl (.scope CL) K [(0,gA e 0),(3,gA e 3),(8,gA e 8),(9,gA e 9),(10,gA e 10)] h x:=BC
def xP:ACode:=.pr [3] (.seq (rg [mV 100 3,
mV 2 100] [2])
.ret)
def lK (C:Hd)(gl:GL)(e:En)(h:aA)(x:Esc)(K:KT):Sf C gl xP e h x K:=⟨_,by simp only[xP,↓wZ,AO.still];rfl⟩
theorem zS {C gl e h x K}:NW C gl xP ⟨e,h,x⟩ K=(lK C gl e h x K).1:=(lK C gl e h x K).2
def yP:ACode:=.pr [0,3] (.seq (.seq (rg [mV 62 0,
cL 63 jE [62,(cI 20)]] [0,3,63])
(.cond 63 (.seq (rg [mV 64 3,
mV 65 0,
mV 66 3,
lN 67 66,
cL 68 YE [65,67],
iA 69 (some 5) 64 68,
mV 7 69] [0,3,7])
(dr [dF (mV 70 7) [7],
dF (mV 71 7) [7],
dF (mV 72 7) [7],
dF (mV 73 0) [0],
dF (mV 74 7) [7],
dF (uO 75 (.nilchk 74)) [74],
dF (fA 76 0 none 75) [75],
dF (lD 77 none 76) [76],
dF (uO 78 (.bsl false none 3 (.str []) [(0,77),(1,(cS [])),(2,(cS [117]))])) [77],
dT (cL 79 DE [73,78]) [73,78],
dF (mV 80 0) [0],
dF (mV 81 7) [7],
dF (uO 82 (.nilchk 81)) [81],
dF (fA 83 1 none 82) [82],
dA (lD 84 none 83) [83] false [9] [],
dA (uO 85 (.bsl false none 3 (.int .i64 0) [(0,84),(1,(cI 1)),(2,(cI 33))])) [84] false [9] [],
dT (cL 86 EC [80,85]) [80,85],
dF (mV 87 0) [0],
dF (mV 88 7) [7],
dF (uO 89 (.nilchk 88)) [88],
dF (fA 90 2 none 89) [89],
dA (lD 91 none 90) [90] false [9,16] [],
dA (uO 92 (.bsl false none 3 (.int .i64 0) [(0,91),(1,(cI 4)),(2,(cI (-1)))])) [91] false [9,16] [],
dT (cL 93 EC [87,92]) [87,92],
dF (uO 94 (.nilchk 70)) [70],
dF (fA 95 0 none 94) [94],
dT (wO (.store none 95 79)) [95,79],
dF (uO 96 (.nilchk 71)) [71],
dF (fA 97 1 none 96) [96],
dT (wO (.store none 97 86)) [97,86],
dF (uO 98 (.nilchk 72)) [72],
dF (fA 99 2 none 98) [98],
dT (wO (.store none 99 93)) [99,93]] [3]))
.skip))
xP)
def SI (C:Hd)(gl:GL)(e:En)(h:aA)(x:Esc)(K:KT):Sf C gl yP e h x K:=⟨_,by simp only[yP,↓wZ,AO.still];rfl⟩
theorem BS {C gl e h x K}:NW C gl yP ⟨e,h,x⟩ K=(SI C gl e h x K).1:=(SI C gl e h x K).2
def z1e:ACode:=(.seq (rg [mV 2 (.c (.p (.sl (some 5) [])))] [0])
(.seq (rg [uO 3 (.new0 (some 5))] [0,3])
(.seq (.seq (rg [uO 8 (.bsl false none 3 (.str []) [(0,(cS [117])),(1,(cS [118])),(2,(cS [119]))]),
lN 9 8,
mV 10 (cI 0)] [0,3,8,9,10])
(.block 0 (.loop (.scope CL))))
yP)))
def kW:AFun:=⟨1,[.t 2],z1e,false,false⟩
def ZQ (C:Hd)(gl:GL)(e:En)(h:aA)(x:Esc)(K:KT):Sf C gl z1e e h x K:=⟨_,by simp only[z1e,↓wZ,AO.still];rfl⟩
theorem zfY {C gl v0 h x K}:NW C gl kW.body ⟨enter [v0],h,x⟩ K=(ZQ C gl [(0,v0)] h x K).1:=(ZQ C gl [(0,v0)] h x K).2
def DL:ACode:=.pr [0,5,6,7] (.seq (rg [bN 8 .lss 7 6] [0,5,6,7,8])
(.seq (.cond 8 .skip
(.exit 0))
(.seq (.block 1 (rg [mV 9 5,
mV 10 0,
cL 11 jO [10],
uO 12 (.bsl false (some 6) 1 (.agg [.int .i64 0,.int .i64 0,.int .i64 0,.str [],.str [],.str []]) [(0,11)]),
uO 13 (.app (some 6) 9 12),
mV 5 13] [0,5,6,7]))
(rg [bN 14 .add 7 (cI 1),
mV 7 14] [0,5,6,7]))))
def LY (C:Hd)(gl:GL)(e:En)(h:aA)(x:Esc)(K:KT):Sf C gl DL e h x K:=⟨_,by simp only[DL,↓wZ,AO.still];rfl⟩
theorem zga {C gl e h x K}:NW C gl DL ⟨e,h,x⟩ K=(LY C gl e h x K).1:=(LY C gl e h x K).2
theorem zjV {C gl e h x K}:NW C gl (.loop (.scope DL)) ⟨e,h,x⟩ K=QA C gl (.scope DL) K [(0,gA e 0),(5,gA e 5),(6,gA e 6),(7,gA e 7)] h x:=BC
def EL:ACode:=.pr [0,5,17] (.seq (rg [bN 18 .lss 17 (cI 11)] [0,5,17,18])
(.seq (.cond 18 .skip
(.exit 2))
(.seq (.block 3 (rg [mV 19 5,
mV 20 0,
uO 21 (.bsl false none 3 (.int .i64 0) [(0,(cI 1800)),(1,(cI 1830)),(2,(cI 2000))]),
cL 22 EC [20,21],
cL 23 PB [(cS [49]),22],
uO 24 (.build [.p (.int .i64 0),.p (.int .i64 0),.p (.int .i64 0),.p (.str []),.p (.str []),.p (.str [])] [(0,1,(cI 8)),(3,1,23)]),
uO 25 (.bsl false (some 6) 1 (.agg [.int .i64 0,.int .i64 0,.int .i64 0,.str [],.str [],.str []]) [(0,24)]),
uO 26 (.app (some 6) 19 25),
mV 5 26] [0,5,17]))
(rg [bN 27 .add 17 (cI 1),
mV 17 27] [0,5,17]))))
def MY (C:Hd)(gl:GL)(e:En)(h:aA)(x:Esc)(K:KT):Sf C gl EL e h x K:=⟨_,by simp only[EL,↓wZ,AO.still];rfl⟩
theorem zgb {C gl e h x K}:NW C gl EL ⟨e,h,x⟩ K=(MY C gl e h x K).1:=(MY C gl e h x K).2
theorem zjW {C gl e h x K}:NW C gl (.loop (.scope EL)) ⟨e,h,x⟩ K=QA C gl (.scope EL) K [(0,gA e 0),(5,gA e 5),(17,gA e 17)] h x:=BC
def LT:ACode:=.pr [5] (.seq (rg [mV 28 5,
mV 4 28] [4])
.ret)
def NY (C:Hd)(gl:GL)(e:En)(h:aA)(x:Esc)(K:KT):Sf C gl LT e h x K:=⟨_,by simp only[LT,↓wZ,AO.still];rfl⟩
theorem zgc {C gl e h x K}:NW C gl LT ⟨e,h,x⟩ K=(NY C gl e h x K).1:=(NY C gl e h x K).2
def MT:ACode:=.pr [0,5] (.seq (.seq (rg [mV 15 0,
cL 16 jE [15,(cI 80)]] [0,5,16])
(.cond 16 (.seq (rg [mV 17 (cI 0)] [0,5,17])
(.block 2 (.loop (.scope EL))))
.skip))
LT)
def OY (C:Hd)(gl:GL)(e:En)(h:aA)(x:Esc)(K:KT):Sf C gl MT e h x K:=⟨_,by simp only[MT,↓wZ,AO.still];rfl⟩
theorem zgd {C gl e h x K}:NW C gl MT ⟨e,h,x⟩ K=(OY C gl e h x K).1:=(OY C gl e h x K).2
def z1f:ACode:=(.seq (rg [mV 4 (.c (.p (.sl (some 6) [])))] [0,1])
(.seq (rg [uO 5 (.new0 (some 6))] [0,1,5])
(.seq (.seq (rg [mV 6 1,
mV 7 (cI 0)] [0,5,6,7])
(.block 0 (.loop (.scope DL))))
MT)))
def mW:AFun:=⟨2,[.t 4],z1f,false,false⟩
def aR (C:Hd)(gl:GL)(e:En)(h:aA)(x:Esc)(K:KT):Sf C gl z1f e h x K:=⟨_,by simp only[z1f,↓wZ,AO.still];rfl⟩
theorem zfZ {C gl v0 v1 h x K}:NW C gl mW.body ⟨enter [v0,v1],h,x⟩ K=(aR C gl [(0,v0),(1,v1)] h x K).1:=(aR C gl [(0,v0),(1,v1)] h x K).2
def z1k:ACode:=(.seq (rg [mV 6 (cI 0)] [0,1,2])
(.seq (.seq (rg [mV 7 2,
mV 8 1,
bN 9 .lss 7 8] [0,1,2,9])
(.cond 9 (.seq (rg [mV 10 1,
mV 6 10] [6])
.ret)
.skip))
(.seq (rg [mV 11 1,
mV 12 0,
mV 13 2,
mV 14 1,
bN 15 .sub 13 14,
bN 16 .add 15 (cI 1),
cL 17 YE [12,16],
bN 18 .add 11 17,
mV 6 18] [6])
.ret)))
def rW:AFun:=⟨3,[.t 6],z1k,false,false⟩
def dR (C:Hd)(gl:GL)(e:En)(h:aA)(x:Esc)(K:KT):Sf C gl z1k e h x K:=⟨_,by simp only[z1k,↓wZ,AO.still];rfl⟩
theorem zgi {C gl v0 v1 v2 h x K}:NW C gl rW.body ⟨enter [v0,v1,v2],h,x⟩ K=(dR C gl [(0,v0),(1,v1),(2,v2)] h x K).1:=(dR C gl [(0,v0),(1,v1),(2,v2)] h x K).2
def z2q:ACode:=(.seq (rg [mV 4 (.c (.p (.sl none []))),
mV 5 (cI 0)] [0,1])
(.seq (.seq (rg [mV 7 0,
mV 8 1,
cL 9 lJ [7,8],
mV 6 9] [0,1,6])
(.seq (rg [mV 10 6,
bN 11 .neq 10 (cI 0)] [0,1,6,11])
(.cond 11 (.seq (rg [mV 12 6,
mV 4 (.c (.p (.sl none []))),
mV 5 12] [4,5])
.ret)
.skip)))
(.seq (rg [mV 13 0,
mV 14 1,
cL 15 kJ [13,14],
mV 4 15,
mV 5 (cI 0)] [4,5])
.ret)))
def EX:AFun:=⟨2,[.t 4,.t 5],z2q,false,false⟩
def NN (C:Hd)(gl:GL)(e:En)(h:aA)(x:Esc)(K:KT):Sf C gl z2q e h x K:=⟨_,by simp only[z2q,↓wZ,AO.still];rfl⟩
theorem zib {C gl v0 v1 h x K}:NW C gl EX.body ⟨enter [v0,v1],h,x⟩ K=(NN C gl [(0,v0),(1,v1)] h x K).1:=(NN C gl [(0,v0),(1,v1)] h x K).2
def BU:ACode:=.pr [1,8,9,10,11,12,22,23,24,34,35] (rg [bN 61 .add 35 (cI 1),
mV 35 61] [1,8,9,10,11,12,22,23,24,34,35])
def YI (C:Hd)(gl:GL)(e:En)(h:aA)(x:Esc)(K:KT):Sf C gl BU e h x K:=⟨_,by simp only[BU,↓wZ,AO.still];rfl⟩
theorem ZN {C gl e h x K}:NW C gl BU ⟨e,h,x⟩ K=(YI C gl e h x K).1:=(YI C gl e h x K).2
def jM:ACode:=.pr [1,8,9,10,11,12,22,23,24,34,35] (.seq (rg [bN 36 .lss 35 34] [1,8,9,10,11,12,22,23,24,34,35,36])
(.seq (.cond 36 .skip
(.exit 2))
(.seq (.block 3 (.seq (rg [mV 37 35,
mV 13 37] [1,8,9,10,11,12,13,22,23,24,34,35])
(.seq (dr [dF (mV 38 1) [1],
dF (mV 39 10) [10],
dF (iA 40 (some 6) 38 39) [38,39],
dF (fA 41 5 none 40) [40],
dF (lD 42 none 41) [41],
dF (mV 43 13) [13],
dF (uO 44 (.idxs 42 43)) [42,43],
dF (bN 45 .eql 44 (.c (.p (.int .u8 49)))) [44],
dF (mV 46 45) [45],
dF (gD 47 46 true (.mv 11)) [11,46],
dF (gD 48 46 true (.mv 13)) [13,46],
dF (gD 49 46 true (.idxs 47 48)) [47,48,46],
dF (gD 50 46 true (.mv 1)) [1,46],
dF (gD 51 46 true (.mv 10)) [10,46],
dF (gD 52 46 true (.iaddr (some 6) 50 51)) [50,51,46],
dF (gD 53 46 true (.faddr 4 none 52)) [52,46],
dF (gD 54 46 true (.load none 53)) [53,46],
dF (gD 55 46 true (.mv 13)) [13,46],
dF (gD 56 46 true (.idxs 54 55)) [54,55,46],
dF (gD 57 46 true (.bin .neq 49 56)) [49,56,46],
dF (uO 58 (.pick 46 57 cF)) [46,57]] [1,8,9,10,11,12,22,23,24,34,35,58])
(.cond 58 (rg [mV 59 12,
bN 60 .add 59 (cI 1),
mV 12 60] [1,8,9,10,11,12,22,23,24,34,35])
.skip))))
BU)))
def ZI (C:Hd)(gl:GL)(e:En)(h:aA)(x:Esc)(K:KT):Sf C gl jM e h x K:=⟨_,by simp only[jM,↓wZ,AO.still];rfl⟩
theorem aO {C gl e h x K}:NW C gl jM ⟨e,h,x⟩ K=(ZI C gl e h x K).1:=(ZI C gl e h x K).2
theorem zk0 {C gl e h x K}:NW C gl (.loop jM) ⟨e,h,x⟩ K=QA C gl jM K [(1,gA e 1),(8,gA e 8),(9,gA e 9),(10,gA e 10),(11,gA e 11),(12,gA e 12),(22,gA e 22),(23,gA e 23),(24,gA e 24),(34,gA e 34),(35,gA e 35)] h x:=dC
def CU:ACode:=.pr [1,8,9,10,12,22,23,24] (.seq (rg [mV 62 12,
bN 63 .gtr 62 (cI 0)] [1,8,9,10,12,22,23,24,63])
(.cond 63 (rg [mV 64 8,
mV 65 10,
uO 66 (.bsl false none 1 (.int .i64 0) [(0,65)]),
uO 67 (.app none 64 66),
mV 68 9,
mV 69 12,
uO 70 (.bsl false none 1 (.int .i64 0) [(0,69)]),
uO 71 (.app none 68 70),
mV 8 67,
mV 9 71] [1,8,9,22,23,24])
.skip))
def iG (C:Hd)(gl:GL)(e:En)(h:aA)(x:Esc)(K:KT):Sf C gl CU e h x K:=⟨_,by simp only[CU,↓wZ,AO.still];rfl⟩
theorem AH {C gl e h x K}:NW C gl CU ⟨e,h,x⟩ K=(iG C gl e h x K).1:=(iG C gl e h x K).2
def DU:ACode:=.pr [1,8,9,22,23,24] (rg [bN 72 .add 24 (cI 1),
mV 24 72] [1,8,9,22,23,24])
def JN (C:Hd)(gl:GL)(e:En)(h:aA)(x:Esc)(K:KT):Sf C gl DU e h x K:=⟨_,by simp only[DU,↓wZ,AO.still];rfl⟩
theorem z0d {C gl e h x K}:NW C gl DU ⟨e,h,x⟩ K=(JN C gl e h x K).1:=(JN C gl e h x K).2
def kM:ACode:=.pr [1,8,9,22,23,24] (.seq (rg [bN 25 .lss 24 23] [1,8,9,22,23,24,25])
(.seq (.cond 25 .skip
(.exit 0))
(.seq (.block 1 (.seq (rg [mV 26 24,
iA 27 none 22 24,
lD 28 none 27,
mV 10 26,
mV 11 28] [1,8,9,10,11,22,23,24])
(.seq (rg [mV 12 (cI 0)] [1,8,9,10,11,12,22,23,24])
(.seq (.seq (rg [mV 29 1,
mV 30 10,
iA 31 (some 6) 29 30,
fA 32 5 none 31,
lD 33 none 32,
uO 34 (.lens 33),
mV 35 (cI 0)] [1,8,9,10,11,12,22,23,24,34,35])
(.block 2 (.loop jM)))
CU))))
DU)))
def GZ (C:Hd)(gl:GL)(e:En)(h:aA)(x:Esc)(K:KT):Sf C gl kM e h x K:=⟨_,by simp only[kM,↓wZ,AO.still];rfl⟩
theorem zhZ {C gl e h x K}:NW C gl kM ⟨e,h,x⟩ K=(GZ C gl e h x K).1:=(GZ C gl e h x K).2
theorem zk1 {C gl e h x K}:NW C gl (.loop (.scope kM)) ⟨e,h,x⟩ K=QA C gl (.scope kM) K [(1,gA e 1),(8,gA e 8),(9,gA e 9),(22,gA e 22),(23,gA e 23),(24,gA e 24)] h x:=BC
def EU:ACode:=.pr [8,9] (.seq (rg [mV 73 8,
mV 74 9,
mV 4 73,
mV 5 74,
mV 6 (cI 0)] [4,5,6])
.ret)
def lS (C:Hd)(gl:GL)(e:En)(h:aA)(x:Esc)(K:KT):Sf C gl EU e h x K:=⟨_,by simp only[EU,↓wZ,AO.still];rfl⟩
theorem z5I {C gl e h x K}:NW C gl EU ⟨e,h,x⟩ K=(lS C gl e h x K).1:=(lS C gl e h x K).2
def z2o:ACode:=(.seq (rg [mV 4 (.c (.p (.sl none []))),
mV 5 (.c (.p (.sl none []))),
mV 6 (cI 0)] [0,1])
(.seq (.seq (rg [mV 14 0,
mV 15 1,
cL 16 lJ [14,15],
mV 7 16] [0,1,7])
(.seq (rg [mV 17 7,
bN 18 .neq 17 (cI 0)] [0,1,7,18])
(.cond 18 (.seq (rg [mV 19 7,
mV 4 (.c (.p (.sl none []))),
mV 5 (.c (.p (.sl none []))),
mV 6 19] [4,5,6])
.ret)
.skip)))
(.seq (rg [uO 8 (.new0 none),
uO 9 (.new0 none)] [0,1,8,9])
(.seq (.seq (rg [mV 20 0,
mV 21 1,
cL 22 kJ [20,21],
lN 23 22,
mV 24 (cI 0)] [1,8,9,22,23,24])
(.block 0 (.loop (.scope kM))))
EU))))
def CX:AFun:=⟨2,[.t 4,.t 5,.t 6],z2o,false,false⟩
def IN (C:Hd)(gl:GL)(e:En)(h:aA)(x:Esc)(K:KT):Sf C gl z2o e h x K:=⟨_,by simp only[z2o,↓wZ,AO.still];rfl⟩
theorem zhY {C gl v0 v1 h x K}:NW C gl CX.body ⟨enter [v0,v1],h,x⟩ K=(IN C gl [(0,v0),(1,v1)] h x K).1:=(IN C gl [(0,v0),(1,v1)] h x K).2
def FU:ACode:=.pr [7,20,21,22] (rg [bN 45 .add 22 (cI 1),
mV 22 45] [7,20,21,22])
def LN (C:Hd)(gl:GL)(e:En)(h:aA)(x:Esc)(K:KT):Sf C gl FU e h x K:=⟨_,by simp only[FU,↓wZ,AO.still];rfl⟩
theorem z0e {C gl e h x K}:NW C gl FU ⟨e,h,x⟩ K=(LN C gl e h x K).1:=(LN C gl e h x K).2
def lM:ACode:=.pr [7,20,21,22] (.seq (rg [bN 23 .lss 22 21] [7,20,21,22,23])
(.seq (.cond 23 .skip
(.exit 0))
(.seq (.block 1 (.seq (rg [mV 24 22,
iA 25 none 20 22,
lD 26 none 25,
mV 8 24,
mV 9 26] [7,8,9,20,21,22])
(.seq (rg [mV 27 7,
mV 28 8,
iA 29 (some 6) 27 28,
fA 30 0 none 29,
lD 31 none 30,
cL 32 nG [31]] [7,8,9,20,21,22,32])
(.cond 32 (rg [mV 33 7,
mV 34 8,
mV 35 7,
mV 36 8,
mV 37 9,
mV 38 9,
uO 39 (.lens 38),
cL 40 PB [(cS [49]),39],
iA 41 (some 6) 33 34,
fA 42 4 none 41,
wO (.store none 42 37),
iA 43 (some 6) 35 36,
fA 44 5 none 43,
wO (.store none 44 40)] [7,20,21,22])
.skip))))
FU)))
def MN (C:Hd)(gl:GL)(e:En)(h:aA)(x:Esc)(K:KT):Sf C gl lM e h x K:=⟨_,by simp only[lM,↓wZ,AO.still];rfl⟩
theorem z0f {C gl e h x K}:NW C gl lM ⟨e,h,x⟩ K=(MN C gl e h x K).1:=(MN C gl e h x K).2
theorem zk2 {C gl e h x K}:NW C gl (.loop lM) ⟨e,h,x⟩ K=QA C gl lM K [(7,gA e 7),(20,gA e 20),(21,gA e 21),(22,gA e 22)] h x:=dC
def GU:ACode:=.pr [7] (.seq (rg [mV 46 7,
mV 4 46,
mV 5 (cI 0)] [4,5])
.ret)
def nS (C:Hd)(gl:GL)(e:En)(h:aA)(x:Esc)(K:KT):Sf C gl GU e h x K:=⟨_,by simp only[GU,↓wZ,AO.still];rfl⟩
theorem z5J {C gl e h x K}:NW C gl GU ⟨e,h,x⟩ K=(nS C gl e h x K).1:=(nS C gl e h x K).2
def z2p:ACode:=(.seq (rg [mV 4 (.c (.p (.sl (some 6) []))),
mV 5 (cI 0)] [0,1])
(.seq (.seq (rg [mV 10 0,
mV 11 1,
cL 12 lJ [10,11],
mV 6 12] [0,1,6])
(.seq (rg [mV 13 6,
bN 14 .neq 13 (cI 0)] [0,1,6,14])
(.cond 14 (.seq (rg [mV 15 6,
mV 4 (.c (.p (.sl (some 6) []))),
mV 5 15] [4,5])
.ret)
.skip)))
(.seq (rg [mV 16 1,
cL 17 EO [16],
mV 7 17] [0,1,7])
(.seq (.seq (rg [mV 18 0,
mV 19 1,
cL 20 kJ [18,19],
lN 21 20,
mV 22 (cI 0)] [7,20,21,22])
(.block 0 (.loop lM)))
GU))))
def DX:AFun:=⟨2,[.t 4,.t 5],z2p,false,false⟩
def KN (C:Hd)(gl:GL)(e:En)(h:aA)(x:Esc)(K:KT):Sf C gl z2p e h x K:=⟨_,by simp only[z2p,↓wZ,AO.still];rfl⟩
theorem zia {C gl v0 v1 h x K}:NW C gl DX.body ⟨enter [v0,v1],h,x⟩ K=(KN C gl [(0,v0),(1,v1)] h x K).1:=(KN C gl [(0,v0),(1,v1)] h x K).2
def IL:ACode:=.pr [0,14,15,16] (.seq (rg [bN 17 .lss 16 15] [0,14,15,16,17])
(.seq (.cond 17 .skip
(.exit 1))
(.seq (.block 2 (.seq (rg [mV 18 16,
iA 19 (some 5) 14 16,
lD 20 (some 5) 19,
uO 4 (.alloc [.p (.str []),.p (.int .i64 0),.p (.int .i64 0),.sl0 (some 2),.sl0 (some 2)]),
mV 3 18,
wO (.store (some 5) 4 20)] [0,3,4,14,15,16])
(.seq (.block 3 (.seq (rg [fA 22 0 none 4,
lD 23 none 22,
cL 24 HK [23],
uO 25 (.un .not 24),
mV 21 25] [0,3,4,14,15,16,21])
(.cond 21 (.seq (rg [mV 2 (cI 5)] [2])
.ret)
(.seq (rg [mV 27 0,
mV 28 3,
uO 29 (.slice (some 5) 27 none (some 28) none),
uO 30 (.mkfn qO [4]),
cL 31 OK [29,30],
mV 26 31] [0,4,14,15,16,26])
(.cond 26 (.seq (rg [mV 2 (cI 6)] [2])
.ret)
(.seq (rg [fA 33 1 none 4,
lD 34 none 33,
cL 35 HH [34,(cI 2),(cI 32)],
uO 36 (.un .not 35),
mV 37 36,
gD 38 37 false (.faddr 2 none 4),
gD 39 37 false (.load none 38),
gD 40 37 false (.call HH [39,(cI 0),(cI 4294967295)]),
gD 41 37 false (.un .not 40),
uO 42 (.pick 37 cT 41),
mV 32 42] [0,4,14,15,16,32])
(.cond 32 (.seq (rg [mV 2 (cI 1)] [2])
.ret)
(.seq (rg [fA 44 2 none 4,
lD 45 none 44,
bN 46 .neq 45 (cI 0),
mV 47 46,
gD 48 47 true (.faddr 2 none 4),
gD 49 47 true (.load none 48),
gD 50 47 true (.bin .rem 49 (cI 2)),
gD 51 47 true (.bin .eql 50 (cI 0)),
uO 52 (.pick 47 51 cF),
mV 43 52] [0,4,14,15,16,43])
(.cond 43 (.seq (rg [mV 2 (cI 3)] [2])
.ret)
.skip)))))))))
(.seq (rg [lD 53 (some 5) 4,
cL 54 yO [53],
mV 5 54] [0,5,14,15,16])
(.seq (rg [mV 55 5,
bN 56 .neq 55 (cI 0)] [0,5,14,15,16,56])
(.cond 56 (.seq (rg [mV 57 5,
mV 2 57] [2])
.ret)
.skip))))))
(rg [bN 58 .add 16 (cI 1),
mV 16 58] [0,14,15,16]))))
def TE (C:Hd)(gl:GL)(e:En)(h:aA)(x:Esc)(K:KT):Sf C gl IL e h x K:=⟨_,by simp only[IL,↓wZ,AO.still];rfl⟩
theorem MF {C gl e h x K}:NW C gl IL ⟨e,h,x⟩ K=(TE C gl e h x K).1:=(TE C gl e h x K).2
theorem zjZ {C gl e h x K}:NW C gl (.loop (.scope IL)) ⟨e,h,x⟩ K=QA C gl (.scope IL) K [(0,gA e 0),(14,gA e 14),(15,gA e 15),(16,gA e 16)] h x:=BC
def PT:ACode:=.pr [] (.seq (rg [mV 2 (cI 0)] [2])
.ret)
def jR (C:Hd)(gl:GL)(e:En)(h:aA)(x:Esc)(K:KT):Sf C gl PT e h x K:=⟨_,by simp only[PT,↓wZ,AO.still];rfl⟩
theorem z5C {C gl e h x K}:NW C gl PT ⟨e,h,x⟩ K=(jR C gl e h x K).1:=(jR C gl e h x K).2
def z1p:ACode:=(.seq (rg [mV 2 (cI 0)] [0])
(.seq (.block 0 (.seq (rg [mV 7 0,
lN 8 7,
bN 9 .eql 8 (cI 0),
mV 6 9] [0,6])
(.cond 6 (.seq (rg [mV 2 (cI 8)] [2])
.ret)
(.seq (rg [mV 11 0,
lN 12 11,
bN 13 .gtr 12 (cI 20),
mV 10 13] [0,10])
(.cond 10 (.seq (rg [mV 2 (cI 2)] [2])
.ret)
.skip)))))
(.seq (.seq (rg [mV 14 0,
lN 15 14,
mV 16 (cI 0)] [0,14,15,16])
(.block 1 (.loop (.scope IL))))
PT)))
def wW:AFun:=⟨1,[.t 2],z1p,false,false⟩
def mK (C:Hd)(gl:GL)(e:En)(h:aA)(x:Esc)(K:KT):Sf C gl z1p e h x K:=⟨_,by simp only[z1p,↓wZ,AO.still];rfl⟩
theorem zgr {C gl v0 h x K}:NW C gl wW.body ⟨enter [v0],h,x⟩ K=(mK C gl [(0,v0)] h x K).1:=(mK C gl [(0,v0)] h x K).2
def OL:ACode:=.pr [0,12,13,14] (.seq (rg [bN 15 .lss 14 13] [0,12,13,14,15])
(.seq (.cond 15 .skip
(.exit 0))
(.seq (.block 1 (.seq (rg [iA 16 (some 6) 12 14,
lD 17 (some 6) 16,
uO 4 (.alloc [.p (.int .i64 0),.p (.int .i64 0),.p (.int .i64 0),.p (.str []),.p (.str []),.p (.str [])]),
wO (.store (some 6) 4 17)] [0,4,12,13,14])
(.seq (rg [lD 18 (some 6) 4,
cL 19 BO [18],
mV 5 19] [0,5,12,13,14])
(.seq (rg [mV 20 5,
bN 21 .neq 20 (cI 0)] [0,5,12,13,14,21])
(.cond 21 (.seq (rg [mV 22 5,
mV 2 22] [2])
.ret)
.skip)))))
(rg [bN 23 .add 14 (cI 1),
mV 14 23] [0,12,13,14]))))
def aZ (C:Hd)(gl:GL)(e:En)(h:aA)(x:Esc)(K:KT):Sf C gl OL e h x K:=⟨_,by simp only[OL,↓wZ,AO.still];rfl⟩
theorem zgC {C gl e h x K}:NW C gl OL ⟨e,h,x⟩ K=(aZ C gl e h x K).1:=(aZ C gl e h x K).2
theorem zkf {C gl e h x K}:NW C gl (.loop (.scope OL)) ⟨e,h,x⟩ K=QA C gl (.scope OL) K [(0,gA e 0),(12,gA e 12),(13,gA e 13),(14,gA e 14)] h x:=BC
def VT:ACode:=.pr [0] (.seq (.seq (rg [mV 25 0,
cL 26 JK [25],
mV 24 26,
eX 27 24 0,
eX 28 24 1,
eX 29 24 2,
mV 6 27,
mV 7 28,
mV 8 29] [6])
(.seq (rg [mV 30 6,
uO 31 (.lens 30),
bN 32 .gtr 31 (cI 20000)] [32])
(.cond 32 (.seq (rg [mV 2 (cI 2)] [2])
.ret)
.skip)))
(.seq (rg [mV 2 (cI 0)] [2])
.ret))
def bZ (C:Hd)(gl:GL)(e:En)(h:aA)(x:Esc)(K:KT):Sf C gl VT e h x K:=⟨_,by simp only[VT,↓wZ,AO.still];rfl⟩
theorem zgD {C gl e h x K}:NW C gl VT ⟨e,h,x⟩ K=(bZ C gl e h x K).1:=(bZ C gl e h x K).2
def z12:ACode:=(.seq (rg [mV 2 (cI 0)] [0])
(.seq (.seq (rg [mV 9 0,
lN 10 9,
bN 11 .gtr 10 (cI 1000)] [0,11])
(.cond 11 (.seq (rg [mV 2 (cI 2)] [2])
.ret)
.skip))
(.seq (.seq (rg [mV 12 0,
lN 13 12,
mV 14 (cI 0)] [0,12,13,14])
(.block 0 (.loop (.scope OL))))
VT)))
def KW:AFun:=⟨1,[.t 2],z12,false,false⟩
def zN (C:Hd)(gl:GL)(e:En)(h:aA)(x:Esc)(K:KT):Sf C gl z12 e h x K:=⟨_,by simp only[z12,↓wZ,AO.still];rfl⟩
theorem zgB {C gl v0 h x K}:NW C gl KW.body ⟨enter [v0],h,x⟩ K=(zN C gl [(0,v0)] h x K).1:=(zN C gl [(0,v0)] h x K).2
def FL:ACode:=.pr [0,1,6] (.seq (rg [bN 7 .lss 6 (cI 6)] [0,1,6,7])
(.seq (.cond 7 .skip
(.exit 0))
(.seq (.block 1 (.seq (rg [mV 8 0,
mV 9 1,
cL 10 mO [8,9],
mV 5 10] [0,1,5,6])
(.seq (rg [mV 11 5,
cL 12 IK [11],
bN 13 .eql 12 (cI 0),
mV 14 13,
gD 15 14 true (.mv 5),
gD 16 14 true (.len 15),
gD 17 14 true (.mv 1),
gD 18 14 true (.bin .leq 16 17),
uO 19 (.pick 14 18 cF)] [0,1,5,6,19])
(.cond 19 (.seq (rg [mV 20 5,
mV 4 20] [4])
.ret)
.skip))))
(rg [bN 21 .add 6 (cI 1),
mV 6 21] [0,1,6]))))
def PY (C:Hd)(gl:GL)(e:En)(h:aA)(x:Esc)(K:KT):Sf C gl FL e h x K:=⟨_,by simp only[FL,↓wZ,AO.still];rfl⟩
theorem zgk {C gl e h x K}:NW C gl FL ⟨e,h,x⟩ K=(PY C gl e h x K).1:=(PY C gl e h x K).2
theorem zjX {C gl e h x K}:NW C gl (.loop FL) ⟨e,h,x⟩ K=QA C gl FL K [(0,gA e 0),(1,gA e 1),(6,gA e 6)] h x:=dC
def NT:ACode:=.pr [] (.seq (rg [mV 4 (.c (.p (.sl (some 6) [])))] [4])
.ret)
def QY (C:Hd)(gl:GL)(e:En)(h:aA)(x:Esc)(K:KT):Sf C gl NT e h x K:=⟨_,by simp only[NT,↓wZ,AO.still];rfl⟩
theorem zgl {C gl e h x K}:NW C gl NT ⟨e,h,x⟩ K=(QY C gl e h x K).1:=(QY C gl e h x K).2
def z1l:ACode:=(.seq (rg [mV 4 (.c (.p (.sl (some 6) [])))] [0,1])
(.seq (.seq (rg [mV 6 (cI 0)] [0,1,6])
(.block 0 (.loop FL)))
NT))
def sW:AFun:=⟨2,[.t 4],z1l,false,false⟩
def fR (C:Hd)(gl:GL)(e:En)(h:aA)(x:Esc)(K:KT):Sf C gl z1l e h x K:=⟨_,by simp only[z1l,↓wZ,AO.still];rfl⟩
theorem zgj {C gl v0 v1 h x K}:NW C gl sW.body ⟨enter [v0,v1],h,x⟩ K=(fR C gl [(0,v0),(1,v1)] h x K).1:=(fR C gl [(0,v0),(1,v1)] h x K).2
def z2r:ACode:=(.seq (rg [mV 2 (cS []),
mV 3 (cS []),
mV 4 (cS []),
mV 5 (cI 0)] [0])
(.seq (.seq (rg [mV 8 0,
cL 9 PG [8],
mV 6 9] [0,6])
(.seq (rg [mV 10 6,
bN 11 .neq 10 (cI 0)] [0,6,11])
(.cond 11 (.seq (rg [mV 12 6,
mV 2 (cS []),
mV 3 (cS []),
mV 4 (cS []),
mV 5 12] [2,3,4,5])
.ret)
.skip)))
(.seq (rg [mV 13 0,
cL 14 bL [13],
mV 7 14] [7])
(.seq (dr [dF (mV 15 7) [7],
dF (uO 16 (.nilchk 15)) [15],
dF (fA 17 42 none 16) [16],
dF (lD 18 none 17) [17],
dF (uO 19 (.conv .b2s 18)) [18],
dF (mV 20 7) [7],
dF (uO 21 (.nilchk 20)) [20],
dF (fA 22 43 none 21) [21],
dF (lD 23 none 22) [22],
dF (uO 24 (.conv .b2s 23)) [23],
dF (mV 25 7) [7],
dF (uO 26 (.nilchk 25)) [25],
dF (fA 27 44 none 26) [26],
dF (lD 28 none 27) [27],
dF (uO 29 (.conv .b2s 28)) [28],
dF (mV 2 19) [19],
dF (mV 3 24) [24],
dF (mV 4 29) [29],
dF (mV 5 (cI 0)) []] [2,3,4,5])
.ret))))
def FX:AFun:=⟨1,[.t 2,.t 3,.t 4,.t 5],z2r,false,false⟩
def ON (C:Hd)(gl:GL)(e:En)(h:aA)(x:Esc)(K:KT):Sf C gl z2r e h x K:=⟨_,by simp only[z2r,↓wZ,AO.still];rfl⟩
theorem zic {C gl v0 h x K}:NW C gl FX.body ⟨enter [v0],h,x⟩ K=(ON C gl [(0,v0)] h x K).1:=(ON C gl [(0,v0)] h x K).2
def BL:ACode:=.pr [5,6,7] (.seq (rg [bN 8 .lss 7 6] [5,6,7,8])
(.seq (.cond 8 .skip
(.exit 0))
(.seq (.block 1 (.seq (rg [iA 9 none 5 7,
lD 10 none 9,
mV 4 10] [4,5,6,7])
(.seq (rg [mV 11 4,
bN 12 .neq 11 (cI 0)] [4,5,6,7,12])
(.cond 12 (.seq (rg [mV 13 4,
mV 2 13] [2])
.ret)
.skip))))
(rg [bN 14 .add 7 (cI 1),
mV 7 14] [5,6,7]))))
def HY (C:Hd)(gl:GL)(e:En)(h:aA)(x:Esc)(K:KT):Sf C gl BL e h x K:=⟨_,by simp only[BL,↓wZ,AO.still];rfl⟩
theorem zfP {C gl e h x K}:NW C gl BL ⟨e,h,x⟩ K=(HY C gl e h x K).1:=(HY C gl e h x K).2
theorem zjT {C gl e h x K}:NW C gl (.loop BL) ⟨e,h,x⟩ K=QA C gl BL K [(5,gA e 5),(6,gA e 6),(7,gA e 7)] h x:=dC
def ET:ACode:=.pr [] (.seq (rg [mV 2 (cI 0)] [2])
.ret)
def IY (C:Hd)(gl:GL)(e:En)(h:aA)(x:Esc)(K:KT):Sf C gl ET e h x K:=⟨_,by simp only[ET,↓wZ,AO.still];rfl⟩
theorem zfQ {C gl e h x K}:NW C gl ET ⟨e,h,x⟩ K=(IY C gl e h x K).1:=(IY C gl e h x K).2
def z1b:ACode:=(.seq (rg [mV 2 (cI 0)] [0])
(.seq (.seq (rg [mV 5 0,
lN 6 5,
mV 7 (cI 0)] [5,6,7])
(.block 0 (.loop BL)))
ET))
def lQ:AFun:=⟨1,[.t 2],z1b,false,false⟩
def XQ (C:Hd)(gl:GL)(e:En)(h:aA)(x:Esc)(K:KT):Sf C gl z1b e h x K:=⟨_,by simp only[z1b,↓wZ,AO.still];rfl⟩
theorem zfO {C gl v0 h x K}:NW C gl lQ.body ⟨enter [v0],h,x⟩ K=(XQ C gl [(0,v0)] h x K).1:=(XQ C gl [(0,v0)] h x K).2
def z1h:ACode:=(.seq (rg [mV 4 (cI 0)] [0,1])
(.seq (rg [mV 7 0,
uO 8 (.nilchk 7),
fA 9 1 none 8,
lD 10 none 9,
bN 11 .add 10 (cI 1),
uO 12 (.nilchk 7),
fA 13 1 none 12,
wO (.store none 13 11)] [0,1])
(.seq (.seq (rg [mV 14 0,
uO 15 (.nilchk 14),
fA 16 0 none 15,
lD 17 none 16,
lN 18 17,
bN 19 .eql 18 (cI 0)] [0,1,19])
(.cond 19 (.seq (rg [mV 20 0,
uO 21 (.nilchk 20),
fA 22 1 none 21,
lD 23 none 22,
bN 24 .mul 23 (cI 7919),
mV 25 1,
cL 26 dJ [24,25],
mV 4 26] [4])
.ret)
.skip))
(.seq (dr [dF (mV 27 0) [0],
dF (uO 28 (.nilchk 27)) [27],
dF (fA 29 1 none 28) [28],
dF (lD 30 none 29) [29],
dF (bN 31 .sub 30 (cI 1)) [30],
dF (mV 32 0) [0],
dF (uO 33 (.nilchk 32)) [32],
dF (fA 34 0 none 33) [33],
dF (lD 35 none 34) [34],
dF (lN 36 35) [35],
dF (bN 37 .rem 31 36) [31,36],
dF (mV 5 37) [37]] [0,1,5])
(.seq (dr [dF (mV 38 0) [0],
dF (uO 39 (.nilchk 38)) [38],
dF (fA 40 1 none 39) [39],
dF (lD 41 none 40) [40],
dF (bN 42 .sub 41 (cI 1)) [41],
dF (mV 43 0) [0],
dF (uO 44 (.nilchk 43)) [43],
dF (fA 45 0 none 44) [44],
dF (lD 46 none 45) [45],
dF (lN 47 46) [46],
dF (bN 48 .quo 42 47) [42,47],
dF (mV 6 48) [48]] [0,1,5,6])
(.seq (rg [mV 49 0,
uO 50 (.nilchk 49),
fA 51 0 none 50,
lD 52 none 51,
mV 53 5,
iA 54 none 52 53,
lD 55 none 54,
cL 56 dJ [55,(cI 1073741824)],
mV 57 6,
mV 58 5,
bN 59 .add (cI 7919) 58,
bN 60 .mul 57 59,
bN 61 .add 56 60,
mV 62 1,
cL 63 dJ [61,62],
mV 4 63] [4])
.ret))))))
def oW:AFun:=⟨2,[.t 4],z1h,false,false⟩
def uN (C:Hd)(gl:GL)(e:En)(h:aA)(x:Esc)(K:KT):Sf C gl z1h e h x K:=⟨_,by simp only[z1h,↓wZ,AO.still];rfl⟩
theorem zgf {C gl v0 v1 h x K}:NW C gl oW.body ⟨enter [v0,v1],h,x⟩ K=(uN C gl [(0,v0),(1,v1)] h x K).1:=(uN C gl [(0,v0),(1,v1)] h x K).2
def z1m:ACode:=(.seq (rg [mV 4 (cS [])] [0,1])
(.seq (rg [mV 5 1,
mV 6 0,
mV 7 1,
lN 8 7,
cL 9 YE [6,8],
iA 10 none 5 9,
lD 11 none 10,
mV 4 11] [4])
.ret))
def tW:AFun:=⟨2,[.t 4],z1m,false,false⟩
def gR (C:Hd)(gl:GL)(e:En)(h:aA)(x:Esc)(K:KT):Sf C gl z1m e h x K:=⟨_,by simp only[z1m,↓wZ,AO.still];rfl⟩
theorem zgm {C gl v0 v1 h x K}:NW C gl tW.body ⟨enter [v0,v1],h,x⟩ K=(gR C gl [(0,v0),(1,v1)] h x K).1:=(gR C gl [(0,v0),(1,v1)] h x K).2
def z1g:ACode:=(.seq (rg [mV 4 cF] [0,1])
(.seq (rg [mV 5 0,
mV 6 1,
cL 7 YE [5,6],
bN 8 .eql 7 (cI 0),
mV 4 8] [4])
.ret))
def nW:AFun:=⟨2,[.t 4],z1g,false,false⟩
def bR (C:Hd)(gl:GL)(e:En)(h:aA)(x:Esc)(K:KT):Sf C gl z1g e h x K:=⟨_,by simp only[z1g,↓wZ,AO.still];rfl⟩
theorem zge {C gl v0 v1 h x K}:NW C gl nW.body ⟨enter [v0,v1],h,x⟩ K=(bR C gl [(0,v0),(1,v1)] h x K).1:=(bR C gl [(0,v0),(1,v1)] h x K).2
def z1j:ACode:=(.seq (rg [mV 4 (cI 0)] [0,1])
(.seq (rg [mV 5 1,
mV 6 0,
mV 7 1,
lN 8 7,
cL 9 YE [6,8],
iA 10 none 5 9,
lD 11 none 10,
mV 4 11] [4])
.ret))
def qW:AFun:=⟨2,[.t 4],z1j,false,false⟩
def cR (C:Hd)(gl:GL)(e:En)(h:aA)(x:Esc)(K:KT):Sf C gl z1j e h x K:=⟨_,by simp only[z1j,↓wZ,AO.still];rfl⟩
theorem zgh {C gl v0 v1 h x K}:NW C gl qW.body ⟨enter [v0,v1],h,x⟩ K=(cR C gl [(0,v0),(1,v1)] h x K).1:=(cR C gl [(0,v0),(1,v1)] h x K).2
def z1d:ACode:=.pr [0,2,3,30] (.cond 30 (.seq (rg [mV 33 0,
mV 34 0,
uO 35 (.bsl false none 5 (.int .i64 0) [(0,(cI 1)),(1,(cI 2)),(2,(cI 3)),(3,(cI 5)),(4,(cI 8))]),
cL 36 EC [34,35],
cL 37 tF [33,36],
fA 38 3 none 3,
wO (.store none 38 37)] [0,2,3])
(.seq (rg [mV 39 0,
cL 40 jE [39,(cI 2)]] [0,2,3,40])
(.cond 40 (dr [dF (mV 41 0) [0],
dF (fA 42 3 none 3) [3],
dF (lD 43 none 42) [42],
dF (uO 44 (.lens 43)) [43],
dT (cL 45 tF [41,44]) [41,44],
dF (mV 46 0) [0],
dF (fA 47 3 none 3) [3],
dA (lD 48 none 47) [47] false [4] [],
dF (uO 49 (.lens 48)) [48],
dT (cL 50 tF [46,49]) [46,49],
dF (fA 51 4 none 3) [3],
dT (wO (.store none 51 45)) [51,45],
dF (fA 52 5 none 3) [3],
dT (wO (.store none 52 50)) [52,50]] [0,2,3])
.skip)))
(rg [mV 10 0,
mV 11 0,
uO 12 (.bsl false none 5 (.int .i64 0) [(0,(cI 0)),(1,(cI 0)),(2,(cI 1)),(3,(cI 2)),(4,(cI 3))]),
cL 13 EC [11,12],
cL 14 tF [10,13],
fA 15 3 none 3,
wO (.store none 15 14)] [0,2,3]))
def z5q (C:Hd)(gl:GL)(v0 v2 v3 v30:AV)(h:aA)(x:Esc)(K:KT):Prop:=
 YA v30 (wK (YC false none 5 (.int .i64 0) [(0,(AI 1)),(1,(AI 2)),(2,(AI 3)),(3,(AI 5)),(4,(AI 8))] h) fun t1 h2 y3=>
 C EC [v0,t1] h2 fun t4 h5 y6=>
 C tF [v0,t4] h5 fun t7 h8 y9=>
 pK (EA 3 none v3) fun t10=>
 wK (kB none t10 t7 h8) fun t11 h12 y13=>
 C jE [v0,(AI 2)] h12 fun t14 h15 y16=>
 YA t14 (pK (EA 3 none v3) fun t17=>
 pK (CA none t17 h15) fun t18=>
 pK (JD t18) fun t19=>
 bC C tF [v0,t19] h15 fun t20 h21 y22=>
 pK (EA 3 none v3) fun t23=>
 pK (CA none t23 h21) fun t24=>
 (pK (CA none t23 h15) fun v=>(fun u (g1:aA) (y1:Esc)=>u=t24∧g1=h15∧y1=[]) v h15 [])∧(pK (JD t24) fun t25=>
 bC C tF [v0,t25] h21 fun t26 h27 y28=>
 pK (EA 4 none v3) fun t29=>
 wK (kB none t29 t20 h27) fun t30 h31 y32=>
 pK (EA 5 none v3) fun t33=>
 wK (kB none t33 t26 h31) fun t34 h35 y36=>
 K .normal ⟨[(0,v0),(2,v2),(3,v3)],h35,(y36++(y32++(y28++(y22++(y16++(y13++(y9++(y6++(y3++x)))))))))⟩))
 (K .normal ⟨[(0,v0),(2,v2),(3,v3),(40,t14)],h15,(y16++(y13++(y9++(y6++(y3++x)))))⟩))
 (wK (YC false none 5 (.int .i64 0) [(0,(AI 0)),(1,(AI 0)),(2,(AI 1)),(3,(AI 2)),(4,(AI 3))] h) fun t37 h38 y39=>
 C EC [v0,t37] h38 fun t40 h41 y42=>
 C tF [v0,t40] h41 fun t43 h44 y45=>
 pK (EA 3 none v3) fun t46=>
 wK (kB none t46 t43 h44) fun t47 h48 y49=>
 K .normal ⟨[(0,v0),(2,v2),(3,v3)],h48,(y49++(y45++(y42++(y39++x))))⟩)
theorem zfU {C gl e h x K}:NW C gl z1d ⟨e,h,x⟩ K=z5q C gl (gA e 0) (gA e 2) (gA e 3) (gA e 30) h x K:=by kernel_rfl
def z3V (q1:ACode):ACode:=.pr [0,2,3,9,16] (.cond 16 (rg [mV 20 0,
uO 21 (.bsl false none 5 (.int .i64 0) [(0,(cI 0)),(1,(cI 1)),(2,(cI 1)),(3,(cI 6)),(4,(cI 13))]),
cL 22 EC [20,21],
fA 23 1 none 3,
wO (.store none 23 22)] [0,2,3])
(.seq (rg [bN 25 .eql 9 (cI 9),
mV 24 25] [0,2,3,9,24])
(.cond 24 (rg [mV 26 0,
uO 27 (.bsl false none 4 (.int .i64 0) [(0,(cI 0)),(1,(cI 0)),(2,(cI 1)),(3,(cI 3))]),
cL 28 EC [26,27],
fA 29 2 none 3,
wO (.store none 29 28)] [0,2,3])
(.seq (.seq (rg [bN 31 .eql 9 (cI 7),
mV 30 31] [0,2,3,9,30])
(.cond 30 .skip
(rg [bN 32 .eql 9 (cI 8),
mV 30 32] [0,2,3,30])))
q1))))
def GT:ACode:=z3V z1d
def KY (C:Hd)(gl:GL)(q1:ACode)(v0 v2 v3 v9 v16:AV)(h:aA)(x:Esc)(K:KT):Prop:=
 YA v16 (wK (YC false none 5 (.int .i64 0) [(0,(AI 0)),(1,(AI 1)),(2,(AI 1)),(3,(AI 6)),(4,(AI 13))] h) fun t1 h2 y3=>
 C EC [v0,t1] h2 fun t4 h5 y6=>
 pK (EA 1 none v3) fun t7=>
 wK (kB none t7 t4 h5) fun t8 h9 y10=>
 K .normal ⟨[(0,v0),(2,v2),(3,v3)],h9,(y10++(y6++(y3++x)))⟩)
 (pK (BA .eql v9 (AI 9)) fun t11=>
 YA t11 (wK (YC false none 4 (.int .i64 0) [(0,(AI 0)),(1,(AI 0)),(2,(AI 1)),(3,(AI 3))] h) fun t12 h13 y14=>
 C EC [v0,t12] h13 fun t15 h16 y17=>
 pK (EA 2 none v3) fun t18=>
 wK (kB none t18 t15 h16) fun t19 h20 y21=>
 K .normal ⟨[(0,v0),(2,v2),(3,v3)],h20,(y21++(y17++(y14++x)))⟩)
 (pK (BA .eql v9 (AI 7)) fun t22=>
 YA t22 (NW C gl q1 ⟨[(0,v0),(2,v2),(3,v3),(9,v9),(30,t22)],h,x⟩ K)
 (pK (BA .eql v9 (AI 8)) fun t23=>
 NW C gl q1 ⟨[(0,v0),(2,v2),(3,v3),(30,t23)],h,x⟩ K)))
theorem zaG {C gl q1 e h x K}:NW C gl (z3V q1) ⟨e,h,x⟩ K=KY C gl q1 (gA e 0) (gA e 2) (gA e 3) (gA e 9) (gA e 16) h x K:=by kernel_rfl
theorem zfV {C gl e h x K}:NW C gl GT ⟨e,h,x⟩ K=KY C gl z1d (gA e 0) (gA e 2) (gA e 3) (gA e 9) (gA e 16) h x K:=zaG
def wP:ACode:=.pr [2,3] (.seq (rg [lD 99 (some 6) 3,
wO (.store (some 6) 2 99)] [2])
.ret)
def z5r (C:Hd)(gl:GL)(v2 v3:AV)(h:aA)(x:Esc)(K:KT):Prop:=
 pK (CA (some 6) v3 h) fun t1=>
 wK (kB (some 6) v2 t1 h) fun t2 h3 y4=>
 K .ret ⟨[(2,v2)],h3,(y4++x)⟩
theorem zfW {C gl e h x K}:NW C gl wP ⟨e,h,x⟩ K=z5r C gl (gA e 2) (gA e 3) h x K:=by kernel_rfl
def z3W (q3:ACode):ACode:=.pr [0,2,3] (.seq (.seq (rg [mV 53 0,
cL 54 jE [53,(cI 60)]] [0,2,3,54])
(.cond 54 (.seq (rg [mV 55 0,
cL 56 YE [55,(cI 4)]] [0,2,3,56])
(.block 1 (.seq (rg [bN 71 .eql 56 (cI 0),
mV 70 71] [0,2,3,56,70])
(.cond 70 (rg [mV 72 0,
cL 73 GH [72,(cI 1),(cI 10)],
fA 74 0 none 3,
wO (.store none 74 73)] [2,3])
(.seq (rg [bN 76 .eql 56 (cI 1),
mV 75 76] [0,2,3,56,75])
(.cond 75 (rg [mV 77 0,
cL 78 GH [77,(cI 0),(cI 15)],
mV 79 0,
uO 80 (.bsl false none 5 (.int .i64 0) [(0,(cI 0)),(1,(cI 1)),(2,(cI (-1))),(3,(cI 20000)),(4,(cI 20001))]),
cL 81 EC [79,80],
fA 82 1 none 3,
wO (.store none 82 78),
fA 83 2 none 3,
wO (.store none 83 81)] [2,3])
(.seq (rg [bN 85 .eql 56 (cI 2),
mV 84 85] [0,2,3,84])
(.cond 84 (dr [dF (fA 86 3 none 3) [3],
dF (lD 87 none 86) [86],
dF (mV 88 0) [0],
dF (fA 89 3 none 3) [3],
dF (lD 90 none 89) [89],
dF (uO 91 (.lens 90)) [90],
dF (bN 92 .sub (cI 2000) 91) [91],
dA (cL 93 PB [(cS [48]),92]) [92] true [] [1],
dA (cL 94 PB [(cS [48]),(cI 2001)]) [] true [] [1],
dF (uO 95 (.bsl false none 4 (.str []) [(0,(cS [120])),(1,(cS [])),(2,93),(3,94)])) [93,94],
dA (cL 96 DE [88,95]) [88,95] true [] [1],
dF (bN 97 .add 87 96) [87,96],
dF (fA 98 3 none 3) [3],
dT (wO (.store none 98 97)) [98,97]] [2,3])
(dr [dF (mV 57 0) [0],
dF (fA 58 4 none 3) [3],
dF (lD 59 none 58) [58],
dF (bN 60 .add 59 (cS [49])) [59],
dF (uO 61 (.bsl false none 3 (.str []) [(0,(cS [])),(1,(cS [48])),(2,60)])) [60],
dT (cL 62 DE [57,61]) [57,61],
dF (mV 63 0) [0],
dF (fA 64 5 none 3) [3],
dA (lD 65 none 64) [64] false [5] [],
dA (uO 66 (.bsl false none 4 (.str []) [(0,(cS [])),(1,(cS [49])),(2,(cS [120])),(3,65)])) [65] false [5] [],
dT (cL 67 DE [63,66]) [63,66],
dF (fA 68 4 none 3) [3],
dT (wO (.store none 68 62)) [68,62],
dF (fA 69 5 none 3) [3],
dT (wO (.store none 69 67)) [69,67]] [2,3])))))))))
.skip))
q3)
def HT:ACode:=z3W wP
def FF (C:Hd)(gl:GL)(q3:ACode)(v0 v2 v3:AV)(h:aA)(x:Esc)(K:KT):Prop:=
 C jE [v0,(AI 60)] h fun t1 h2 y3=>
 YA t1 (C YE [v0,(AI 4)] h2 fun t4 h5 y6=>
 pK (BA .eql t4 (AI 0)) fun t7=>
 YA t7 (C GH [v0,(AI 1),(AI 10)] h5 fun t8 h9 y10=>
 pK (EA 0 none v3) fun t11=>
 wK (kB none t11 t8 h9) fun t12 h13 y14=>
 NW C gl q3 ⟨[(2,v2),(3,v3)],h13,(y14++(y10++(y6++(y3++x))))⟩ K)
 (pK (BA .eql t4 (AI 1)) fun t15=>
 YA t15 (C GH [v0,(AI 0),(AI 15)] h5 fun t16 h17 y18=>
 wK (YC false none 5 (.int .i64 0) [(0,(AI 0)),(1,(AI 1)),(2,(AI (-1))),(3,(AI 20000)),(4,(AI 20001))] h17) fun t19 h20 y21=>
 C EC [v0,t19] h20 fun t22 h23 y24=>
 pK (EA 1 none v3) fun t25=>
 wK (kB none t25 t16 h23) fun t26 h27 y28=>
 pK (EA 2 none v3) fun t29=>
 wK (kB none t29 t22 h27) fun t30 h31 y32=>
 NW C gl q3 ⟨[(2,v2),(3,v3)],h31,(y32++(y28++(y24++(y21++(y18++(y6++(y3++x)))))))⟩ K)
 (pK (BA .eql t4 (AI 2)) fun t33=>
 YA t33 (pK (EA 3 none v3) fun t34=>
 pK (CA none t34 h5) fun t35=>
 pK (EA 3 none v3) fun t36=>
 pK (CA none t36 h5) fun t37=>
 pK (JD t37) fun t38=>
 pK (BA .sub (AI 2000) t38) fun t39=>
 bC C PB [(.p (.str [48])),t39] h5 fun t40 h41 y42=>
 (pK (CA none t34 h41) fun v=>(fun u (g1:aA) (y1:Esc)=>u=t35∧g1=h41∧y1=[]) v h41 [])∧(bC C PB [(.p (.str [48])),(AI 2001)] h41 fun t43 h44 y45=>
 (pK (CA none t34 h44) fun v=>(fun u (g1:aA) (y1:Esc)=>u=t35∧g1=h44∧y1=[]) v h44 [])∧(wK (YC false none 4 (.str []) [(0,(.p (.str [120]))),(1,(.p (.str []))),(2,t40),(3,t43)] h44) fun t46 h47 y48=>
 (h47=h44∧y48=[])∧(bC C DE [v0,t46] h47 fun t49 h50 y51=>
 (pK (CA none t34 h50) fun v=>(fun u (g1:aA) (y1:Esc)=>u=t35∧g1=h50∧y1=[]) v h50 [])∧(pK (BA .add t35 t49) fun t52=>
 pK (EA 3 none v3) fun t53=>
 wK (kB none t53 t52 h50) fun t54 h55 y56=>
 NW C gl q3 ⟨[(2,v2),(3,v3)],h55,(y56++(y51++(y48++(y45++(y42++(y6++(y3++x)))))))⟩ K)))))
 (pK (EA 4 none v3) fun t57=>
 pK (CA none t57 h5) fun t58=>
 pK (BA .add t58 (.p (.str [49]))) fun t59=>
 wK (YC false none 3 (.str []) [(0,(.p (.str []))),(1,(.p (.str [48]))),(2,t59)] h5) fun t60 h61 y62=>
 (h61=h5∧y62=[])∧(bC C DE [v0,t60] h61 fun t63 h64 y65=>
 pK (EA 5 none v3) fun t66=>
 pK (CA none t66 h64) fun t67=>
 (pK (CA none t66 h61) fun v=>(fun u (g1:aA) (y1:Esc)=>u=t67∧g1=h61∧y1=[]) v h61 [])∧(wK (YC false none 4 (.str []) [(0,(.p (.str []))),(1,(.p (.str [49]))),(2,(.p (.str [120]))),(3,t67)] h64) fun t68 h69 y70=>
 (h69=h64∧y70=[])∧((wK (YC false none 4 (.str []) [(0,(.p (.str []))),(1,(.p (.str [49]))),(2,(.p (.str [120]))),(3,t67)] h61) (fun u (g1:aA) (y1:Esc)=>u=t68∧g1=h61∧y1=[]))∧(bC C DE [v0,t68] h69 fun t71 h72 y73=>
 pK (EA 4 none v3) fun t74=>
 wK (kB none t74 t63 h72) fun t75 h76 y77=>
 pK (EA 5 none v3) fun t78=>
 wK (kB none t78 t71 h76) fun t79 h80 y81=>
 NW C gl q3 ⟨[(2,v2),(3,v3)],h80,(y81++(y77++(y73++(y70++(y65++(y62++(y6++(y3++x))))))))⟩ K))))))))
 (NW C gl q3 ⟨[(0,v0),(2,v2),(3,v3),(54,t1)],h2,(y3++x)⟩ K)
theorem zaH {C gl q3 e h x K}:NW C gl (z3W q3) ⟨e,h,x⟩ K=FF C gl q3 (gA e 0) (gA e 2) (gA e 3) h x K:=by kernel_rfl
theorem zfX {C gl e h x K}:NW C gl HT ⟨e,h,x⟩ K=FF C gl wP (gA e 0) (gA e 2) (gA e 3) h x K:=zaH
def z3U (q2 q4:ACode):ACode:=(.seq (rg [uO 2 (.alloc [.p (.int .i64 0),.p (.int .i64 0),.p (.int .i64 0),.p (.str []),.p (.str []),.p (.str [])])] [0,2])
(.seq (rg [mV 4 0,
uO 5 (.bsl false none 13 (.int .i64 0) [(0,(cI 7)),(1,(cI 7)),(2,(cI 8)),(3,(cI 8)),(4,(cI 8)),(5,(cI 1)),(6,(cI 2)),(7,(cI 3)),(8,(cI 4)),(9,(cI 5)),(10,(cI 6)),(11,(cI 9)),(12,(cI 10))]),
cL 6 EC [4,5],
uO 7 (.build [.p (.int .i64 0),.p (.int .i64 0),.p (.int .i64 0),.p (.str []),.p (.str []),.p (.str [])] [(0,1,6)]),
uO 3 (.alloc [.p (.int .i64 0),.p (.int .i64 0),.p (.int .i64 0),.p (.str []),.p (.str []),.p (.str [])]),
wO (.store (some 6) 3 7)] [0,2,3])
(.seq (.seq (rg [fA 8 0 none 3,
lD 9 none 8] [0,2,3,9])
(.block 0 (.seq (.seq (rg [bN 17 .eql 9 (cI 1),
mV 16 17] [0,2,3,9,16])
(.cond 16 .skip
(.seq (rg [bN 18 .eql 9 (cI 2),
mV 16 18] [0,2,3,9,16])
(.cond 16 .skip
(rg [bN 19 .eql 9 (cI 10),
mV 16 19] [0,2,3,9,16])))))
q2)))
q4)))
def jW:AFun:=⟨1,[.cell 2 (some 6)],z3U GT HT,false,false⟩
def oF (C:Hd)(gl:GL)(q2 q4:ACode)(v0:AV)(h:aA)(x:Esc)(K:KT):Prop:=
 alK [.p (.int .i64 0),.p (.int .i64 0),.p (.int .i64 0),.p (.str []),.p (.str []),.p (.str [])] h fun t1 h2 y3=>
 wK (YC false none 13 (.int .i64 0) [(0,(AI 7)),(1,(AI 7)),(2,(AI 8)),(3,(AI 8)),(4,(AI 8)),(5,(AI 1)),(6,(AI 2)),(7,(AI 3)),(8,(AI 4)),(9,(AI 5)),(10,(AI 6)),(11,(AI 9)),(12,(AI 10))] h2) fun t4 h5 y6=>
 C EC [v0,t4] h5 fun t7 h8 y9=>
 pK (qC [.p (.int .i64 0),.p (.int .i64 0),.p (.int .i64 0),.p (.str []),.p (.str []),.p (.str [])] [(0,1,t7)]) fun t10=>
 alK [.p (.int .i64 0),.p (.int .i64 0),.p (.int .i64 0),.p (.str []),.p (.str []),.p (.str [])] h8 fun t11 h12 y13=>
 wK (kB (some 6) t11 t10 h12) fun t14 h15 y16=>
 pK (EA 0 none t11) fun t17=>
 pK (CA none t17 h15) fun t18=>
 pK (BA .eql t18 (AI 1)) fun t19=>
 YA t19 (NW C gl q2 ⟨[(0,v0),(2,t1),(3,t11),(9,t18),(16,t19)],h15,(y16++(y13++(y9++(y6++(y3++x)))))⟩ (tC 0 (xD C gl q4 K)))
 (pK (BA .eql t18 (AI 2)) fun t20=>
 YA t20 (NW C gl q2 ⟨[(0,v0),(2,t1),(3,t11),(9,t18),(16,t20)],h15,(y16++(y13++(y9++(y6++(y3++x)))))⟩ (tC 0 (xD C gl q4 K)))
 (pK (BA .eql t18 (AI 10)) fun t21=>
 NW C gl q2 ⟨[(0,v0),(2,t1),(3,t11),(9,t18),(16,t21)],h15,(y16++(y13++(y9++(y6++(y3++x)))))⟩ (tC 0 (xD C gl q4 K))))
theorem zaF {C gl q2 q4 v0 h x K}:NW C gl (z3U q2 q4) ⟨enter [v0],h,x⟩ K=oF C gl q2 q4 v0 h x K:=by kernel_rfl
theorem zfT {C gl v0 h x K}:NW C gl jW.body ⟨enter [v0],h,x⟩ K=oF C gl GT HT v0 h x K:=zaF
def z2x:ACode:=(.seq (rg [mV 4 (cI 0)] [0,1])
(.seq (rg [mV 5 0,
cL 6 JH [5],
mV 7 1,
cL 8 PG [7],
uO 9 (.bsl false none 2 (.int .i64 0) [(0,6),(1,8)]),
cL 10 EH [9],
mV 4 10] [4])
.ret))
def JX:AFun:=⟨2,[.t 4],z2x,false,false⟩
def qS (C:Hd)(gl:GL)(e:En)(h:aA)(x:Esc)(K:KT):Sf C gl z2x e h x K:=⟨_,by simp only[z2x,↓wZ,AO.still];rfl⟩
theorem zil {C gl v0 v1 h x K}:NW C gl JX.body ⟨enter [v0,v1],h,x⟩ K=(qS C gl [(0,v0),(1,v1)] h x K).1:=(qS C gl [(0,v0),(1,v1)] h x K).2
def IU:ACode:=.pr [5,6,8,11,29,30,31] (rg [mV 59 8,
mV 60 11,
uO 61 (.bsl false none 1 (.str []) [(0,60)]),
uO 62 (.app none 59 61),
mV 8 62] [5,6,8,29,30,31])
def QN (C:Hd)(gl:GL)(e:En)(h:aA)(x:Esc)(K:KT):Sf C gl IU e h x K:=⟨_,by simp only[IU,↓wZ,AO.still];rfl⟩
theorem z0g {C gl e h x K}:NW C gl IU ⟨e,h,x⟩ K=(QN C gl e h x K).1:=(QN C gl e h x K).2
def JU:ACode:=.pr [5,6,8,29,30,31] (rg [bN 63 .add 31 (cI 1),
mV 31 63] [5,6,8,29,30,31])
def RN (C:Hd)(gl:GL)(e:En)(h:aA)(x:Esc)(K:KT):Sf C gl JU e h x K:=⟨_,by simp only[JU,↓wZ,AO.still];rfl⟩
theorem z0h {C gl e h x K}:NW C gl JU ⟨e,h,x⟩ K=(RN C gl e h x K).1:=(RN C gl e h x K).2
def mM:ACode:=.pr [5,6,8,29,30,31] (.seq (rg [bN 32 .lss 31 30] [5,6,8,29,30,31,32])
(.seq (.cond 32 .skip
(.exit 0))
(.seq (.block 1 (.seq (rg [mV 33 31,
iA 34 (some 6) 29 31,
lD 35 (some 6) 34,
uO 10 (.alloc [.p (.int .i64 0),.p (.int .i64 0),.p (.int .i64 0),.p (.str []),.p (.str []),.p (.str [])]),
mV 9 33,
wO (.store (some 6) 10 35)] [5,6,8,9,10,29,30,31])
(.seq (rg [mV 11 (cS [])] [5,6,8,9,10,11,29,30,31])
(.seq (.seq (rg [fA 36 0 none 10,
lD 37 none 36,
cL 38 nG [37]] [5,6,8,9,10,11,29,30,31,38])
(.cond 38 (dr [dF (mV 39 6) [6],
dF (mV 40 5) [5],
dF (uO 41 (.nilchk 40)) [40],
dF (fA 42 41 none 41) [41],
dF (lD 43 none 42) [42],
dF (mV 44 9) [9],
dF (iA 45 none 43 44) [43,44],
dF (lD 46 none 45) [45],
dF (mV 47 5) [5],
dF (uO 48 (.nilchk 47)) [47],
dF (fA 49 41 none 48) [48],
dF (lD 50 none 49) [49],
dF (mV 51 9) [9],
dF (iA 52 none 50 51) [50,51],
dF (lD 53 none 52) [52],
dF (fA 54 3 none 10) [10],
dF (lD 55 none 54) [54],
dF (uO 56 (.lens 55)) [55],
dF (bN 57 .add 53 56) [53,56],
dF (uO 58 (.slstr 39 (some 46) (some 57))) [39,46,57],
dF (mV 11 58) [58]] [5,6,8,11,29,30,31])
.skip))
IU))))
JU)))
def zK (C:Hd)(gl:GL)(e:En)(h:aA)(x:Esc)(K:KT):Sf C gl mM e h x K:=⟨_,by simp only[mM,↓wZ,AO.still];rfl⟩
theorem FS {C gl e h x K}:NW C gl mM ⟨e,h,x⟩ K=(zK C gl e h x K).1:=(zK C gl e h x K).2
theorem zk4 {C gl e h x K}:NW C gl (.loop (.scope mM)) ⟨e,h,x⟩ K=QA C gl (.scope mM) K [(5,gA e 5),(6,gA e 6),(8,gA e 8),(29,gA e 29),(30,gA e 30),(31,gA e 31)] h x:=BC
def KU:ACode:=.pr [8] (.seq (rg [mV 64 8,
mV 4 64] [4])
.ret)
def pS (C:Hd)(gl:GL)(e:En)(h:aA)(x:Esc)(K:KT):Sf C gl KU e h x K:=⟨_,by simp only[KU,↓wZ,AO.still];rfl⟩
theorem z5K {C gl e h x K}:NW C gl KU ⟨e,h,x⟩ K=(pS C gl e h x K).1:=(pS C gl e h x K).2
def z2w:ACode:=(.seq (rg [mV 4 (.c (.p (.sl none [])))] [0,1])
(.seq (rg [mV 12 1,
cL 13 bL [12],
mV 5 13] [0,1,5])
(.seq (dr [dF (mV 15 0) [0],
dF (mV 16 5) [5],
dF (uO 17 (.nilchk 16)) [16],
dF (fA 18 42 none 17) [17],
dF (lD 19 none 18) [18],
dF (uO 20 (.conv .b2s 19)) [19],
dF (mV 21 5) [5],
dF (uO 22 (.nilchk 21)) [21],
dF (fA 23 43 none 22) [22],
dF (lD 24 none 23) [23],
dF (uO 25 (.conv .b2s 24)) [24],
dT (cL 26 PO [15,20,25]) [15,20,25],
dF (mV 14 26) [26],
dF (eX 27 14 0) [14],
dF (eX 28 14 1) [14],
dF (mV 6 27) [27],
dF (mV 7 28) [28]] [1,5,6])
(.seq (rg [uO 8 (.new0 none)] [1,5,6,8])
(.seq (.seq (rg [mV 29 1,
lN 30 29,
mV 31 (cI 0)] [5,6,8,29,30,31])
(.block 0 (.loop (.scope mM))))
KU)))))
def GX:AFun:=⟨2,[.t 4],z2w,false,false⟩
def oS (C:Hd)(gl:GL)(e:En)(h:aA)(x:Esc)(K:KT):Sf C gl z2w e h x K:=⟨_,by simp only[z2w,↓wZ,AO.still];rfl⟩
theorem zik {C gl v0 v1 h x K}:NW C gl GX.body ⟨enter [v0,v1],h,x⟩ K=(oS C gl [(0,v0),(1,v1)] h x K).1:=(oS C gl [(0,v0),(1,v1)] h x K).2
def z1D:ACode:=(.det (.seq (rg [mV 2 (.c (.p (.sl (some 6) [])))] [0])
(.seq (.seq (rg [mV 3 0,
uO 4 (.isnil 4 false 3)] [0,4])
(.condu 4 (.seq (rg [uO 2 (.new0 (some 6))] [2])
.ret)
.skip))
(.seq (rg [uO 5 (.bsl true (some 6) 0 (.agg [.int .i64 0,.int .i64 0,.int .i64 0,.str [],.str [],.str []]) []),
mV 6 0,
uO 7 (.app (some 6) 5 6),
mV 2 7] [2])
.ret))))
def VW:AFun:=⟨1,[.t 2],z1D,false,true⟩
def zR (C:Hd)(gl:GL)(e:En)(h:aA)(x:Esc)(K:KT):Sf C gl z1D e h x K:=⟨_,by simp only[z1D,↓wZ,AO.still];rfl⟩
theorem zhd {C gl v0 h x K}:NW C gl VW.body ⟨enter [v0],h,x⟩ K=(zR C gl [(0,v0)] h x K).1:=(zR C gl [(0,v0)] h x K).2
def z2s:ACode:=(.seq (rg [mV 2 cF] [0])
(.seq (rg [mV 3 0,
bN 4 .eql 3 (cI 7),
mV 5 4,
gD 6 5 false (.mv 0),
gD 7 5 false (.bin .eql 6 (cI 8)),
uO 8 (.pick 5 cT 7),
mV 2 8] [2])
.ret))
def rQ:AFun:=⟨1,[.t 2],z2s,false,false⟩
def xK (C:Hd)(gl:GL)(e:En)(h:aA)(x:Esc)(K:KT):Sf C gl z2s e h x K:=⟨_,by simp only[z2s,↓wZ,AO.still];rfl⟩
theorem zid {C gl v0 h x K}:NW C gl rQ.body ⟨enter [v0],h,x⟩ K=(xK C gl [(0,v0)] h x K).1:=(xK C gl [(0,v0)] h x K).2
def z1r:ACode:=(.seq (rg [mV 2 cF] [0])
(.seq (rg [mV 3 0,
uO 4 (.lens 3),
cL 5 HH [4,(cI 1),(cI 40)],
mV 6 5,
gD 7 6 true (.mv 0),
gD 8 6 true (.call gJ [7,(cS [97,98,99,100,101,102,103,104,105,106,107,108,109,110,111,112,113,114,115,116,117,118,119,120,121,122,48,49,50,51,52,53,54,55,56,57,45,95])]),
gD 9 6 true (.bin .eql 8 (cS [])),
uO 10 (.pick 6 9 cF),
mV 11 10,
gD 12 11 true (.mv 0),
gD 13 11 true (.idxs 12 (cI 0)),
gD 14 11 true (.call UK [(cS [97,98,99,100,101,102,103,104,105,106,107,108,109,110,111,112,113,114,115,116,117,118,119,120,121,122]),13]),
gD 15 11 true (.bin .geq 14 (cI 0)),
uO 16 (.pick 11 15 cF),
mV 2 16] [2])
.ret))
def yW:AFun:=⟨1,[.t 2],z1r,false,false⟩
def TI (C:Hd)(gl:GL)(e:En)(h:aA)(x:Esc)(K:KT):Sf C gl z1r e h x K:=⟨_,by simp only[z1r,↓wZ,AO.still];rfl⟩
theorem zgt {C gl v0 h x K}:NW C gl yW.body ⟨enter [v0],h,x⟩ K=(TI C gl [(0,v0)] h x K).1:=(TI C gl [(0,v0)] h x K).2
def z1G:ACode:=(.seq (rg [mV 4 cF] [0,1])
(.seq (rg [mV 5 0,
mV 6 1,
cL 7 HO [5,6],
bN 8 .geq 7 (cI 0),
mV 4 8] [4])
.ret))
def YW:AFun:=⟨2,[.t 4],z1G,true,false⟩
def DR (C:Hd)(gl:GL)(e:En)(h:aA)(x:Esc)(K:KT):Sf C gl z1G e h x K:=⟨_,by simp only[z1G,↓wZ,AO.still];rfl⟩
theorem zhg {C gl v0 v1 h x K}:NW C gl YW.body ⟨enter [v0,v1],h,x⟩ K=(DR C gl [(0,v0),(1,v1)] h x K).1:=(DR C gl [(0,v0),(1,v1)] h x K).2
def z1q:ACode:=(.seq (rg [uO 2 (.box 0),
mV 3 cF] [1,2])
(.seq (rg [fA 4 0 none 2,
lD 5 none 4,
fA 6 0 none 1,
lD 7 none 6,
bN 8 .eql 5 7,
mV 3 8] [3])
.ret))
def xW:AFun:=⟨2,[.t 3],z1q,false,false⟩
def kR (C:Hd)(gl:GL)(e:En)(h:aA)(x:Esc)(K:KT):Sf C gl z1q e h x K:=⟨_,by simp only[z1q,↓wZ,AO.still];rfl⟩
theorem zgs {C gl v0 v1 h x K}:NW C gl xW.body ⟨enter [v0,v1],h,x⟩ K=(kR C gl [(0,v0),(1,v1)] h x K).1:=(kR C gl [(0,v0),(1,v1)] h x K).2
def z1v:ACode:=(.seq (rg [mV 6 cF] [0,1,2])
(.seq (rg [mV 7 1,
mV 8 0,
bN 9 .leq 7 8,
mV 10 9,
gD 11 10 true (.mv 0),
gD 12 10 true (.mv 2),
gD 13 10 true (.bin .leq 11 12),
uO 14 (.pick 10 13 cF),
mV 6 14] [6])
.ret))
def DW:AFun:=⟨3,[.t 6],z1v,false,false⟩
def oR (C:Hd)(gl:GL)(e:En)(h:aA)(x:Esc)(K:KT):Sf C gl z1v e h x K:=⟨_,by simp only[z1v,↓wZ,AO.still];rfl⟩
theorem zg4 {C gl v0 v1 v2 h x K}:NW C gl DW.body ⟨enter [v0,v1,v2],h,x⟩ K=(oR C gl [(0,v0),(1,v1),(2,v2)] h x K).1:=(oR C gl [(0,v0),(1,v1),(2,v2)] h x K).2
end Go.Am
end
section
/- The functions asv abstract code,and asv formulas over their values: printed by program out of the translation. -/
set_option linter.all false
set_option maxRecDepth 100000
namespace Go.Am
def ML:ACode:=.pr [1,18,19,20] (.seq (rg [bN 21 .lss 20 19] [1,18,19,20,21])
(.seq (.cond 21 .skip
(.exit 0))
(.seq (.block 1 (.seq (rg [mV 22 20,
iA 23 (some 2) 18 20,
lD 24 (some 2) 23,
uO 4 (.alloc [.p (.str []),.p (.int .i64 0)]),
mV 3 22,
wO (.store (some 2) 4 24)] [1,3,4,18,19,20])
(.block 2 (.seq (rg [fA 26 0 none 4,
lD 27 none 26,
cL 28 HK [27],
uO 29 (.un .not 28),
mV 25 29] [1,3,4,18,19,20,25])
(.cond 25 (.seq (rg [mV 2 (cI 5)] [2])
.ret)
(.seq (rg [fA 31 0 none 4,
lD 32 none 31,
bN 33 .eql 32 (cS [98,121,112,97,115,115]),
mV 34 33,
gD 35 34 false (.faddr 0 none 4),
gD 36 34 false (.load none 35),
gD 37 34 false (.bin .eql 36 (cS [105,100,99,111,100,101])),
uO 38 (.pick 34 cT 37),
mV 39 38,
gD 40 39 false (.faddr 3 none 1),
gD 41 39 false (.load none 40),
gD 42 39 false (.mv 3),
gD 43 39 false (.slice (some 2) 41 none (some 42) none),
gD 44 39 false (.mkfn zO [4]),
gD 45 39 false (.call eJ [43,44]),
uO 46 (.pick 39 cT 45),
mV 30 46] [1,4,18,19,20,30])
(.cond 30 (.seq (rg [mV 2 (cI 6)] [2])
.ret)
(.seq (rg [fA 48 1 none 4,
lD 49 none 48,
cL 50 HH [49,(cI 1),(cI 1000)],
uO 51 (.un .not 50),
mV 47 51] [1,18,19,20,47])
(.cond 47 (.seq (rg [mV 2 (cI 1)] [2])
.ret)
.skip)))))))))
(rg [bN 52 .add 20 (cI 1),
mV 20 52] [1,18,19,20]))))
def HF (C:Hd)(gl:GL)(e:En)(h:aA)(x:Esc)(K:KT):Sf C gl ML e h x K:=⟨_,by simp only[ML,↓wZ,AO.still];rfl⟩
theorem IG {C gl e h x K}:NW C gl ML ⟨e,h,x⟩ K=(HF C gl e h x K).1:=(HF C gl e h x K).2
theorem zkd {C gl e h x K}:NW C gl (.loop (.scope ML)) ⟨e,h,x⟩ K=QA C gl (.scope ML) K [(1,gA e 1),(18,gA e 18),(19,gA e 19),(20,gA e 20)] h x:=BC
def NL:ACode:=.pr [1,55,56] (.seq (rg [bN 57 .lss 56 55] [1,55,56,57])
(.seq (.cond 57 .skip
(.exit 3))
(.seq (.block 4 (.seq (rg [mV 58 56,
mV 5 58] [1,5,55,56])
(.seq (rg [lD 59 (some 5) 1,
mV 60 5,
cL 61 tO [59,60],
mV 6 61] [1,6,55,56])
(.seq (rg [mV 62 6,
bN 63 .neq 62 (cI 0)] [1,6,55,56,63])
(.cond 63 (.seq (rg [mV 64 6,
mV 2 64] [2])
.ret)
.skip)))))
(rg [bN 65 .add 56 (cI 1),
mV 56 65] [1,55,56]))))
def UI (C:Hd)(gl:GL)(e:En)(h:aA)(x:Esc)(K:KT):Sf C gl NL e h x K:=⟨_,by simp only[NL,↓wZ,AO.still];rfl⟩
theorem VN {C gl e h x K}:NW C gl NL ⟨e,h,x⟩ K=(UI C gl e h x K).1:=(UI C gl e h x K).2
theorem zke {C gl e h x K}:NW C gl (.loop NL) ⟨e,h,x⟩ K=QA C gl NL K [(1,gA e 1),(55,gA e 55),(56,gA e 56)] h x:=dC
def UT:ACode:=.pr [] (.seq (rg [mV 2 (cI 0)] [2])
.ret)
def xN (C:Hd)(gl:GL)(e:En)(h:aA)(x:Esc)(K:KT):Sf C gl UT e h x K:=⟨_,by simp only[UT,↓wZ,AO.still];rfl⟩
theorem VZ {C gl e h x K}:NW C gl UT ⟨e,h,x⟩ K=(xN C gl e h x K).1:=(xN C gl e h x K).2
def zP:ACode:=.pr [1] (.seq (.seq (rg [fA 53 4 none 1,
lD 54 none 53,
lN 55 54,
mV 56 (cI 0)] [1,55,56])
(.block 3 (.loop NL)))
UT)
def yN (C:Hd)(gl:GL)(e:En)(h:aA)(x:Esc)(K:KT):Sf C gl zP e h x K:=⟨_,by simp only[zP,↓wZ,AO.still];rfl⟩
theorem WZ {C gl e h x K}:NW C gl zP ⟨e,h,x⟩ K=(yN C gl e h x K).1:=(yN C gl e h x K).2
def z1z:ACode:=(.seq (rg [uO 1 (.box 0),
mV 2 (cI 0)] [1])
(.seq (.seq (rg [fA 7 3 none 1,
lD 8 none 7,
lN 9 8,
bN 10 .gtr 9 (cI 10),
mV 11 10,
gD 12 11 false (.faddr 4 none 1),
gD 13 11 false (.load none 12),
gD 14 11 false (.len 13),
gD 15 11 false (.bin .gtr 14 (cI 100)),
uO 16 (.pick 11 cT 15)] [1,16])
(.cond 16 (.seq (rg [mV 2 (cI 2)] [2])
.ret)
.skip))
(.seq (.seq (rg [fA 17 3 none 1,
lD 18 none 17,
lN 19 18,
mV 20 (cI 0)] [1,18,19,20])
(.block 0 (.loop (.scope ML))))
zP)))
def HW:AFun:=⟨1,[.t 2],z1z,false,false⟩
def nK (C:Hd)(gl:GL)(e:En)(h:aA)(x:Esc)(K:KT):Sf C gl z1z e h x K:=⟨_,by simp only[z1z,↓wZ,AO.still];rfl⟩
theorem zg8 {C gl v0 h x K}:NW C gl HW.body ⟨enter [v0],h,x⟩ K=(nK C gl [(0,v0)] h x K).1:=(nK C gl [(0,v0)] h x K).2
def z14:ACode:=.pr [1,3,48] (.cond 48 (.seq (dr [dF (fA 51 3 none 1) [1],
dF (lD 52 none 51) [51],
dF (fA 53 4 none 1) [1],
dF (lD 54 none 53) [53],
dF (fA 55 5 none 1) [1],
dF (lD 56 none 55) [55],
dF (fA 57 3 none 3) [3],
dA (wO (.store none 57 52)) [57,52] true [] [3,5],
dF (fA 58 4 none 3) [3],
dA (wO (.store none 58 54)) [58,54] true [] [5],
dF (fA 59 5 none 3) [3],
dT (wO (.store none 59 56)) [59,56]] [1,3])
(.seq (rg [lD 60 (some 6) 1,
cL 61 MK [60],
mV 4 61] [1,3,4])
(.seq (rg [mV 62 4,
bN 63 .neq 62 (cI 0)] [1,3,4,63])
(.cond 63 (.seq (rg [mV 64 4,
mV 2 64] [2])
.ret)
.skip))))
(.seq (rg [mV 2 (cI 4)] [2])
.ret))
def VI (C:Hd)(gl:GL)(v1 v3 v48:AV)(h:aA)(x:Esc)(K:KT):Prop:=
 YA v48 (pK (EA 3 none v1) fun t1=>
 pK (CA none t1 h) fun t2=>
 pK (EA 4 none v1) fun t3=>
 pK (CA none t3 h) fun t4=>
 pK (EA 5 none v1) fun t5=>
 pK (CA none t5 h) fun t6=>
 pK (EA 3 none v3) fun t7=>
 wK (kB none t7 t2 h) fun t8 h9 y10=>
 (pK (CA none t3 h9) fun v=>(fun u (g1:aA) (y1:Esc)=>u=t4∧g1=h9∧y1=[]) v h9 [])∧((pK (CA none t5 h9) fun v=>(fun u (g1:aA) (y1:Esc)=>u=t6∧g1=h9∧y1=[]) v h9 [])∧(pK (EA 4 none v3) fun t11=>
 wK (kB none t11 t4 h9) fun t12 h13 y14=>
 (pK (CA none t5 h13) fun v=>(fun u (g1:aA) (y1:Esc)=>u=t6∧g1=h13∧y1=[]) v h13 [])∧(pK (EA 5 none v3) fun t15=>
 wK (kB none t15 t6 h13) fun t16 h17 y18=>
 pK (CA (some 6) v1 h17) fun t19=>
 C MK [t19] h17 fun t20 h21 y22=>
 pK (BA .neq t20 (AI 0)) fun t23=>
 YA t23 (K .ret ⟨[(2,t20)],h21,(y22++(y18++(y14++(y10++x))))⟩)
 (K .normal ⟨[(1,v1),(3,v3),(4,t20),(63,t23)],h21,(y22++(y18++(y14++(y10++x))))⟩)))))
 (K .ret ⟨[(2,(AI 4))],h,x⟩)
theorem zgI {C gl e h x K}:NW C gl z14 ⟨e,h,x⟩ K=VI C gl (gA e 1) (gA e 3) (gA e 48) h x K:=by kernel_rfl
def z3Y (q1:ACode):ACode:=.pr [1,3,9,30] (.cond 30 (.seq (rg [fA 35 3 none 1,
lD 36 none 35,
fA 37 3 none 3,
wO (.store none 37 36)] [1,3])
(.block 1 (.seq (rg [fA 39 3 none 1,
lD 40 none 39,
cL 41 MG [40],
uO 42 (.un .not 41),
mV 38 42] [1,3,38])
(.cond 38 (.seq (rg [mV 2 (cI 9)] [2])
.ret)
(.seq (rg [fA 44 3 none 1,
lD 45 none 44,
uO 46 (.lens 45),
bN 47 .gtr 46 (cI 2000),
mV 43 47] [1,3,43])
(.cond 43 (.seq (rg [mV 2 (cI 2)] [2])
.ret)
.skip))))))
(.seq (.seq (rg [bN 49 .eql 9 (cI 7),
mV 48 49] [1,3,9,48])
(.cond 48 .skip
(rg [bN 50 .eql 9 (cI 8),
mV 48 50] [1,3,48])))
q1))
def z15:ACode:=z3Y z14
def IF (C:Hd)(gl:GL)(q1:ACode)(v1 v3 v9 v30:AV)(h:aA)(x:Esc)(K:KT):Prop:=
 YA v30 (pK (EA 3 none v1) fun t1=>
 pK (CA none t1 h) fun t2=>
 pK (EA 3 none v3) fun t3=>
 wK (kB none t3 t2 h) fun t4 h5 y6=>
 pK (EA 3 none v1) fun t7=>
 pK (CA none t7 h5) fun t8=>
 C MG [t8] h5 fun t9 h10 y11=>
 pK (oUn .not t9) fun t12=>
 YA t12 (K .ret ⟨[(2,(AI 9))],h10,(y11++(y6++x))⟩)
 (pK (EA 3 none v1) fun t13=>
 pK (CA none t13 h10) fun t14=>
 pK (JD t14) fun t15=>
 pK (BA .gtr t15 (AI 2000)) fun t16=>
 YA t16 (K .ret ⟨[(2,(AI 2))],h10,(y11++(y6++x))⟩)
 (K .normal ⟨[(1,v1),(3,v3),(43,t16)],h10,(y11++(y6++x))⟩)))
 (pK (BA .eql v9 (AI 7)) fun t17=>
 YA t17 (NW C gl q1 ⟨[(1,v1),(3,v3),(9,v9),(48,t17)],h,x⟩ K)
 (pK (BA .eql v9 (AI 8)) fun t18=>
 NW C gl q1 ⟨[(1,v1),(3,v3),(48,t18)],h,x⟩ K))
theorem zaJ {C gl q1 e h x K}:NW C gl (z3Y q1) ⟨e,h,x⟩ K=IF C gl q1 (gA e 1) (gA e 3) (gA e 9) (gA e 30) h x K:=by kernel_rfl
theorem zgJ {C gl e h x K}:NW C gl z15 ⟨e,h,x⟩ K=IF C gl z14 (gA e 1) (gA e 3) (gA e 9) (gA e 30) h x K:=zaJ
def z3Z (q2:ACode):ACode:=.pr [1,3,9,10] (.cond 10 (.seq (rg [fA 14 1 none 1,
lD 15 none 14,
fA 16 1 none 3,
wO (.store none 16 15)] [1,3])
(.seq (rg [fA 17 1 none 1,
lD 18 none 17,
cL 19 NK [18],
uO 20 (.un .not 19)] [1,3,20])
(.cond 20 (.seq (rg [mV 2 (cI 1)] [2])
.ret)
.skip)))
(.seq (rg [bN 22 .eql 9 (cI 9),
mV 21 22] [1,3,9,21])
(.cond 21 (.seq (rg [fA 23 2 none 1,
lD 24 none 23,
fA 25 2 none 3,
wO (.store none 25 24)] [1,3])
(.seq (rg [fA 26 2 none 1,
lD 27 none 26,
cL 28 LK [27,(cI 0),(cI 20000)],
uO 29 (.un .not 28)] [1,3,29])
(.cond 29 (.seq (rg [mV 2 (cI 1)] [2])
.ret)
.skip)))
(.seq (.seq (rg [bN 31 .eql 9 (cI 3),
mV 30 31] [1,3,9,30])
(.cond 30 .skip
(.seq (rg [bN 32 .eql 9 (cI 4),
mV 30 32] [1,3,9,30])
(.cond 30 .skip
(.seq (rg [bN 33 .eql 9 (cI 5),
mV 30 33] [1,3,9,30])
(.cond 30 .skip
(rg [bN 34 .eql 9 (cI 6),
mV 30 34] [1,3,9,30])))))))
q2))))
def XT:ACode:=z3Z z15
def FD (C:Hd)(gl:GL)(q2:ACode)(v1 v3 v9 v10:AV)(h:aA)(x:Esc)(K:KT):Prop:=
 YA v10 (pK (EA 1 none v1) fun t1=>
 pK (CA none t1 h) fun t2=>
 pK (EA 1 none v3) fun t3=>
 wK (kB none t3 t2 h) fun t4 h5 y6=>
 pK (EA 1 none v1) fun t7=>
 pK (CA none t7 h5) fun t8=>
 C NK [t8] h5 fun t9 h10 y11=>
 pK (oUn .not t9) fun t12=>
 YA t12 (K .ret ⟨[(2,(AI 1))],h10,(y11++(y6++x))⟩)
 (K .normal ⟨[(1,v1),(3,v3),(20,t12)],h10,(y11++(y6++x))⟩))
 (pK (BA .eql v9 (AI 9)) fun t13=>
 YA t13 (pK (EA 2 none v1) fun t14=>
 pK (CA none t14 h) fun t15=>
 pK (EA 2 none v3) fun t16=>
 wK (kB none t16 t15 h) fun t17 h18 y19=>
 pK (EA 2 none v1) fun t20=>
 pK (CA none t20 h18) fun t21=>
 C LK [t21,(AI 0),(AI 20000)] h18 fun t22 h23 y24=>
 pK (oUn .not t22) fun t25=>
 YA t25 (K .ret ⟨[(2,(AI 1))],h23,(y24++(y19++x))⟩)
 (K .normal ⟨[(1,v1),(3,v3),(29,t25)],h23,(y24++(y19++x))⟩))
 (pK (BA .eql v9 (AI 3)) fun t26=>
 YA t26 (NW C gl q2 ⟨[(1,v1),(3,v3),(9,v9),(30,t26)],h,x⟩ K)
 (pK (BA .eql v9 (AI 4)) fun t27=>
 YA t27 (NW C gl q2 ⟨[(1,v1),(3,v3),(9,v9),(30,t27)],h,x⟩ K)
 (pK (BA .eql v9 (AI 5)) fun t28=>
 YA t28 (NW C gl q2 ⟨[(1,v1),(3,v3),(9,v9),(30,t28)],h,x⟩ K)
 (pK (BA .eql v9 (AI 6)) fun t29=>
 NW C gl q2 ⟨[(1,v1),(3,v3),(9,v9),(30,t29)],h,x⟩ K)))))
theorem zaK {C gl q2 e h x K}:NW C gl (z3Z q2) ⟨e,h,x⟩ K=FD C gl q2 (gA e 1) (gA e 3) (gA e 9) (gA e 10) h x K:=by kernel_rfl
theorem zgK {C gl e h x K}:NW C gl XT ⟨e,h,x⟩ K=FD C gl z15 (gA e 1) (gA e 3) (gA e 9) (gA e 10) h x K:=zaK
def YT:ACode:=.pr [1,3] (.seq (.seq (rg [lD 65 (some 6) 1,
lD 66 (some 6) 3,
uO 67 (.eqa [0,0,0,2,2,2] true 65 66)] [67])
(.cond 67 (.seq (rg [mV 2 (cI 3)] [2])
.ret)
.skip))
(.seq (rg [mV 2 (cI 0)] [2])
.ret))
def oK (C:Hd)(gl:GL)(v1 v3:AV)(h:aA)(x:Esc)(K:KT):Prop:=
 pK (CA (some 6) v1 h) fun t1=>
 pK (CA (some 6) v3 h) fun t2=>
 pK (SA [0,0,0,2,2,2] true t1 t2) fun t3=>
 YA t3 (K .ret ⟨[(2,(AI 3))],h,x⟩)
 (K .ret ⟨[(2,(AI 0))],h,x⟩)
theorem zgL {C gl e h x K}:NW C gl YT ⟨e,h,x⟩ K=oK C gl (gA e 1) (gA e 3) h x K:=by kernel_rfl
def z3X (q3 q4:ACode):ACode:=(.seq (rg [uO 1 (.box 0),
mV 2 (cI 0)] [1])
(.seq (rg [fA 5 0 none 1,
lD 6 none 5,
uO 7 (.build [.p (.int .i64 0),.p (.int .i64 0),.p (.int .i64 0),.p (.str []),.p (.str []),.p (.str [])] [(0,1,6)]),
uO 3 (.alloc [.p (.int .i64 0),.p (.int .i64 0),.p (.int .i64 0),.p (.str []),.p (.str []),.p (.str [])]),
wO (.store (some 6) 3 7)] [1,3])
(.seq (.seq (rg [fA 8 0 none 1,
lD 9 none 8] [1,3,9])
(.block 0 (.seq (.seq (rg [bN 11 .eql 9 (cI 1),
mV 10 11] [1,3,9,10])
(.cond 10 .skip
(.seq (rg [bN 12 .eql 9 (cI 2),
mV 10 12] [1,3,9,10])
(.cond 10 .skip
(rg [bN 13 .eql 9 (cI 10),
mV 10 13] [1,3,9,10])))))
q3)))
q4)))
def MW:AFun:=⟨1,[.t 2],z3X XT YT,false,false⟩
def TD (C:Hd)(gl:GL)(q3 q4:ACode)(v0:AV)(h:aA)(x:Esc)(K:KT):Prop:=
 wK (oL v0 h) fun t1 h2 y3=>
 pK (EA 0 none t1) fun t4=>
 pK (CA none t4 h2) fun t5=>
 pK (qC [.p (.int .i64 0),.p (.int .i64 0),.p (.int .i64 0),.p (.str []),.p (.str []),.p (.str [])] [(0,1,t5)]) fun t6=>
 alK [.p (.int .i64 0),.p (.int .i64 0),.p (.int .i64 0),.p (.str []),.p (.str []),.p (.str [])] h2 fun t7 h8 y9=>
 wK (kB (some 6) t7 t6 h8) fun t10 h11 y12=>
 pK (EA 0 none t1) fun t13=>
 pK (CA none t13 h11) fun t14=>
 pK (BA .eql t14 (AI 1)) fun t15=>
 YA t15 (NW C gl q3 ⟨[(1,t1),(3,t7),(9,t14),(10,t15)],h11,(y12++(y9++(y3++x)))⟩ (tC 0 (xD C gl q4 K)))
 (pK (BA .eql t14 (AI 2)) fun t16=>
 YA t16 (NW C gl q3 ⟨[(1,t1),(3,t7),(9,t14),(10,t16)],h11,(y12++(y9++(y3++x)))⟩ (tC 0 (xD C gl q4 K)))
 (pK (BA .eql t14 (AI 10)) fun t17=>
 NW C gl q3 ⟨[(1,t1),(3,t7),(9,t14),(10,t17)],h11,(y12++(y9++(y3++x)))⟩ (tC 0 (xD C gl q4 K))))
theorem zaI {C gl q3 q4 v0 h x K}:NW C gl (z3X q3 q4) ⟨enter [v0],h,x⟩ K=TD C gl q3 q4 v0 h x K:=by kernel_rfl
theorem zgH {C gl v0 h x K}:NW C gl MW.body ⟨enter [v0],h,x⟩ K=TD C gl XT YT v0 h x K:=zaI
def PL:ACode:=.pr [5,6,7,11,12,13] (.seq (rg [bN 14 .lss 13 12] [5,6,7,11,12,13,14])
(.seq (.cond 14 .skip
(.exit 0))
(.seq (.block 1 (.seq (rg [iA 15 (some 5) 11 13,
lD 16 (some 5) 15,
uO 9 (.alloc [.p (.str []),.p (.str []),.p (.str []),.p (.int .i64 0),.p (.int .i64 0)]),
wO (.store (some 5) 9 16)] [5,6,7,9,11,12,13])
(.seq (rg [fA 17 0 none 9,
lD 18 none 17,
cL 19 lG [5,18]] [5,6,7,9,11,12,13])
(.seq (rg [fA 20 1 none 9,
lD 21 none 20,
cL 22 lG [6,21]] [5,6,7,9,11,12,13])
(rg [fA 23 2 none 9,
lD 24 none 23,
cL 25 lG [7,24]] [5,6,7,11,12,13])))))
(rg [bN 26 .add 13 (cI 1),
mV 13 26] [5,6,7,11,12,13]))))
def cZ (C:Hd)(gl:GL)(e:En)(h:aA)(x:Esc)(K:KT):Sf C gl PL e h x K:=⟨_,by simp only[PL,↓wZ,AO.still];rfl⟩
theorem zgF {C gl e h x K}:NW C gl PL ⟨e,h,x⟩ K=(cZ C gl e h x K).1:=(cZ C gl e h x K).2
theorem zkg {C gl e h x K}:NW C gl (.loop (.scope PL)) ⟨e,h,x⟩ K=QA C gl (.scope PL) K [(5,gA e 5),(6,gA e 6),(7,gA e 7),(11,gA e 11),(12,gA e 12),(13,gA e 13)] h x:=BC
def WT:ACode:=.pr [5,6,7] (.seq (rg [cL 27 fJ [5],
cL 28 fJ [6],
cL 29 fJ [7],
mV 2 27,
mV 3 28,
mV 4 29] [2,3,4])
.ret)
def dZ (C:Hd)(gl:GL)(e:En)(h:aA)(x:Esc)(K:KT):Sf C gl WT e h x K:=⟨_,by simp only[WT,↓wZ,AO.still];rfl⟩
theorem zgG {C gl e h x K}:NW C gl WT ⟨e,h,x⟩ K=(dZ C gl e h x K).1:=(dZ C gl e h x K).2
def z13:ACode:=(.seq (rg [mV 2 (cS []),
mV 3 (cS []),
mV 4 (cS [])] [0])
(.seq (rg [uO 5 (.uns 0 115 [(cI 5)]),
uO 6 (.uns 0 115 [(cI 5)]),
uO 7 (.uns 0 115 [(cI 5)])] [0,5,6,7])
(.seq (.seq (rg [mV 10 0,
cL 11 DO [10],
lN 12 11,
mV 13 (cI 0)] [5,6,7,11,12,13])
(.block 0 (.loop (.scope PL))))
WT)))
def LW:AFun:=⟨1,[.t 2,.t 3,.t 4],z13,false,false⟩
def tR (C:Hd)(gl:GL)(e:En)(h:aA)(x:Esc)(K:KT):Sf C gl z13 e h x K:=⟨_,by simp only[z13,↓wZ,AO.still];rfl⟩
theorem zgE {C gl v0 h x K}:NW C gl LW.body ⟨enter [v0],h,x⟩ K=(tR C gl [(0,v0)] h x K).1:=(tR C gl [(0,v0)] h x K).2
def SL:ACode:=.pr [0,3,4,8,9] (.seq (rg [bN 10 .lss 9 8] [0,3,4,8,9,10])
(.seq (.cond 10 .skip
(.exit 0))
(.seq (.block 1 (.seq (rg [mV 11 9,
mV 5 11] [0,3,4,5,8,9])
(.seq (rg [mV 12 0,
mV 13 5,
mV 14 4,
cL 15 kG [12,13,14],
uO 6 (.alloc [.p (.str []),.p (.str []),.p (.str []),.p (.int .i64 0),.p (.int .i64 0)]),
wO (.store (some 5) 6 15)] [0,3,6,8,9])
(dr [dF (mV 16 3) [3],
dF (lD 17 (some 5) 6) [6],
dF (uO 18 (.bsl false (some 5) 1 (.agg [.str [],.str [],.str [],.int .i64 0,.int .i64 0]) [(0,17)])) [17],
dT (uO 19 (.app (some 5) 16 18)) [16,18],
dF (fA 20 4 none 6) [6],
dA (lD 21 none 20) [20] false [3] [],
dF (mV 3 19) [19],
dF (mV 4 21) [21]] [0,3,4,8,9]))))
(rg [bN 22 .add 9 (cI 1),
mV 9 22] [0,3,4,8,9]))))
def kZ (C:Hd)(gl:GL)(e:En)(h:aA)(x:Esc)(K:KT):Sf C gl SL e h x K:=⟨_,by simp only[SL,↓wZ,AO.still];rfl⟩
theorem zgZ {C gl e h x K}:NW C gl SL ⟨e,h,x⟩ K=(kZ C gl e h x K).1:=(kZ C gl e h x K).2
theorem zkj {C gl e h x K}:NW C gl (.loop (.scope SL)) ⟨e,h,x⟩ K=QA C gl (.scope SL) K [(0,gA e 0),(3,gA e 3),(4,gA e 4),(8,gA e 8),(9,gA e 9)] h x:=BC
def eU:ACode:=.pr [3] (.seq (rg [mV 23 3,
mV 2 23] [2])
.ret)
def lZ (C:Hd)(gl:GL)(e:En)(h:aA)(x:Esc)(K:KT):Sf C gl eU e h x K:=⟨_,by simp only[eU,↓wZ,AO.still];rfl⟩
theorem zha {C gl e h x K}:NW C gl eU ⟨e,h,x⟩ K=(lZ C gl e h x K).1:=(lZ C gl e h x K).2
def z1A:ACode:=(.seq (rg [mV 2 (.c (.p (.sl (some 5) [])))] [0])
(.seq (rg [uO 3 (.new0 (some 5))] [0,3])
(.seq (rg [mV 4 (cI 0)] [0,3,4])
(.seq (.seq (rg [mV 7 0,
lN 8 7,
mV 9 (cI 0)] [0,3,4,8,9])
(.block 0 (.loop (.scope SL))))
eU))))
def SW:AFun:=⟨1,[.t 2],z1A,false,false⟩
def xR (C:Hd)(gl:GL)(e:En)(h:aA)(x:Esc)(K:KT):Sf C gl z1A e h x K:=⟨_,by simp only[z1A,↓wZ,AO.still];rfl⟩
theorem zgY {C gl v0 h x K}:NW C gl SW.body ⟨enter [v0],h,x⟩ K=(xR C gl [(0,v0)] h x K).1:=(xR C gl [(0,v0)] h x K).2
def ZT:ACode:=.pr [1,3,12,13] (rg [bN 28 .add 13 (cI 1),
mV 13 28] [1,3,12,13])
def eZ (C:Hd)(gl:GL)(e:En)(h:aA)(x:Esc)(K:KT):Sf C gl ZT e h x K:=⟨_,by simp only[ZT,↓wZ,AO.still];rfl⟩
theorem zgN {C gl e h x K}:NW C gl ZT ⟨e,h,x⟩ K=(eZ C gl e h x K).1:=(eZ C gl e h x K).2
def QL:ACode:=.pr [1,3,12,13] (.seq (rg [bN 14 .lss 13 12] [1,3,12,13,14])
(.seq (.cond 14 .skip
(.exit 0))
(.seq (.block 1 (.seq (rg [mV 15 13,
mV 4 15] [1,3,4,12,13])
(.seq (rg [fA 16 5 none 1,
lD 17 none 16,
mV 18 4,
uO 19 (.idxs 17 18),
bN 20 .eql 19 (.c (.p (.int .u8 49)))] [1,3,4,12,13,20])
(.cond 20 (rg [mV 21 3,
mV 22 4,
fA 23 4 none 1,
lD 24 none 23,
mV 25 4,
uO 26 (.idxs 24 25),
iA 27 none 21 22,
wO (.store none 27 26)] [1,3,12,13])
.skip))))
ZT)))
def fZ (C:Hd)(gl:GL)(e:En)(h:aA)(x:Esc)(K:KT):Sf C gl QL e h x K:=⟨_,by simp only[QL,↓wZ,AO.still];rfl⟩
theorem zgO {C gl e h x K}:NW C gl QL ⟨e,h,x⟩ K=(fZ C gl e h x K).1:=(fZ C gl e h x K).2
theorem zkh {C gl e h x K}:NW C gl (.loop QL) ⟨e,h,x⟩ K=QA C gl QL K [(1,gA e 1),(3,gA e 3),(12,gA e 12),(13,gA e 13)] h x:=dC
def aU:ACode:=.pr [3] (.seq (rg [mV 29 3,
uO 30 (.conv .b2s 29),
mV 2 30] [2])
.ret)
def gZ (C:Hd)(gl:GL)(e:En)(h:aA)(x:Esc)(K:KT):Sf C gl aU e h x K:=⟨_,by simp only[aU,↓wZ,AO.still];rfl⟩
theorem zgP {C gl e h x K}:NW C gl aU ⟨e,h,x⟩ K=(gZ C gl e h x K).1:=(gZ C gl e h x K).2
def z16:ACode:=(.seq (rg [uO 1 (.box 0),
mV 2 (cS [])] [1])
(.seq (rg [fA 5 3 none 1,
lD 6 none 5,
uO 7 (.lens 6),
cL 8 PB [(cS [120]),7],
uO 9 (.conv .s2b 8),
mV 3 9] [1,3])
(.seq (.seq (rg [fA 10 5 none 1,
lD 11 none 10,
uO 12 (.lens 11),
mV 13 (cI 0)] [1,3,12,13])
(.block 0 (.loop QL)))
aU)))
def OW:AFun:=⟨1,[.t 2],z16,false,false⟩
def uR (C:Hd)(gl:GL)(e:En)(h:aA)(x:Esc)(K:KT):Sf C gl z16 e h x K:=⟨_,by simp only[z16,↓wZ,AO.still];rfl⟩
theorem zgM {C gl v0 h x K}:NW C gl OW.body ⟨enter [v0],h,x⟩ K=(uR C gl [(0,v0)] h x K).1:=(uR C gl [(0,v0)] h x K).2
def iM:ACode:=.pr [0,10,11,12] (.seq (rg [bN 13 .lss 12 11] [0,10,11,12,13])
(.seq (.cond 13 .skip
(.exit 0))
(.seq (.block 1 (.seq (rg [iA 14 (some 6) 10 12,
lD 15 (some 6) 14,
uO 4 (.alloc [.p (.int .i64 0),.p (.int .i64 0),.p (.int .i64 0),.p (.str []),.p (.str []),.p (.str [])]),
wO (.store (some 6) 4 15)] [0,4,10,11,12])
(.seq (.seq (rg [fA 16 0 none 4,
lD 17 none 16,
cL 18 gC [17,(cI 1),(cI 10)]] [0,4,10,11,12,18])
(.cond 18 (.seq (rg [mV 2 (cI 4)] [2])
.ret)
.skip))
(.seq (rg [lD 20 (some 6) 4,
cL 21 YK [20],
mV 19 21,
eX 22 19 0,
eX 23 19 1,
uO 5 (.alloc [.p (.int .i64 0),.p (.int .i64 0),.p (.int .i64 0),.p (.str []),.p (.str []),.p (.str [])]),
wO (.store (some 6) 5 22),
mV 6 23] [0,4,5,6,10,11,12])
(.block 2 (.seq (rg [mV 25 6,
bN 26 .neq 25 (cI 0),
mV 24 26] [0,4,5,6,10,11,12,24])
(.cond 24 (.seq (rg [mV 27 6,
mV 2 27] [2])
.ret)
(.seq (rg [lD 29 (some 6) 5,
fA 30 0 none 4,
lD 31 none 30,
uO 32 (.build [.p (.int .i64 0),.p (.int .i64 0),.p (.int .i64 0),.p (.str []),.p (.str []),.p (.str [])] [(0,1,31)]),
uO 33 (.eqa [0,0,0,2,2,2] true 29 32),
mV 28 33] [0,10,11,12,28])
(.cond 28 (.seq (rg [mV 2 (cI 3)] [2])
.ret)
.skip)))))))))
(rg [bN 34 .add 12 (cI 1),
mV 12 34] [0,10,11,12]))))
def EZ (C:Hd)(gl:GL)(e:En)(h:aA)(x:Esc)(K:KT):Sf C gl iM e h x K:=⟨_,by simp only[iM,↓wZ,AO.still];rfl⟩
theorem zhW {C gl e h x K}:NW C gl iM ⟨e,h,x⟩ K=(EZ C gl e h x K).1:=(EZ C gl e h x K).2
theorem zkz {C gl e h x K}:NW C gl (.loop (.scope iM)) ⟨e,h,x⟩ K=QA C gl (.scope iM) K [(0,gA e 0),(10,gA e 10),(11,gA e 11),(12,gA e 12)] h x:=BC
def AU:ACode:=.pr [0] (.seq (.seq (rg [mV 35 0,
cL 36 oG [35,(.c (.nilp))],
uO 37 (.nilchk 36),
fA 38 37 none 37,
lD 39 none 38,
bN 40 .gtr 39 (cI 20000)] [40])
(.cond 40 (.seq (rg [mV 2 (cI 2)] [2])
.ret)
.skip))
(.seq (rg [mV 2 (cI 0)] [2])
.ret))
def FZ (C:Hd)(gl:GL)(e:En)(h:aA)(x:Esc)(K:KT):Sf C gl AU e h x K:=⟨_,by simp only[AU,↓wZ,AO.still];rfl⟩
theorem zhX {C gl e h x K}:NW C gl AU ⟨e,h,x⟩ K=(FZ C gl e h x K).1:=(FZ C gl e h x K).2
def z2n:ACode:=(.seq (rg [mV 2 (cI 0)] [0])
(.seq (.seq (rg [mV 7 0,
lN 8 7,
bN 9 .gtr 8 (cI 1000)] [0,9])
(.cond 9 (.seq (rg [mV 2 (cI 2)] [2])
.ret)
.skip))
(.seq (.seq (rg [mV 10 0,
lN 11 10,
mV 12 (cI 0)] [0,10,11,12])
(.block 0 (.loop (.scope iM))))
AU)))
def qQ:AFun:=⟨1,[.t 2],z2n,false,false⟩
def HN (C:Hd)(gl:GL)(e:En)(h:aA)(x:Esc)(K:KT):Sf C gl z2n e h x K:=⟨_,by simp only[z2n,↓wZ,AO.still];rfl⟩
theorem zhV {C gl v0 h x K}:NW C gl qQ.body ⟨enter [v0],h,x⟩ K=(HN C gl [(0,v0)] h x K).1:=(HN C gl [(0,v0)] h x K).2
def CJ:ACode:=.pr [5,13,14,15] (.seq (rg [bN 16 .lss 15 14] [5,13,14,15,16])
(.seq (.cond 16 .skip
(.exit 0))
(.seq (.block 1 (.seq (rg [iA 17 (some 6) 13 15,
lD 18 (some 6) 17,
uO 7 (.alloc [.p (.int .i64 0),.p (.int .i64 0),.p (.int .i64 0),.p (.str []),.p (.str []),.p (.str [])]),
wO (.store (some 6) 7 18)] [5,7,13,14,15])
(.seq (.seq (rg [mV 19 5,
uO 20 (.nilchk 19),
fA 21 37 none 20,
lD 22 none 21,
bN 23 .gtr 22 (cI 20000)] [5,7,13,14,15,23])
(.cond 23 (.exit 0)
.skip))
(rg [mV 24 5,
lD 25 (some 6) 7,
cL 26 ZK [24,25]] [5,13,14,15]))))
(rg [bN 27 .add 15 (cI 1),
mV 15 27] [5,13,14,15]))))
def JZ (C:Hd)(gl:GL)(e:En)(h:aA)(x:Esc)(K:KT):Sf C gl CJ e h x K:=⟨_,by simp only[CJ,↓wZ,AO.still];rfl⟩
theorem zii {C gl e h x K}:NW C gl CJ ⟨e,h,x⟩ K=(JZ C gl e h x K).1:=(JZ C gl e h x K).2
theorem zk3 {C gl e h x K}:NW C gl (.loop (.scope CJ)) ⟨e,h,x⟩ K=QA C gl (.scope CJ) K [(5,gA e 5),(13,gA e 13),(14,gA e 14),(15,gA e 15)] h x:=BC
def BP:ACode:=.pr [5] (.seq (rg [mV 28 5,
mV 4 28] [4])
.ret)
def KZ (C:Hd)(gl:GL)(e:En)(h:aA)(x:Esc)(K:KT):Sf C gl BP e h x K:=⟨_,by simp only[BP,↓wZ,AO.still];rfl⟩
theorem zij {C gl e h x K}:NW C gl BP ⟨e,h,x⟩ K=(KZ C gl e h x K).1:=(KZ C gl e h x K).2
def z2v:ACode:=(.seq (rg [mV 4 (.c (.nilp))] [0,1])
(.seq (rg [cL 8 eL [],
mV 9 1,
uO 10 (.isnil 0 true 9),
uO 11 (.build [.p (.int .i64 0),.p (.int .i64 0),.p (.int .i64 0),.p (.str []),.p (.str []),.p (.str []),.p (.int .i64 0),.p (.int .i64 0),.p (.int .i64 0),.p (.str []),.p (.str []),.p (.str []),.p (.int .i64 0),.p (.int .i64 0),.p (.int .i64 0),.p (.str []),.p (.str []),.p (.str []),.p (.int .i64 0),.p (.int .i64 0),.p (.int .i64 0),.p (.str []),.p (.str []),.p (.str []),.p (.int .i64 0),.p (.int .i64 0),.p (.int .i64 0),.p (.str []),.p (.str []),.p (.str []),.p (.int .i64 0),.p (.int .i64 0),.p (.int .i64 0),.p (.str []),.p (.str []),.p (.str []),.p (.int .i64 0),.p (.int .i64 0),.p (.int .i64 0),.p (.int .i64 0),.sl0 none,.sl0 none,.sl0 none,.sl0 none,.sl0 none,.p (.bool false)] [(0,36,8),(36,1,(cI 0)),(45,1,10)]),
uO 12 (.uns 12 0 [11]),
mV 5 12] [0,5])
(.seq (.seq (rg [mV 13 0,
lN 14 13,
mV 15 (cI 0)] [5,13,14,15])
(.block 0 (.loop (.scope CJ))))
BP)))
def uQ:AFun:=⟨2,[.t 4],z2v,false,false⟩
def PN (C:Hd)(gl:GL)(e:En)(h:aA)(x:Esc)(K:KT):Sf C gl z2v e h x K:=⟨_,by simp only[z2v,↓wZ,AO.still];rfl⟩
theorem zih {C gl v0 v1 h x K}:NW C gl uQ.body ⟨enter [v0,v1],h,x⟩ K=(PN C gl [(0,v0),(1,v1)] h x K).1:=(PN C gl [(0,v0),(1,v1)] h x K).2
def z1P:ACode:=(.seq (rg [mV 4 (cI 0),
mV 5 (.c (.nili))] [0,1])
(.seq (rg [mV 6 0,
cL 7 KO [6]] [0,1])
(.seq (rg [mV 8 0,
mV 9 0,
uO 10 (.nilchk 9),
fA 11 1 none 10,
lD 12 none 11,
mV 13 1,
uO 14 (.uns 3 5 [12,13]),
uO 15 (.nilchk 8),
fA 16 1 none 15,
wO (.store none 16 14)] [1])
(.seq (rg [mV 17 1,
uO 18 (.lens 17),
mV 4 18,
mV 5 (.c (.nili))] [4,5])
.ret))))
def gX:AFun:=⟨2,[.t 4,.t 5],z1P,false,false⟩
def NR (C:Hd)(gl:GL)(e:En)(h:aA)(x:Esc)(K:KT):Sf C gl z1P e h x K:=⟨_,by simp only[z1P,↓wZ,AO.still];rfl⟩
theorem zhx {C gl v0 v1 h x K}:NW C gl gX.body ⟨enter [v0,v1],h,x⟩ K=(NR C gl [(0,v0),(1,v1)] h x K).1:=(NR C gl [(0,v0),(1,v1)] h x K).2
def z1O:ACode:=(.seq (rg [mV 2 (cS [])] [0])
(.seq (dr [dF (mV 3 0) [0],
dF (uO 4 (.nilchk 3)) [3],
dF (fA 5 1 none 4) [4],
dF (lD 6 none 5) [5],
dF (uO 7 (.uns 5 5 [6])) [6],
dF (mV 8 0) [0],
dF (uO 9 (.nilchk 8)) [8],
dF (fA 10 1 none 9) [9],
dF (lD 11 none 10) [10],
dF (uO 12 (.uns 4 0 [11])) [11],
dT (uO 13 (.uns 6 5 [7,12])) [7,12],
dF (mV 2 13) [13]] [2])
.ret))
def fX:AFun:=⟨1,[.t 2],z1O,false,false⟩
def AN (C:Hd)(gl:GL)(e:En)(h:aA)(x:Esc)(K:KT):Sf C gl z1O e h x K:=⟨_,by simp only[z1O,↓wZ,AO.still];rfl⟩
theorem zhw {C gl v0 h x K}:NW C gl fX.body ⟨enter [v0],h,x⟩ K=(AN C gl [(0,v0)] h x K).1:=(AN C gl [(0,v0)] h x K).2
def z11:ACode:=(.seq (rg [mV 2 cF] [0])
(.seq (rg [mV 3 0,
cL 4 CO [3,(cS [48,49])],
mV 2 4] [2])
.ret))
def JW:AFun:=⟨1,[.t 2],z11,false,false⟩
def sR (C:Hd)(gl:GL)(e:En)(h:aA)(x:Esc)(K:KT):Sf C gl z11 e h x K:=⟨_,by simp only[z11,↓wZ,AO.still];rfl⟩
theorem zgA {C gl v0 h x K}:NW C gl JW.body ⟨enter [v0],h,x⟩ K=(sR C gl [(0,v0)] h x K).1:=(sR C gl [(0,v0)] h x K).2
def z25:ACode:=(.seq (rg [mV 2 (.c (.nilp))] [0])
(.seq (rg [uO 3 (.alloc [.p (.bool false)]),
wO (.store none 3 cT)] [0,3])
(.seq (rg [mV 4 0,
cL 5 oG [4,3],
mV 2 5] [2])
.ret)))
def KX:AFun:=⟨1,[.t 2],z25,false,false⟩
def sS (C:Hd)(gl:GL)(e:En)(h:aA)(x:Esc)(K:KT):Sf C gl z25 e h x K:=⟨_,by simp only[z25,↓wZ,AO.still];rfl⟩
theorem zi4 {C gl v0 h x K}:NW C gl KX.body ⟨enter [v0],h,x⟩ K=(sS C gl [(0,v0)] h x K).1:=(sS C gl [(0,v0)] h x K).2
def FT:ACode:=.pr [0] (.seq (rg [mV 15 0,
mV 4 15] [4])
.ret)
def JY (C:Hd)(gl:GL)(e:En)(h:aA)(x:Esc)(K:KT):Sf C gl FT e h x K:=⟨_,by simp only[FT,↓wZ,AO.still];rfl⟩
theorem zfS {C gl e h x K}:NW C gl FT ⟨e,h,x⟩ K=(JY C gl e h x K).1:=(JY C gl e h x K).2
def z1c:ACode:=(.seq (rg [mV 4 (cI 0)] [0,1])
(.seq (.seq (rg [mV 5 1,
bN 6 .lss 5 (cI 1)] [0,1,6])
(.cond 6 (.seq (rg [mV 4 (cI 0)] [4])
.ret)
.skip))
(.seq (rg [mV 7 0,
mV 8 1,
bN 9 .rem 7 8,
mV 0 9] [0,1])
(.seq (.seq (rg [mV 10 0,
bN 11 .lss 10 (cI 0)] [0,1,11])
(.cond 11 (rg [mV 12 0,
mV 13 1,
bN 14 .add 12 13,
mV 0 14] [0])
.skip))
FT))))
def iW:AFun:=⟨2,[.t 4],z1c,false,false⟩
def YQ (C:Hd)(gl:GL)(e:En)(h:aA)(x:Esc)(K:KT):Sf C gl z1c e h x K:=⟨_,by simp only[z1c,↓wZ,AO.still];rfl⟩
theorem zfR {C gl v0 v1 h x K}:NW C gl iW.body ⟨enter [v0,v1],h,x⟩ K=(YQ C gl [(0,v0),(1,v1)] h x K).1:=(YQ C gl [(0,v0),(1,v1)] h x K).2
def TL:ACode:=.pr [0,1,7,8] (.seq (rg [bN 9 .lss 8 7] [0,1,7,8,9])
(.seq (.cond 9 .skip
(.exit 0))
(.seq (.block 1 (.seq (rg [mV 10 8,
mV 5 10] [0,1,5,7,8])
(.seq (rg [mV 11 1,
mV 12 0,
mV 13 5,
iA 14 (some 5) 12 13,
lD 15 (some 5) 14,
uO 16 (.callv 11 [15])] [0,1,5,7,8,16])
(.cond 16 (.seq (rg [mV 17 5,
mV 4 17] [4])
.ret)
.skip))))
(rg [bN 18 .add 8 (cI 1),
mV 8 18] [0,1,7,8]))))
def mZ (C:Hd)(gl:GL)(e:En)(h:aA)(x:Esc)(K:KT):Sf C gl TL e h x K:=⟨_,by simp only[TL,↓wZ,AO.still];rfl⟩
theorem zhl {C gl e h x K}:NW C gl TL ⟨e,h,x⟩ K=(mZ C gl e h x K).1:=(mZ C gl e h x K).2
theorem zkk {C gl e h x K}:NW C gl (.loop TL) ⟨e,h,x⟩ K=QA C gl TL K [(0,gA e 0),(1,gA e 1),(7,gA e 7),(8,gA e 8)] h x:=dC
def fU:ACode:=.pr [] (.seq (rg [mV 4 (cI (-1))] [4])
.ret)
def nZ (C:Hd)(gl:GL)(e:En)(h:aA)(x:Esc)(K:KT):Sf C gl fU e h x K:=⟨_,by simp only[fU,↓wZ,AO.still];rfl⟩
theorem zhm {C gl e h x K}:NW C gl fU ⟨e,h,x⟩ K=(nZ C gl e h x K).1:=(nZ C gl e h x K).2
def z1K:ACode:=(.seq (rg [mV 4 (cI 0)] [0,1])
(.seq (.seq (rg [mV 6 0,
lN 7 6,
mV 8 (cI 0)] [0,1,7,8])
(.block 0 (.loop TL)))
fU))
def bX:AFun:=⟨2,[.t 4],z1K,true,false⟩
def IR (C:Hd)(gl:GL)(e:En)(h:aA)(x:Esc)(K:KT):Sf C gl z1K e h x K:=⟨_,by simp only[z1K,↓wZ,AO.still];rfl⟩
theorem zhk {C gl v0 v1 h x K}:NW C gl bX.body ⟨enter [v0,v1],h,x⟩ K=(IR C gl [(0,v0),(1,v1)] h x K).1:=(IR C gl [(0,v0),(1,v1)] h x K).2
def z2t:ACode:=(.seq (rg [mV 2 cF] [0])
(.seq (rg [mV 3 0,
cL 4 gC [3,(cI 1),(cI 6)],
uO 5 (.un .not 4),
mV 2 5] [2])
.ret))
def sQ:AFun:=⟨1,[.t 2],z2t,false,false⟩
def yK (C:Hd)(gl:GL)(e:En)(h:aA)(x:Esc)(K:KT):Sf C gl z2t e h x K:=⟨_,by simp only[z2t,↓wZ,AO.still];rfl⟩
theorem zie {C gl v0 h x K}:NW C gl sQ.body ⟨enter [v0],h,x⟩ K=(yK C gl [(0,v0)] h x K).1:=(yK C gl [(0,v0)] h x K).2
def z24:ACode:=(.seq (rg [mV 4 (.c (.nilp))] [0,1])
(.seq (.seq (rg [mV 5 1] [0,5])
(.block 0 (.seq (rg [bN 7 .eql 5 (cI 1),
mV 6 7] [0,5,6])
(.cond 6 (.seq (rg [mV 8 0,
uO 9 (.nilchk 8),
fA 10 0 (some 6) 9,
mV 4 10] [4])
.ret)
(.seq (rg [bN 12 .eql 5 (cI 2),
mV 11 12] [0,5,11])
(.cond 11 (.seq (rg [mV 13 0,
uO 14 (.nilchk 13),
fA 15 6 (some 6) 14,
mV 4 15] [4])
.ret)
(.seq (rg [bN 17 .eql 5 (cI 3),
mV 16 17] [0,5,16])
(.cond 16 (.seq (rg [mV 18 0,
uO 19 (.nilchk 18),
fA 20 12 (some 6) 19,
mV 4 20] [4])
.ret)
(.seq (rg [bN 22 .eql 5 (cI 4),
mV 21 22] [0,5,21])
(.cond 21 (.seq (rg [mV 23 0,
uO 24 (.nilchk 23),
fA 25 18 (some 6) 24,
mV 4 25] [4])
.ret)
(.seq (rg [bN 27 .eql 5 (cI 5),
mV 26 27] [0,26])
(.cond 26 (.seq (rg [mV 28 0,
uO 29 (.nilchk 28),
fA 30 24 (some 6) 29,
mV 4 30] [4])
.ret)
.skip))))))))))))
(.seq (rg [mV 31 0,
uO 32 (.nilchk 31),
fA 33 30 (some 6) 32,
mV 4 33] [4])
.ret)))
def AQ:AFun:=⟨2,[.t 4],z24,false,false⟩
def GG (C:Hd)(gl:GL)(e:En)(h:aA)(x:Esc)(K:KT):Sf C gl z24 e h x K:=⟨_,by simp only[z24,↓wZ,AO.still];rfl⟩
theorem zi3 {C gl v0 v1 h x K}:NW C gl AQ.body ⟨enter [v0,v1],h,x⟩ K=(GG C gl [(0,v0),(1,v1)] h x K).1:=(GG C gl [(0,v0),(1,v1)] h x K).2
def DJ:ACode:=.pr [0,4,35,36] (.seq (rg [bN 37 .lss 36 35] [0,4,35,36,37])
(.seq (.cond 37 .skip
(.exit 1))
(.seq (.block 2 (rg [mV 38 0,
cL 39 QG [38,(.c (.p (.int .u8 48))),(.c (.p (.int .u8 48))),(.c (.p (.int .u8 120)))]] [0,4,35,36]))
(rg [bN 40 .add 36 (cI 1),
mV 36 40] [0,4,35,36]))))
def z5u (C:Hd)(gl:GL)(v0 v4 v35 v36:AV)(h:aA)(x:Esc)(K:KT):Prop:=
 pK (BA .lss v36 v35) fun t1=>
 YA t1 (C QG [v0,(.p (.int .u8 48)),(.p (.int .u8 48)),(.p (.int .u8 120))] h fun t2 h3 y4=>
 pK (BA .add v36 (AI 1)) fun t5=>
 K .normal ⟨[(0,v0),(4,v4),(35,v35),(36,t5)],h3,(y4++x)⟩)
 (K (.exit 1) ⟨[(0,v0),(4,v4),(35,v35),(36,v36),(37,t1)],h,x⟩)
theorem zix {C gl e h x K}:NW C gl DJ ⟨e,h,x⟩ K=z5u C gl (gA e 0) (gA e 4) (gA e 35) (gA e 36) h x K:=by kernel_rfl
theorem zk6 {C gl e h x K}:NW C gl (.loop DJ) ⟨e,h,x⟩ K=QA C gl DJ K [(0,gA e 0),(4,gA e 4),(35,gA e 35),(36,gA e 36)] h x:=dC
def CP:ACode:=.pr [0,4] (.seq (dr [dF (mV 41 0) [0],
dF (mV 42 0) [0],
dF (uO 43 (.nilchk 42)) [42],
dF (fA 44 40 none 43) [43],
dF (lD 45 none 44) [44],
dF (mV 46 0) [0],
dF (uO 47 (.nilchk 46)) [46],
dF (fA 48 36 none 47) [47],
dF (lD 49 none 48) [48],
dF (uO 50 (.bsl false none 1 (.int .i64 0) [(0,49)])) [49],
dT (uO 51 (.app none 45 50)) [45,50],
dF (uO 52 (.nilchk 41)) [41],
dF (fA 53 40 none 52) [52],
dT (wO (.store none 53 51)) [53,51]] [0,4])
(rg [mV 54 0,
mV 55 0,
uO 56 (.nilchk 55),
fA 57 41 none 56,
lD 58 none 57,
mV 59 4,
uO 60 (.bsl false none 1 (.int .i64 0) [(0,59)]),
uO 61 (.app none 58 60),
uO 62 (.nilchk 54),
fA 63 41 none 62,
wO (.store none 63 61)] []))
def UN (C:Hd)(gl:GL)(v0 v4:AV)(h:aA)(x:Esc)(K:KT):Prop:=
 pK (aF v0) fun t1=>
 pK (EA 40 none t1) fun t2=>
 pK (CA none t2 h) fun t3=>
 pK (aF v0) fun t4=>
 pK (EA 36 none t4) fun t5=>
 pK (CA none t5 h) fun t6=>
 wK (YC false none 1 (.int .i64 0) [(0,t6)] h) fun t7 h8 y9=>
 (h8=h∧y9=[])∧(wK (nL none t3 t7 h8) fun t10 h11 y12=>
 pK (aF v0) fun t13=>
 pK (EA 40 none t13) fun t14=>
 wK (kB none t14 t10 h11) fun t15 h16 y17=>
 pK (aF v0) fun t18=>
 pK (EA 41 none t18) fun t19=>
 pK (CA none t19 h16) fun t20=>
 wK (YC false none 1 (.int .i64 0) [(0,v4)] h16) fun t21 h22 y23=>
 wK (nL none t20 t21 h22) fun t24 h25 y26=>
 pK (aF v0) fun t27=>
 pK (EA 41 none t27) fun t28=>
 wK (kB none t28 t24 h25) fun t29 h30 y31=>
 K .normal ⟨[],h30,(y31++(y26++(y23++(y17++(y12++(y9++x))))))⟩)
theorem ziy {C gl e h x K}:NW C gl CP ⟨e,h,x⟩ K=UN C gl (gA e 0) (gA e 4) h x K:=by kernel_rfl
def z4f (q1 q2:ACode):ACode:=(.seq (rg [uO 3 (.box 1)] [0,3])
(.seq (rg [mV 4 (cI 0)] [0,3,4])
(.seq (.block 0 (.seq (rg [fA 10 0 none 3,
lD 11 none 10,
cL 12 jJ [11],
mV 9 12] [0,3,4,9])
(.cond 9 (dr [dF (mV 13 0) [0],
dF (uO 14 (.nilchk 13)) [13],
dF (fA 15 0 (some 36) 14) [14],
dF (fA 16 0 none 3) [3],
dF (lD 17 none 16) [16],
dT (cL 18 mJ [15,17]) [15,17],
dA (lD 19 (some 6) 3) [3] false [5] [],
dF (uO 20 (.nilchk 18)) [18],
dT (wO (.store (some 6) 20 19)) [20,19]] [0,4])
(.seq (rg [fA 22 0 none 3,
lD 23 none 22,
cL 24 nG [23],
mV 21 24] [0,3,4,21])
(.cond 21 (rg [mV 25 0,
lD 26 (some 6) 3,
cL 27 RG [25,26],
mV 4 27] [0,4])
(.seq (rg [fA 29 0 none 3,
lD 30 none 29,
bN 31 .eql 30 (cI 9),
mV 28 31] [0,3,4,28])
(.cond 28 (.seq (rg [mV 32 0,
cL 33 OF [32,(cI 1)]] [0,3,4])
(.seq (rg [fA 34 2 none 3,
lD 35 none 34,
mV 36 (cI 0)] [0,4,35,36])
(.block 1 (.loop q1))))
(rg [mV 5 0,
fA 6 1 none 3,
lD 7 none 6,
cL 8 OF [5,7]] [0,4]))))))))
q2)))
def xQ:AFun:=⟨2,[],z4f DJ CP,false,false⟩
def WE (C:Hd)(gl:GL)(q1 q2:ACode)(v0 v1:AV)(h:aA)(x:Esc)(K:KT):Prop:=
 wK (oL v1 h) fun t1 h2 y3=>
 pK (EA 0 none t1) fun t4=>
 pK (CA none t4 h2) fun t5=>
 C jJ [t5] h2 fun t6 h7 y8=>
 YA t6 (pK (aF v0) fun t9=>
 pK (EA 0 (some 36) t9) fun t10=>
 pK (EA 0 none t1) fun t11=>
 pK (CA none t11 h7) fun t12=>
 bC C mJ [t10,t12] h7 fun t13 h14 y15=>
 pK (CA (some 6) t1 h14) fun t16=>
 (pK (CA (some 6) t1 h7) fun v=>(fun u (g1:aA) (y1:Esc)=>u=t16∧g1=h7∧y1=[]) v h7 [])∧(pK (aF t13) fun t17=>
 wK (kB (some 6) t17 t16 h14) fun t18 h19 y20=>
 NW C gl q2 ⟨[(0,v0),(4,(AI 0))],h19,(y20++(y15++(y8++(y3++x))))⟩ K))
 (pK (EA 0 none t1) fun t21=>
 pK (CA none t21 h7) fun t22=>
 C nG [t22] h7 fun t23 h24 y25=>
 YA t23 (pK (CA (some 6) t1 h24) fun t26=>
 C RG [v0,t26] h24 fun t27 h28 y29=>
 NW C gl q2 ⟨[(0,v0),(4,t27)],h28,(y29++(y25++(y8++(y3++x))))⟩ K)
 (pK (EA 0 none t1) fun t30=>
 pK (CA none t30 h24) fun t31=>
 pK (BA .eql t31 (AI 9)) fun t32=>
 YA t32 (C OF [v0,(AI 1)] h24 fun t33 h34 y35=>
 pK (EA 2 none t1) fun t36=>
 pK (CA none t36 h34) fun t37=>
 NW C gl (.loop q1) ⟨[(0,v0),(4,(AI 0)),(35,t37),(36,(AI 0))],h34,(y35++(y25++(y8++(y3++x))))⟩ (tC 1 (tC 0 (xD C gl q2 K))))
 (pK (EA 1 none t1) fun t38=>
 pK (CA none t38 h24) fun t39=>
 C OF [v0,t39] h24 fun t40 h41 y42=>
 NW C gl q2 ⟨[(0,v0),(4,(AI 0))],h41,(y42++(y25++(y8++(y3++x))))⟩ K)))
theorem zaQ {C gl q1 q2 v0 v1 h x K}:NW C gl (z4f q1 q2) ⟨enter [v0,v1],h,x⟩ K=WE C gl q1 q2 v0 v1 h x K:=by kernel_rfl
theorem ziw {C gl v0 v1 h x K}:NW C gl xQ.body ⟨enter [v0,v1],h,x⟩ K=WE C gl DJ CP v0 v1 h x K:=zaQ
def HL:ACode:=.pr [0,5,6,7] (.seq (rg [bN 8 .lss 7 6] [0,5,6,7,8])
(.seq (.cond 8 .skip
(.exit 0))
(.seq (.block 1 (rg [mV 9 5,
mV 10 0,
uO 11 (.bsl false none 2 (.str []) [(0,(cS [48])),(1,(cS [49]))]),
cL 12 DE [10,11],
bN 13 .add 9 12,
mV 5 13] [0,5,6,7]))
(rg [bN 14 .add 7 (cI 1),
mV 7 14] [0,5,6,7]))))
def RY (C:Hd)(gl:GL)(e:En)(h:aA)(x:Esc)(K:KT):Sf C gl HL e h x K:=⟨_,by simp only[HL,↓wZ,AO.still];rfl⟩
theorem zgo {C gl e h x K}:NW C gl HL ⟨e,h,x⟩ K=(RY C gl e h x K).1:=(RY C gl e h x K).2
theorem zjY {C gl e h x K}:NW C gl (.loop HL) ⟨e,h,x⟩ K=QA C gl HL K [(0,gA e 0),(5,gA e 5),(6,gA e 6),(7,gA e 7)] h x:=dC
def OT:ACode:=.pr [5] (.seq (rg [mV 15 5,
mV 4 15] [4])
.ret)
def SY (C:Hd)(gl:GL)(e:En)(h:aA)(x:Esc)(K:KT):Sf C gl OT e h x K:=⟨_,by simp only[OT,↓wZ,AO.still];rfl⟩
theorem zgp {C gl e h x K}:NW C gl OT ⟨e,h,x⟩ K=(SY C gl e h x K).1:=(SY C gl e h x K).2
def z1n:ACode:=(.seq (rg [mV 4 (cS [])] [0,1])
(.seq (rg [mV 5 (cS [])] [0,1,5])
(.seq (.seq (rg [mV 6 1,
mV 7 (cI 0)] [0,5,6,7])
(.block 0 (.loop HL)))
OT)))
def uW:AFun:=⟨2,[.t 4],z1n,false,false⟩
def iR (C:Hd)(gl:GL)(e:En)(h:aA)(x:Esc)(K:KT):Sf C gl z1n e h x K:=⟨_,by simp only[z1n,↓wZ,AO.still];rfl⟩
theorem zgn {C gl v0 v1 h x K}:NW C gl uW.body ⟨enter [v0,v1],h,x⟩ K=(iR C gl [(0,v0),(1,v1)] h x K).1:=(iR C gl [(0,v0),(1,v1)] h x K).2
def z1i:ACode:=(.seq (rg [mV 6 (cI 0)] [0,1,2])
(.seq (.seq (rg [mV 7 0,
cL 8 jE [7,(cI 12)]] [0,1,2,8])
(.cond 8 (.seq (rg [mV 9 0,
mV 10 1,
bN 11 .sub 10 (cI 1),
mV 12 2,
bN 13 .add 12 (cI 1),
mV 14 1,
mV 15 2,
uO 16 (.bsl false none 6 (.int .i64 0) [(0,11),(1,13),(2,14),(3,15),(4,(cI (-1099511627776))),(5,(cI 1099511627776))]),
cL 17 EC [9,16],
mV 6 17] [6])
.ret)
.skip))
(.seq (rg [mV 18 0,
mV 19 1,
mV 20 2,
cL 21 NF [18,19,20],
mV 6 21] [6])
.ret)))
def pW:AFun:=⟨3,[.t 6],z1i,false,false⟩
def vN (C:Hd)(gl:GL)(e:En)(h:aA)(x:Esc)(K:KT):Sf C gl z1i e h x K:=⟨_,by simp only[z1i,↓wZ,AO.still];rfl⟩
theorem zgg {C gl v0 v1 v2 h x K}:NW C gl pW.body ⟨enter [v0,v1,v2],h,x⟩ K=(vN C gl [(0,v0),(1,v1),(2,v2)] h x K).1:=(vN C gl [(0,v0),(1,v1),(2,v2)] h x K).2
def tL:ACode:=.pr [5,6,7] (.seq (rg [bN 8 .lss 7 6] [5,6,7,8])
(.seq (.cond 8 .skip
(.exit 0))
(.seq (.block 1 (.seq (rg [iA 9 none 5 7,
lD 10 none 9,
mV 4 10] [4,5,6,7])
(.seq (rg [mV 11 4,
bN 12 .neq 11 (cI 0)] [4,5,6,7,12])
(.cond 12 (.seq (rg [mV 13 4,
mV 2 13] [2])
.ret)
.skip))))
(rg [bN 14 .add 7 (cI 1),
mV 7 14] [5,6,7]))))
def nY (C:Hd)(gl:GL)(e:En)(h:aA)(x:Esc)(K:KT):Sf C gl tL e h x K:=⟨_,by simp only[tL,↓wZ,AO.still];rfl⟩
theorem zfz {C gl e h x K}:NW C gl tL ⟨e,h,x⟩ K=(nY C gl e h x K).1:=(nY C gl e h x K).2
theorem zjL {C gl e h x K}:NW C gl (.loop tL) ⟨e,h,x⟩ K=QA C gl tL K [(5,gA e 5),(6,gA e 6),(7,gA e 7)] h x:=dC
def tT:ACode:=.pr [] (.seq (rg [mV 2 (cI 0)] [2])
.ret)
def oY (C:Hd)(gl:GL)(e:En)(h:aA)(x:Esc)(K:KT):Sf C gl tT e h x K:=⟨_,by simp only[tT,↓wZ,AO.still];rfl⟩
theorem zf0 {C gl e h x K}:NW C gl tT ⟨e,h,x⟩ K=(oY C gl e h x K).1:=(oY C gl e h x K).2
def z0S:ACode:=(.seq (rg [mV 2 (cI 0)] [0])
(.seq (.seq (rg [mV 5 0,
lN 6 5,
mV 7 (cI 0)] [5,6,7])
(.block 0 (.loop tL)))
tT))
def iQ:AFun:=⟨1,[.t 2],z0S,false,false⟩
def UQ (C:Hd)(gl:GL)(e:En)(h:aA)(x:Esc)(K:KT):Sf C gl z0S e h x K:=⟨_,by simp only[z0S,↓wZ,AO.still];rfl⟩
theorem zfy {C gl v0 h x K}:NW C gl iQ.body ⟨enter [v0],h,x⟩ K=(UQ C gl [(0,v0)] h x K).1:=(UQ C gl [(0,v0)] h x K).2
def YL:ACode:=.pr [0,14,15,16] (.seq (rg [bN 17 .lss 16 15] [0,14,15,16,17])
(.seq (.cond 17 .skip
(.exit 1))
(.seq (.block 2 (.seq (rg [mV 18 16,
iA 19 (some 5) 14 16,
lD 20 (some 5) 19,
uO 4 (.alloc [.p (.str []),.p (.int .i64 0),.p (.int .i64 0),.sl0 (some 2),.sl0 (some 2)]),
mV 3 18,
wO (.store (some 5) 4 20)] [0,3,4,14,15,16])
(.seq (dr [dF (lD 21 (some 5) 4) [4],
dF (mV 22 0) [0],
dF (mV 23 3) [3],
dF (uO 24 (.slice (some 5) 22 none (some 23) none)) [22,23],
dT (cL 25 QO [21,24]) [21,24],
dF (mV 5 25) [25]] [0,5,14,15,16])
(.seq (rg [mV 26 5,
bN 27 .neq 26 (cI 0)] [0,5,14,15,16,27])
(.cond 27 (.seq (rg [mV 28 5,
mV 2 28] [2])
.ret)
.skip)))))
(rg [bN 29 .add 16 (cI 1),
mV 16 29] [0,14,15,16]))))
def rK (C:Hd)(gl:GL)(e:En)(h:aA)(x:Esc)(K:KT):Sf C gl YL e h x K:=⟨_,by simp only[YL,↓wZ,AO.still];rfl⟩
theorem CS {C gl e h x K}:NW C gl YL ⟨e,h,x⟩ K=(rK C gl e h x K).1:=(rK C gl e h x K).2
theorem zkp {C gl e h x K}:NW C gl (.loop (.scope YL)) ⟨e,h,x⟩ K=QA C gl (.scope YL) K [(0,gA e 0),(14,gA e 14),(15,gA e 15),(16,gA e 16)] h x:=BC
def oU:ACode:=.pr [] (.seq (rg [mV 2 (cI 0)] [2])
.ret)
def UR (C:Hd)(gl:GL)(e:En)(h:aA)(x:Esc)(K:KT):Sf C gl oU e h x K:=⟨_,by simp only[oU,↓wZ,AO.still];rfl⟩
theorem z5D {C gl e h x K}:NW C gl oU ⟨e,h,x⟩ K=(UR C gl e h x K).1:=(UR C gl e h x K).2
def z1W:ACode:=(.seq (rg [mV 2 (cI 0)] [0])
(.seq (.block 0 (.seq (rg [mV 7 0,
lN 8 7,
bN 9 .eql 8 (cI 0),
mV 6 9] [0,6])
(.cond 6 (.seq (rg [mV 2 (cI 8)] [2])
.ret)
(.seq (rg [mV 11 0,
lN 12 11,
bN 13 .gtr 12 (cI 20),
mV 10 13] [0,10])
(.cond 10 (.seq (rg [mV 2 (cI 2)] [2])
.ret)
.skip)))))
(.seq (.seq (rg [mV 14 0,
lN 15 14,
mV 16 (cI 0)] [0,14,15,16])
(.block 1 (.loop (.scope YL))))
oU)))
def oX:AFun:=⟨1,[.t 2],z1W,false,false⟩
def qK (C:Hd)(gl:GL)(e:En)(h:aA)(x:Esc)(K:KT):Sf C gl z1W e h x K:=⟨_,by simp only[z1W,↓wZ,AO.still];rfl⟩
theorem zh5 {C gl v0 h x K}:NW C gl oX.body ⟨enter [v0],h,x⟩ K=(qK C gl [(0,v0)] h x K).1:=(qK C gl [(0,v0)] h x K).2
def sU:ACode:=.pr [1,2,8,10,46,47] (rg [bN 73 .add 47 (cI 1),
mV 47 73] [1,2,8,10,46,47])
def vZ (C:Hd)(gl:GL)(e:En)(h:aA)(x:Esc)(K:KT):Sf C gl sU e h x K:=⟨_,by simp only[sU,↓wZ,AO.still];rfl⟩
theorem zh9 {C gl e h x K}:NW C gl sU ⟨e,h,x⟩ K=(vZ C gl e h x K).1:=(vZ C gl e h x K).2
def aM:ACode:=.pr [1,2,8,10,46,47] (.seq (rg [bN 48 .lss 47 46] [1,2,8,10,46,47,48])
(.seq (.cond 48 .skip
(.exit 1))
(.seq (.block 2 (.seq (rg [mV 49 47,
mV 11 49] [1,2,8,10,11,46,47])
(.seq (dr [dF (mV 50 8) [8],
dF (mV 51 1) [1],
dF (mV 52 11) [11],
dF (uO 53 (.idxs 51 52)) [51,52],
dF (bN 54 .sub 53 (.c (.p (.int .u8 48)))) [53],
dF (uO 55 (.conv (.i .i64) 54)) [54],
dF (mV 56 2) [2],
dF (mV 57 11) [11],
dF (uO 58 (.idxs 56 57)) [56,57],
dF (bN 59 .sub 58 (.c (.p (.int .u8 48)))) [58],
dF (uO 60 (.conv (.i .i64) 59)) [59],
dT (cL 61 NO [50,55,60]) [50,55,60],
dF (mV 12 61) [61]] [1,2,8,10,12,46,47])
(.seq (rg [mV 62 12,
bN 63 .lss 62 (cI 0)] [1,2,8,10,12,46,47,63])
(.cond 63 (rg [mV 64 10,
uO 65 (.bsl false none 1 (.int .u8 0) [(0,(.c (.p (.int .u8 122))))]),
uO 66 (.app none 64 65),
mV 10 66] [1,2,8,10,46,47])
(rg [mV 67 10,
mV 68 12,
bN 69 .add (cI 48) 68,
uO 70 (.conv (.i .u8) 69),
uO 71 (.bsl false none 1 (.int .u8 0) [(0,70)]),
uO 72 (.app none 67 71),
mV 10 72] [1,2,8,10,46,47]))))))
sU)))
def tK (C:Hd)(gl:GL)(e:En)(h:aA)(x:Esc)(K:KT):Sf C gl aM e h x K:=⟨_,by simp only[aM,↓wZ,AO.still];rfl⟩
theorem ES {C gl e h x K}:NW C gl aM ⟨e,h,x⟩ K=(tK C gl e h x K).1:=(tK C gl e h x K).2
theorem zks {C gl e h x K}:NW C gl (.loop (.scope aM)) ⟨e,h,x⟩ K=QA C gl (.scope aM) K [(1,gA e 1),(2,gA e 2),(8,gA e 8),(10,gA e 10),(46,gA e 46),(47,gA e 47)] h x:=BC
def tU:ACode:=.pr [10] (.seq (rg [mV 74 10,
uO 75 (.conv .b2s 74),
mV 6 75,
mV 7 (cI 0)] [6,7])
.ret)
def xZ (C:Hd)(gl:GL)(e:En)(h:aA)(x:Esc)(K:KT):Sf C gl tU e h x K:=⟨_,by simp only[tU,↓wZ,AO.still];rfl⟩
theorem zhA {C gl e h x K}:NW C gl tU ⟨e,h,x⟩ K=(xZ C gl e h x K).1:=(xZ C gl e h x K).2
def z1Z:ACode:=(.seq (rg [mV 6 (cS []),
mV 7 (cI 0)] [0,1,2])
(.seq (rg [mV 14 0,
cL 15 OO [14],
mV 13 15,
eX 16 13 0,
eX 17 13 1,
mV 8 16,
mV 9 17] [1,2,8,9])
(.seq (.seq (rg [mV 18 9,
bN 19 .neq 18 (cI 0)] [1,2,8,9,19])
(.cond 19 (.seq (rg [mV 20 9,
mV 6 (cS []),
mV 7 20] [6,7])
.ret)
.skip))
(.seq (.block 0 (.seq (rg [mV 22 1,
uO 23 (.lens 22),
bN 24 .gtr 23 (cI 20000),
mV 25 24,
gD 26 25 false (.mv 2),
gD 27 25 false (.lens 26),
gD 28 25 false (.bin .gtr 27 (cI 20000)),
uO 29 (.pick 25 cT 28),
mV 21 29] [1,2,8,21])
(.cond 21 (.seq (rg [mV 6 (cS []),
mV 7 (cI 2)] [6,7])
.ret)
(.seq (rg [mV 31 1,
uO 32 (.lens 31),
mV 33 2,
uO 34 (.lens 33),
bN 35 .neq 32 34,
mV 30 35] [1,2,8,30])
(.cond 30 (.seq (rg [mV 6 (cS []),
mV 7 (cI 3)] [6,7])
.ret)
(.seq (rg [mV 37 1,
cL 38 CE [37],
uO 39 (.un .not 38),
mV 40 39,
gD 41 40 false (.mv 2),
gD 42 40 false (.call CE [41]),
gD 43 40 false (.un .not 42),
uO 44 (.pick 40 cT 43),
mV 36 44] [1,2,8,36])
(.cond 36 (.seq (rg [mV 6 (cS []),
mV 7 (cI 9)] [6,7])
.ret)
.skip)))))))
(.seq (rg [uO 10 (.new0 none)] [1,2,8,10])
(.seq (.seq (rg [mV 45 1,
uO 46 (.lens 45),
mV 47 (cI 0)] [1,2,8,10,46,47])
(.block 1 (.loop (.scope aM))))
tU))))))
def qX:AFun:=⟨3,[.t 6,.t 7],z1Z,false,false⟩
def XR (C:Hd)(gl:GL)(e:En)(h:aA)(x:Esc)(K:KT):Sf C gl z1Z e h x K:=⟨_,by simp only[z1Z,↓wZ,AO.still];rfl⟩
theorem zh8 {C gl v0 v1 v2 h x K}:NW C gl qX.body ⟨enter [v0,v1,v2],h,x⟩ K=(XR C gl [(0,v0),(1,v1),(2,v2)] h x K).1:=(XR C gl [(0,v0),(1,v1),(2,v2)] h x K).2
def z1T:ACode:=(.seq (rg [mV 4 (cI 0)] [0,1])
(.seq (rg [mV 5 0,
mV 6 1,
cL 7 FH [5,6],
mV 4 7] [4])
.ret))
def lX:AFun:=⟨2,[.t 4],z1T,false,false⟩
def QR (C:Hd)(gl:GL)(e:En)(h:aA)(x:Esc)(K:KT):Sf C gl z1T e h x K:=⟨_,by simp only[z1T,↓wZ,AO.still];rfl⟩
theorem zh1 {C gl v0 v1 h x K}:NW C gl lX.body ⟨enter [v0,v1],h,x⟩ K=(QR C gl [(0,v0),(1,v1)] h x K).1:=(QR C gl [(0,v0),(1,v1)] h x K).2
def z1I:ACode:=(.seq (rg [mV 4 cF] [0,1])
(.seq (rg [mV 5 0,
mV 6 1,
cL 7 QK [5,6],
bN 8 .geq 7 (cI 0),
mV 4 8] [4])
.ret))
def aX:AFun:=⟨2,[.t 4],z1I,true,false⟩
def GR (C:Hd)(gl:GL)(e:En)(h:aA)(x:Esc)(K:KT):Sf C gl z1I e h x K:=⟨_,by simp only[z1I,↓wZ,AO.still];rfl⟩
theorem zhi {C gl v0 v1 h x K}:NW C gl aX.body ⟨enter [v0,v1],h,x⟩ K=(GR C gl [(0,v0),(1,v1)] h x K).1:=(GR C gl [(0,v0),(1,v1)] h x K).2
def z10:ACode:=(.seq (rg [uO 2 (.box 0),
mV 3 cF] [1,2])
(.seq (rg [fA 4 0 none 2,
lD 5 none 4,
fA 6 0 none 1,
lD 7 none 6,
bN 8 .eql 5 7,
mV 3 8] [3])
.ret))
def IW:AFun:=⟨2,[.t 3],z10,false,false⟩
def rR (C:Hd)(gl:GL)(e:En)(h:aA)(x:Esc)(K:KT):Sf C gl z10 e h x K:=⟨_,by simp only[z10,↓wZ,AO.still];rfl⟩
theorem zg9 {C gl v0 v1 h x K}:NW C gl IW.body ⟨enter [v0,v1],h,x⟩ K=(rR C gl [(0,v0),(1,v1)] h x K).1:=(rR C gl [(0,v0),(1,v1)] h x K).2
def z1w:ACode:=(.seq (rg [uO 2 (.box 0),
mV 4 (cI 0)] [1,2])
(.seq (rg [fA 7 4 none 2,
lD 8 none 7,
mV 9 1,
iA 10 (some 2) 8 9,
lD 11 (some 2) 10,
uO 5 (.alloc [.p (.str []),.p (.str [])]),
wO (.store (some 2) 5 11)] [1,2,5])
(.seq (rg [fA 12 3 none 2,
lD 13 none 12,
uO 14 (.mkfn vO [5]),
cL 15 eJ [13,14],
mV 6 15] [1,2,5,6])
(.seq (.block 0 (.seq (rg [fA 17 0 none 5,
lD 18 none 17,
uO 19 (.lens 18),
fA 20 1 none 2,
lD 21 none 20,
bN 22 .neq 19 21,
mV 16 22] [1,2,5,6,16])
(.cond 16 (.seq (rg [mV 4 (cI 3)] [4])
.ret)
(.seq (rg [fA 24 0 none 5,
lD 25 none 24,
cL 26 oO [25],
bN 27 .neq 26 (cI 0),
mV 23 27] [1,2,5,6,23])
(.cond 23 (.seq (rg [mV 4 (cI 9)] [4])
.ret)
(.seq (rg [fA 29 0 none 5,
lD 30 none 29,
cL 31 TK [30,(cS [48])],
uO 32 (.un .not 31),
mV 28 32] [1,2,5,6,28])
(.cond 28 (.seq (rg [mV 4 (cI 16)] [4])
.ret)
(.seq (rg [fA 34 4 none 2,
lD 35 none 34,
mV 36 1,
uO 37 (.slice (some 2) 35 none (some 36) none),
uO 38 (.mkfn xO [5]),
cL 39 PK [37,38],
mV 33 39] [2,5,6,33])
(.cond 33 (.seq (rg [mV 4 (cI 6)] [4])
.ret)
(.seq (rg [fA 41 1 none 5,
lD 42 none 41,
bN 43 .eql 42 (cS [98,121,112,97,115,115]),
mV 44 43,
gD 45 44 false (.faddr 1 none 5),
gD 46 44 false (.load none 45),
gD 47 44 false (.bin .eql 46 (cS [105,100,99,111,100,101])),
gD 48 44 false (.mv 47),
gD 49 48 true (.faddr 2 none 2),
gD 50 48 true (.load none 49),
gD 51 48 true (.bin .neq 50 (cI 0)),
gD 52 44 false (.pick 48 51 cF),
uO 53 (.pick 44 cT 52),
mV 54 53,
gD 55 54 false (.mv 6),
uO 56 (.pick 54 cT 55),
mV 40 56] [40])
(.cond 40 (.seq (rg [mV 4 (cI 0)] [4])
.ret)
.skip)))))))))))
(.seq (rg [mV 4 (cI 8)] [4])
.ret)))))
def EW:AFun:=⟨2,[.t 4],z1w,false,false⟩
def UE (C:Hd)(gl:GL)(e:En)(h:aA)(x:Esc)(K:KT):Sf C gl z1w e h x K:=⟨_,by simp only[z1w,↓wZ,AO.still];rfl⟩
theorem zg5 {C gl v0 v1 h x K}:NW C gl EW.body ⟨enter [v0,v1],h,x⟩ K=(UE C gl [(0,v0),(1,v1)] h x K).1:=(UE C gl [(0,v0),(1,v1)] h x K).2
def z1C:ACode:=(.seq (rg [mV 2 cF] [0])
(.seq (rg [uO 3 (.bsl false none 4 (.int .i64 0) [(0,(cI 0)),(1,(cI 1)),(2,(cI 6)),(3,(cI 13))]),
mV 4 0,
cL 5 OG [3,4],
mV 2 5] [2])
.ret))
def UW:AFun:=⟨1,[.t 2],z1C,false,false⟩
def yR (C:Hd)(gl:GL)(e:En)(h:aA)(x:Esc)(K:KT):Sf C gl z1C e h x K:=⟨_,by simp only[z1C,↓wZ,AO.still];rfl⟩
theorem zhc {C gl v0 h x K}:NW C gl UW.body ⟨enter [v0],h,x⟩ K=(yR C gl [(0,v0)] h x K).1:=(yR C gl [(0,v0)] h x K).2
def z17:ACode:=(.seq (rg [mV 6 cF] [0,1,2])
(.seq (rg [mV 7 1,
mV 8 0,
bN 9 .leq 7 8,
mV 10 9,
gD 11 10 true (.mv 0),
gD 12 10 true (.mv 2),
gD 13 10 true (.bin .leq 11 12),
uO 14 (.pick 10 13 cF),
mV 6 14] [6])
.ret))
def PW:AFun:=⟨3,[.t 6],z17,false,false⟩
def vR (C:Hd)(gl:GL)(e:En)(h:aA)(x:Esc)(K:KT):Sf C gl z17 e h x K:=⟨_,by simp only[z17,↓wZ,AO.still];rfl⟩
theorem zgQ {C gl v0 v1 v2 h x K}:NW C gl PW.body ⟨enter [v0,v1,v2],h,x⟩ K=(vR C gl [(0,v0),(1,v1),(2,v2)] h x K).1:=(vR C gl [(0,v0),(1,v1),(2,v2)] h x K).2
def z1B:ACode:=(.seq (rg [uO 1 (.box 0),
mV 2 (cI 0)] [1])
(.seq (.block 0 (.seq (rg [fA 4 3 none 1,
lD 5 none 4,
bN 6 .eql 5 (cS []),
mV 3 6] [1,3])
(.cond 3 (.seq (rg [mV 2 (cI 8)] [2])
.ret)
(.seq (rg [fA 8 3 none 1,
lD 9 none 8,
cL 10 MG [9],
uO 11 (.un .not 10),
mV 7 11] [1,7])
(.cond 7 (.seq (rg [mV 2 (cI 9)] [2])
.ret)
(.seq (rg [fA 13 3 none 1,
lD 14 none 13,
uO 15 (.lens 14),
bN 16 .gtr 15 (cI 2000),
mV 12 16] [1,12])
(.cond 12 (.seq (rg [mV 2 (cI 2)] [2])
.ret)
(.seq (rg [fA 18 4 none 1,
lD 19 none 18,
bN 20 .neq 19 (cS []),
mV 21 20,
gD 22 21 true (.faddr 4 none 1),
gD 23 21 true (.load none 22),
gD 24 21 true (.lens 23),
gD 25 21 true (.faddr 3 none 1),
gD 26 21 true (.load none 25),
gD 27 21 true (.lens 26),
gD 28 21 true (.bin .neq 24 27),
gD 29 21 true (.mv 28),
gD 30 29 false (.faddr 5 none 1),
gD 31 29 false (.load none 30),
gD 32 29 false (.lens 31),
gD 33 29 false (.faddr 3 none 1),
gD 34 29 false (.load none 33),
gD 35 29 false (.lens 34),
gD 36 29 false (.bin .neq 32 35),
gD 37 21 true (.pick 29 cT 36),
uO 38 (.pick 21 37 cF),
mV 17 38] [1,17])
(.cond 17 (.seq (rg [mV 2 (cI 3)] [2])
.ret)
(.seq (rg [fA 40 4 none 1,
lD 41 none 40,
cL 42 MG [41],
uO 43 (.un .not 42),
mV 44 43,
gD 45 44 false (.faddr 5 none 1),
gD 46 44 false (.load none 45),
gD 47 44 false (.call MG [46]),
gD 48 44 false (.un .not 47),
uO 49 (.pick 44 cT 48),
mV 39 49] [1,39])
(.cond 39 (.seq (rg [mV 2 (cI 9)] [2])
.ret)
(.seq (rg [fA 51 4 none 1,
lD 52 none 51,
bN 53 .eql 52 (cS []),
mV 54 53,
gD 55 54 true (.faddr 5 none 1),
gD 56 54 true (.load none 55),
gD 57 54 true (.bin .neq 56 (cS [])),
uO 58 (.pick 54 57 cF),
mV 50 58] [50])
(.cond 50 (.seq (rg [mV 2 (cI 3)] [2])
.ret)
.skip)))))))))))))
(.seq (rg [mV 2 (cI 0)] [2])
.ret)))
def TW:AFun:=⟨1,[.t 2],z1B,false,false⟩
def vE (C:Hd)(gl:GL)(e:En)(h:aA)(x:Esc)(K:KT):Sf C gl z1B e h x K:=⟨_,by simp only[z1B,↓wZ,AO.still];rfl⟩
theorem zhb {C gl v0 h x K}:NW C gl TW.body ⟨enter [v0],h,x⟩ K=(vE C gl [(0,v0)] h x K).1:=(vE C gl [(0,v0)] h x K).2
end Go.Am
end
