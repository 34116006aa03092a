import Derived.KernelRfl
import Derived.Test.YthlhdniejglcnaaGreatDoorlawPY4
set_option linter.all false
set_option maxRecDepth 100000
set_option maxHeartbeats 0
namespace Go.Am
section
abbrev En:=List (Nat × AV)
variable {C:Hd} {gl:Nat->Option PV} {e:En} {h h':aA} {x y:Esc} {K:Ex->St->Prop} {s:St} {L:En->aA->Esc->Prop} {k:AV->aA->Esc->Prop} {ev:Opd->AV} {r:List AOp} {q:List DOp} {dn:DC} {hs:List aA} {Q:Prop}
abbrev Sf (C:Hd)(gl:Nat->Option PV)(c:ACode)(e:En)(h:aA)(x:Esc)(K:Ex->St->Prop):Type:={P:Prop // NW C gl c ⟨e,h,x⟩ K=P}
theorem BY_ {X:Ctx}{f:Nat}{F:AFun}{a asv:List AV}{h h1:aA}{P:jA}(hf:X.fn f=some F)(hr:F.byref=false)(hp:nA h a=some (asv,h1))(hl:asv.length=F.nparams)(S:Sf (bA X) X.gl F.body (enter asv) h1 [] (oA F.results F.keep h.length P))(hd:F.isDet=false:=by rfl)(hO:qD F.results=false:=by rfl):bA X f a h P=S.1:=(CA hf hr hp hl hd hO).trans S.2
def gO (G:AO->(Opd->AV)->aA->(AV->aA->Esc->Prop)->Prop)(t:AV)(g:Bool)(o:AO)(ev:Opd->AV)(h:aA)(k:AV->aA->Esc->Prop):Prop:=gV t g h (G o ev h) k
theorem agetB {e:En}{n m:Nat}{v:AV}:eA ((n,v)::e) m=match Nat.beq n m with|true=>v|false=>eA e m:=by
 show(if n=m then v else eA e m)=_
 cases hb:Nat.beq n m with
 | true=>rw[if_pos (Nat.eq_of_beq_eq_true hb)]
 | false=>rw[if_neg (Nat.ne_of_beq_eq_false hb)]
theorem wA:(∀ {C:Hd} {gl:GL} {e:En} {h:aA} {x:Esc} {K:KT} {l:List Nat} {b:ACode},NW C gl (.pr l b) ⟨e,h,x⟩ K=NW C gl b ⟨EA (some l) e,h,x⟩ K) /\
 (∀{C:Hd} {gl:GL} {K:KT} {s:St} {a b:ACode},NW C gl (.seq a b) s K=NW C gl a s (xD C gl b K)) /\
 (∀{C:Hd} {gl:GL} {K:KT} {s:St} {i:Nat} {b:ACode},NW C gl (.block i b) s K=NW C gl b s (qC i K)) /\
 (∀{C:Hd} {gl:GL} {e:En} {h:aA} {x:Esc} {K:KT} {c:Opd} {a b:ACode},NW C gl (.cond c a b) ⟨e,h,x⟩ K=iB (Opd.ev gl e c) (NW C gl a ⟨e,h,x⟩ K) (NW C gl b ⟨e,h,x⟩ K)) /\
 (∀{C:Hd} {gl:GL} {e:En} {h:aA} {x:Esc} {K:KT} {c:Opd} {a b:ACode},NW C gl (.condu c a b) ⟨e,h,x⟩ K=ON (Opd.ev gl e c) (NW C gl a ⟨e,h,x⟩ K) (NW C gl b ⟨e,h,x⟩ K)) /\
 (∀{C:Hd} {gl:GL} {K:KT} {s:St} {b:ACode},NW C gl (.det b) s K=NW C gl b s K) /\
 (∀{C:Hd} {gl:GL} {K:KT} {s:St},NW C gl .skip s K=K .normal s) /\
 (∀{C:Hd} {gl:GL} {K:KT} {s:St} {i:Nat},NW C gl (.exit i) s K=K (.exit i) s) /\
 (∀{C:Hd} {gl:GL} {K:KT} {s:St},NW C gl .ret s K=K .ret s) /\
 (∀{C:Hd} {gl:GL} {K:KT} {s:St},NW C gl .bad s K=False) /\
 (∀{C:Hd} {gl:GL} {e:En} {h:aA} {x:Esc} {K:KT} {l:List AOp} {o:List Nat},NW C gl (.reg l (some o)) ⟨e,h,x⟩ K=uF C gl l e h x λe h x=>K .normal ⟨EA (some o) e,h,x⟩) /\
 (∀{C:Hd} {gl:GL} {e:En} {h:aA} {x:Esc} {K:KT} {l:List AOp},NW C gl (.reg l none) ⟨e,h,x⟩ K=uF C gl l e h x λe h x=>K .normal ⟨e,h,x⟩) /\
 (∀{C:Hd} {gl:GL} {e:En} {h:aA} {x:Esc} {K:KT} {l:List DOp} {o:List Nat},NW C gl (.draw l (some o)) ⟨e,h,x⟩ K=RE C gl l [] [] e h x λe h x=>K .normal ⟨EA (some o) e,h,x⟩) /\
 (∀{C:Hd} {gl:GL} {e:En} {h:aA} {x:Esc} {K:KT} {l:List DOp},NW C gl (.draw l none) ⟨e,h,x⟩ K=RE C gl l [] [] e h x λe h x=>K .normal ⟨e,h,x⟩) /\
 (∀{C:Hd} {gl:GL} {e:En} {h:aA} {x:Esc} {L:En->aA->Esc->Prop},uF C gl [] e h x L=L e h x) /\
 (∀{C:Hd} {gl:GL} {e:En} {h:aA} {x:Esc} {L:En->aA->Esc->Prop} {r:List AOp} {d:Option Nat} {o:AO},uF C gl (⟨d,none,o⟩::r) e h x L=opC C o (Opd.ev gl e) h λv h' x'=>uF C gl r (put d v e) h' (x'++x) L) /\
 (∀{C:Hd} {gl:GL} {e:En} {h:aA} {x:Esc} {L:En->aA->Esc->Prop} {r:List AOp} {d:Option Nat} {t:Nat} {b:Bool} {o:AO},uF C gl (⟨d,some (t,b),o⟩::r) e h x L=gO (opC C) (eA e t) b o (Opd.ev gl e) h λv h' x'=>uF C gl r (put d v e) h' (x'++x) L) /\
 (∀{C:Hd} {gl:GL} {e:En} {h:aA} {x:Esc} {L:En->aA->Esc->Prop} {dn:DC} {hs:List aA},RE C gl [] dn hs e h x L=L e h x) /\
 (∀{C:Hd} {gl:GL} {e:En} {h:aA} {x:Esc} {L:En->aA->Esc->Prop} {q:List DOp} {dn:DC} {hs:List aA} {d:Option Nat} {o:AO} {rd a b:List Nat} {f:Bool},RE C gl (⟨⟨d,none,o⟩,rd,f,a,b⟩::q) dn hs e h x L=opE C o (Opd.ev gl (EA (some rd) e)) h λv h' y=>
  iI o.still f h h' y (ZE C gl ⟨d,none,o⟩ (EA (some rd) e) v hs (SE C gl h' dn (RE C gl q (dn++[(⟨d,none,o⟩,EA (some rd) e,v)]) (hs++[h]) (put d v e) h' (y++x) L) b) a)) /\
 (∀{C:Hd} {gl:GL} {e:En} {h:aA} {x:Esc} {L:En->aA->Esc->Prop} {q:List DOp} {dn:DC} {hs:List aA} {d:Option Nat} {t:Nat} {g:Bool} {o:AO} {rd a b:List Nat} {f:Bool},RE C gl (⟨⟨d,some (t,g),o⟩,rd,f,a,b⟩::q) dn hs e h x L=gO (opE C) (eA (EA (some rd) e) t) g o (Opd.ev gl (EA (some rd) e)) h λv h' y=>
  iI o.still f h h' y (ZE C gl ⟨d,some (t,g),o⟩ (EA (some rd) e) v hs (SE C gl h' dn (RE C gl q (dn++[(⟨d,some (t,g),o⟩,EA (some rd) e,v)]) (hs++[h]) (put d v e) h' (y++x) L) b) a)) /\
 (∀{h':aA} {h:aA} {y:Esc} {Q:Prop} {b:Bool},iI b true h h' y Q=Q) /\
 (∀{h':aA} {h:aA} {y:Esc} {Q:Prop},iI true false h h' y Q=Q) /\
 (∀{h':aA} {h:aA} {y:Esc} {Q:Prop},iI false false h h' y Q=((h'=h/\y=[])/\Q)) /\
 (∀{C:Hd} {gl:GL} {h:aA} {dn:DC} {Q:Prop},SE C gl h dn Q []=Q) /\
 (∀{C:Hd} {gl:GL} {h:aA} {dn:DC} {Q:Prop} {j:Nat} {l:List Nat},SE C gl h dn Q (j::l)=((match dn[j]? with|some q=>nK C gl q h|none=>False)/\SE C gl h dn Q l)) /\
 (∀{C:Hd} {gl:GL} {e:En} {hs:List aA} {Q:Prop} {o:AOp} {v:AV},ZE C gl o e v hs Q []=Q) /\
 (∀{C:Hd} {gl:GL} {e:En} {hs:List aA} {Q:Prop} {o:AOp} {v:AV} {j:Nat} {l:List Nat},ZE C gl o e v hs Q (j::l)=((match hs[j]? with|some g=>nK C gl (o,e,v) g|none=>False)/\ZE C gl o e v hs Q l)) /\
 (∀{C:Hd} {gl:GL} {e:En} {d:Option Nat} {o:AO} {v:AV} {g:aA},nK C gl (⟨d,none,o⟩,e,v) g=opE C o (Opd.ev gl e) g λv1 h1 x1=>v1=v/\h1=g/\x1=[]) /\
 (∀{C:Hd} {gl:GL} {e:En} {d:Option Nat} {t:Nat} {b:Bool} {o:AO} {v:AV} {g:aA},nK C gl (⟨d,some (t,b),o⟩,e,v) g=gO (opE C) (eA e t) b o (Opd.ev gl e) g λv1 h1 x1=>v1=v/\h1=g/\x1=[]) /\
 (∀{e:En} {d:Nat} {v:AV},put (some d) v e=(d,v)::e) /\
 (∀{e:En} {v:AV},put none v e=e) /\
 (∀{e:En} {n:Nat} {l:List Nat},EA (some (n::l)) e=(n,eA e n)::EA (some l) e) /\
 (∀{e:En},EA (some []) e=[]) /\
 (∀{e:En} {n m:Nat} {v:AV},eA ((n,v)::e) m=match Nat.beq n m with|true=>v|false=>eA e m) /\
 (∀{gl:GL} {e:En} {n:Nat},Opd.ev gl e (.t n)=eA e n) /\
 (∀{gl:GL} {e:En} {v:AV},Opd.ev gl e (.c v)=v) /\
 (∀{gl:GL} {e:En} {n:Nat},Opd.ev gl e (.f n) = .fn n []) /\
 (∀{gl:GL} {e:En} {n:Nat},Opd.ev gl e (.g n)=gv gl n) /\
 (∀{n:Nat},(OfNat.ofNat n:Opd) = .t n) /\
 (∀{C:Hd} {h:aA} {k:AV->aA->Esc->Prop} {ev:Opd->AV} {a:Opd},opC C (.mnext none [a]) ev h k=nxK (ev a) h k) /\
 (∀{C:Hd} {h:aA} {k:AV->aA->Esc->Prop} {ev:Opd->AV} {sh:Sh} {l:List Opd},opC C (.mnext (some sh) l) ev h k=nqK (some sh) (ev1 ev l) h k) /\
 (∀{C:Hd} {h:aA} {k:AV->aA->Esc->Prop} {ev:Opd->AV} {f:Nat} {a:List Opd},opC C (.call f a) ev h k=C f (ev1 ev a) h k) /\
 (∀{C:Hd} {h:aA} {k:AV->aA->Esc->Prop} {ev:Opd->AV} {f:Opd} {a:List Opd},opC C (.callv f a) ev h k=OH C (ev f) (ev1 ev a) h k) /\
 (∀{C:Hd} {h:aA} {k:AV->aA->Esc->Prop} {ev:Opd->AV} {f:Nat} {a:List Opd},opE C (.call f a) ev h k=TB C f (ev1 ev a) h k) /\
 (∀{C:Hd} {h:aA} {k:AV->aA->Esc->Prop} {ev:Opd->AV} {f:Opd} {a:List Opd},opE C (.callv f a) ev h k=NH C (ev f) (ev1 ev a) h k) /\
 (∀{ev:Opd->AV},ev1 ev []=[]) /\
 (∀{ev:Opd->AV} {a:Opd} {l:List Opd},ev1 ev (a::l)=ev a::ev1 ev l) /\
 (∀{ev:Opd->AV},ev2 ev []=[]) /\
 (∀{ev:Opd->AV} {n:Nat} {a:Opd} {l:List (Nat×Opd)},ev2 ev ((n,a)::l)=(n,ev a)::ev2 ev l) /\
 (∀{ev:Opd->AV},ev3 ev []=[]) /\
 (∀{ev:Opd->AV} {n m:Nat} {a:Opd} {l:List (Nat×Nat×Opd)},ev3 ev ((n,m,a)::l)=(n,m,ev a)::ev3 ev l) /\
 (∀{ev:Opd->AV},evO ev none=none) /\
 (∀{ev:Opd->AV} {a:Opd},evO ev (some a)=some (ev a)):=
 ⟨(by intros;rfl),(by intros;rfl),(by intros;rfl),(by intros;rfl),(by intros;rfl),(by intros;rfl),(by intros;rfl),(by intros;rfl),(by intros;rfl),(by intros;rfl),(by intros;rfl),(by intros;rfl),(by intros;rfl),(by intros;rfl),(by intros;rfl),(by intros;rfl),(by intros;rfl),(by intros;rfl),(by intros;rfl),(by intros;rfl),(by intros;rfl),(by intros;rfl),(by intros;rfl),(by intros;rfl),(by intros;rfl),(by intros;rfl),(by intros;rfl),(by intros;rfl),(by intros;rfl),(by intros;rfl),(by intros;rfl),(by intros;rfl),(by intros;rfl),(by intro e n m v;exact agetB),(by intros;rfl),(by intros;rfl),(by intros;rfl),(by intros;rfl),(by intros;rfl),(by intros;rfl),(by intros;rfl),(by intros;rfl),(by intros;rfl),(by intros;rfl),(by intros;rfl),(by intros;rfl),(by intros;rfl),(by intros;rfl),(by intros;rfl),(by intros;rfl),(by intros;rfl),(by intros;rfl),(by intros;rfl)⟩
abbrev OpW (G:AO->(Opd->AV)->aA->(AV->aA->Esc->Prop)->Prop):Prop:=∀{ev:Opd->AV} {h:aA} {k:AV->aA->Esc->Prop},
 (∀{x},G (.mv x) ev h k=k (ev x) h [])/\(∀{c a b},G (.pick c a b) ev h k=pK (ZP (ev c) (ev a) (ev b)) λv=>k v h [])/\(∀{z},G (.alloc z) ev h k=alK z h k) /\
 (∀{x},G (.box x) ev h k=wK (OL (ev x) h) k)/\(∀{z ps},G (.build z ps) ev h k=pK (lC z (ev3 ev ps)) λv=>k v h [])/\(∀{o sh n z ps},G (.bsl o sh n z ps) ev h k=wK (UC o sh n z (ev2 ev ps) h) k) /\
 (∀{sh a},G (.load sh a) ev h k=pK (AA sh (ev a) h) λv=>k v h [])/\(∀{sh a x},G (.store sh a x) ev h k=wK (lB sh (ev a) (ev x) h) k)/\(∀{x},G (.nilchk x) ev h k=pK (iF (ev x)) λv=>k v h []) /\
 (∀{o x y},G (.bin o x y) ev h k=pK (zA o (ev x) (ev y)) λv=>k v h [])/\(∀{l n x y},G (.eqa l n x y) ev h k=pK (SA l n (ev x) (ev y)) λv=>k v h [])/\(∀{n b x},G (.isnil n b x) ev h k=pK (WP n b (ev x)) λv=>k v h []) /\
 (∀{x},G (.mkif x) ev h k=pK (aU (ev x)) λv=>k v h [])/\(∀{o x},G (.un o x) ev h k=pK (oUn o (ev x)) λv=>k v h [])/\(∀{c x},G (.conv (.i c) x) ev h k=pK (PL c (ev x)) λv=>k v h []) /\
 (∀{f l},G (.mkfn f l) ev h k=k (.fn f (ev1 ev l)) h [])/\(∀{sh x a b c},G (.slice sh x a b c) ev h k=pK (QJ sh (ev x) (evO ev a) (evO ev b) (evO ev c) h) λv=>k v h [])/\(∀{x a b},G (.slstr x a b) ev h k=pK (aQ (ev x) (evO ev a) (evO ev b)) λv=>k v h []) /\
 (∀{sh z a b},G (.mksl sh z a b) ev h k=wK (bU sh z (ev a) (ev b) h) k)/\(∀{o sh x},G (.faddr o sh x) ev h k=pK (FA o sh (ev x)) λv=>k v h [])/\(∀{o sh x},G (.field o sh x) ev h k=pK (EI o sh (ev x)) λv=>k v h []) /\
 (∀{sh x i},G (.iaddr sh x i) ev h k=pK (VC sh (ev x) (ev i) h) λv=>k v h [])/\(∀{n sh x i},G (.iaddra n sh x i) ev h k=pK (PJ n sh (ev x) (ev i)) λv=>k v h [])/\(∀{n sh x i},G (.idxa n sh x i) ev h k=pK (FI n sh (ev x) (ev i)) λv=>k v h []) /\
 (∀{x i},G (.idxs x i) ev h k=pK (QL (ev x) (ev i)) λv=>k v h [])/\(∀{x i},G (.ext x i) ev h k=pK (OJ (ev x) i) λv=>k v h [])/\(∀{x},G (.len x) ev h k=pK (rH (ev x)) λv=>k v h [])/\(∀{x},G (.lens x) ev h k=pK (KD (ev x)) λv=>k v h []) /\
 (∀{sh a x},G (.app sh a x) ev h k=wK (NL sh (ev a) (ev x) h) k)/\(∀{sh a x},G (.copy sh a x) ev h k=wK (YT sh (ev a) (ev x) h) k)/\(∀{m t l},G (.uns m t l) ev h k=wK (DB m t (ev1 ev l) h) k)/\(∀{sh z x},G (.clr sh z x) ev h k=wK (oClr sh z (ev x) h) k) /\
 (∀{l},G (.mx l) ev h k=pK (oMx (ev1 ev l)) λv=>k v h [])/\(∀{l},G (.mn l) ev h k=pK (oMn (ev1 ev l)) λv=>k v h [])/\(∀{sh},G (.new0 sh) ev h k=nwK sh h k)/\(∀{x},G (.conv .s2b x) ev h k=wK (LE .s2b (ev x) h) k)/\(∀{x},G (.conv .b2s x) ev h k=wK (LE .b2s (ev x) h) k) /\
 (∀{x},G (.conv .r2s x) ev h k=wK (LE .r2s (ev x) h) k)/\(∀{x},G (.conv .same x) ev h k=wK (LE .same (ev x) h) k)/\(G .mkmap ev h k=mmK h k)/\(∀{n o z x y},G (.look n o z x y) ev h k=pK (FB n o z (ev x) (ev y) h) λv=>k v h [])/\(∀{n m y x},G (.mupd n m y x) ev h k=wK (LB n (ev m) (ev y) (ev x) h) k) /\
 (∀{n z m y},G (.ment n z m y) ev h k=wK (YP n z (ev m) (ev y) h) k)/\(∀{m a x},G (.estore m a x) ev h k=wK (VP (ev m) (ev a) (ev x) h) k)/\(∀{n m y},G (.mdel n m y) ev h k=wK (ZT n (ev m) (ev y) h) k)/\(∀{x},G (.lenm x) ev h k=pK (XP (ev x) h) λv=>k v h []) /\
 (∀{x},G (.mrange x) ev h k=wK (SL (ev x) h) k)/\(∀{i},G (.mentry i) ev h k=wK (RL (ev i) h) k)
theorem w_op:∀ G,(G=opC C∨G=opE C)->OpW G:=by
 rintro G (rfl|rfl) <;> refine λ{_ _ _}=>⟨?_,?_,?_,?_,?_,?_,?_,?_,?_,?_,?_,?_,?_,?_,?_,?_,?_,?_,?_,?_,?_,?_,?_,?_,?_,?_,?_,?_,?_,?_,?_,?_,?_,?_,?_,?_,?_,?_,?_,?_,?_,?_,?_,?_,?_,?_,?_,?_⟩ <;> intros <;> rfl
theorem w_oc:OpW (opC C):=w_op _ (.inl rfl)
theorem w_oe:OpW (opE C):=w_op _ (.inr rfl)
abbrev OpG (G:AO->(Opd->AV)->aA->(AV->aA->Esc->Prop)->Prop):Prop:=∀{t:AV} {g:Bool} {ev:Opd->AV} {h:aA} {k:AV->aA->Esc->Prop},
 (∀{x},gO G t g (.mv x) ev h k=gM t g (ev x) h k) /\
 (∀{c a b},gO G t g (.pick c a b) ev h k=gP t g (ZP (ev c) (ev a) (ev b)) h k) /\
 (∀{z},gO G t g (.alloc z) ev h k=gV t g h (λk=>alK z h k) k) /\
 (∀{x},gO G t g (.box x) ev h k=gV t g h (λk=>wK (OL (ev x) h) k) k) /\
 (∀{z ps},gO G t g (.build z ps) ev h k=gP t g (lC z (ev3 ev ps)) h k) /\
 (∀{o sh n z ps},gO G t g (.bsl o sh n z ps) ev h k=gV t g h (λk=>wK (UC o sh n z (ev2 ev ps) h) k) k) /\
 (∀{sh a},gO G t g (.load sh a) ev h k=gP t g (AA sh (ev a) h) h k) /\
 (∀{sh a x},gO G t g (.store sh a x) ev h k=gV t g h (λk=>wK (lB sh (ev a) (ev x) h) k) k) /\
 (∀{x},gO G t g (.nilchk x) ev h k=gP t g (iF (ev x)) h k) /\
 (∀{o x y},gO G t g (.bin o x y) ev h k=gP t g (zA o (ev x) (ev y)) h k) /\
 (∀{l n x y},gO G t g (.eqa l n x y) ev h k=gP t g (SA l n (ev x) (ev y)) h k) /\
 (∀{n b x},gO G t g (.isnil n b x) ev h k=gP t g (WP n b (ev x)) h k) /\
 (∀{x},gO G t g (.mkif x) ev h k=gP t g (aU (ev x)) h k) /\
 (∀{o x},gO G t g (.un o x) ev h k=gP t g (oUn o (ev x)) h k) /\
 (∀{c x},gO G t g (.conv (.i c) x) ev h k=gP t g (PL c (ev x)) h k) /\
 (∀{f l},gO G t g (.mkfn f l) ev h k=gM t g (.fn f (ev1 ev l)) h k) /\
 (∀{sh x a b c},gO G t g (.slice sh x a b c) ev h k=gP t g (QJ sh (ev x) (evO ev a) (evO ev b) (evO ev c) h) h k) /\
 (∀{x a b},gO G t g (.slstr x a b) ev h k=gP t g (aQ (ev x) (evO ev a) (evO ev b)) h k) /\
 (∀{sh z a b},gO G t g (.mksl sh z a b) ev h k=gV t g h (λk=>wK (bU sh z (ev a) (ev b) h) k) k) /\
 (∀{o sh x},gO G t g (.faddr o sh x) ev h k=gP t g (FA o sh (ev x)) h k) /\
 (∀{o sh x},gO G t g (.field o sh x) ev h k=gP t g (EI o sh (ev x)) h k) /\
 (∀{sh x i},gO G t g (.iaddr sh x i) ev h k=gP t g (VC sh (ev x) (ev i) h) h k) /\
 (∀{n sh x i},gO G t g (.iaddra n sh x i) ev h k=gP t g (PJ n sh (ev x) (ev i)) h k) /\
 (∀{n sh x i},gO G t g (.idxa n sh x i) ev h k=gP t g (FI n sh (ev x) (ev i)) h k) /\
 (∀{x i},gO G t g (.idxs x i) ev h k=gP t g (QL (ev x) (ev i)) h k) /\
 (∀{x i},gO G t g (.ext x i) ev h k=gP t g (OJ (ev x) i) h k) /\
 (∀{x},gO G t g (.len x) ev h k=gP t g (rH (ev x)) h k) /\
 (∀{x},gO G t g (.lens x) ev h k=gP t g (KD (ev x)) h k) /\
 (∀{sh a x},gO G t g (.app sh a x) ev h k=gV t g h (λk=>wK (NL sh (ev a) (ev x) h) k) k) /\
 (∀{sh a x},gO G t g (.copy sh a x) ev h k=gV t g h (λk=>wK (YT sh (ev a) (ev x) h) k) k) /\
 (∀{m t2 l},gO G t g (.uns m t2 l) ev h k=gV t g h (λk=>wK (DB m t2 (ev1 ev l) h) k) k) /\
 (∀{sh z x},gO G t g (.clr sh z x) ev h k=gV t g h (λk=>wK (oClr sh z (ev x) h) k) k) /\
 (∀{l},gO G t g (.mx l) ev h k=gP t g (oMx (ev1 ev l)) h k) /\
 (∀{l},gO G t g (.mn l) ev h k=gP t g (oMn (ev1 ev l)) h k) /\
 (∀{sh},gO G t g (.new0 sh) ev h k=gV t g h (λk=>nwK sh h k) k) /\
 (∀{x},gO G t g (.conv .s2b x) ev h k=gV t g h (λk=>wK (LE .s2b (ev x) h) k) k) /\
 (∀{x},gO G t g (.conv .b2s x) ev h k=gV t g h (λk=>wK (LE .b2s (ev x) h) k) k) /\
 (∀{x},gO G t g (.conv .r2s x) ev h k=gV t g h (λk=>wK (LE .r2s (ev x) h) k) k) /\
 (∀{x},gO G t g (.conv .same x) ev h k=gV t g h (λk=>wK (LE .same (ev x) h) k) k) /\
 (gO G t g .mkmap ev h k=gV t g h (λk=>mmK h k) k) /\
 (∀{n o z x y},gO G t g (.look n o z x y) ev h k=gP t g (FB n o z (ev x) (ev y) h) h k) /\
 (∀{n m y x},gO G t g (.mupd n m y x) ev h k=gV t g h (λk=>wK (LB n (ev m) (ev y) (ev x) h) k) k) /\
 (∀{n z m y},gO G t g (.ment n z m y) ev h k=gV t g h (λk=>wK (YP n z (ev m) (ev y) h) k) k) /\
 (∀{m a x},gO G t g (.estore m a x) ev h k=gV t g h (λk=>wK (VP (ev m) (ev a) (ev x) h) k) k) /\
 (∀{n m y},gO G t g (.mdel n m y) ev h k=gV t g h (λk=>wK (ZT n (ev m) (ev y) h) k) k) /\
 (∀{x},gO G t g (.lenm x) ev h k=gP t g (XP (ev x) h) h k) /\
 (∀{x},gO G t g (.mrange x) ev h k=gV t g h (λk=>wK (SL (ev x) h) k) k) /\
 (∀{i},gO G t g (.mentry i) ev h k=gV t g h (λk=>wK (RL (ev i) h) k) k)
theorem w_og:∀ G,(G=opC C∨G=opE C)->OpG G:=by
 rintro G (rfl|rfl) <;> refine λ{_ _ _ _ _}=>⟨?_,?_,?_,?_,?_,?_,?_,?_,?_,?_,?_,?_,?_,?_,?_,?_,?_,?_,?_,?_,?_,?_,?_,?_,?_,?_,?_,?_,?_,?_,?_,?_,?_,?_,?_,?_,?_,?_,?_,?_,?_,?_,?_,?_,?_,?_,?_,?_⟩ <;> intros <;> rfl
theorem w_gc:OpG (opC C):=w_og _ (.inl rfl)
theorem w_ge:OpG (opE C):=w_og _ (.inr rfl)
theorem wG:(∀ {C:Hd} {t:AV} {g:Bool} {f:Nat} {a:List Opd} {ev:Opd->AV} {h:aA} {k:AV->aA->Esc->Prop},gO (opC C) t g (.call f a) ev h k=gV t g h (C f (ev1 ev a) h) k)/\(∀ {C:Hd} {t:AV} {g:Bool} {f:Opd} {a:List Opd} {ev:Opd->AV} {h:aA} {k:AV->aA->Esc->Prop},gO (opC C) t g (.callv f a) ev h k=gV t g h (OH C (ev f) (ev1 ev a) h) k) /\
 (∀{C:Hd} {t:AV} {g:Bool} {f:Nat} {a:List Opd} {ev:Opd->AV} {h:aA} {k:AV->aA->Esc->Prop},gO (opE C) t g (.call f a) ev h k=gV t g h (TB C f (ev1 ev a) h) k)/\(∀{C:Hd} {t:AV} {g:Bool} {f:Opd} {a:List Opd} {ev:Opd->AV} {h:aA} {k:AV->aA->Esc->Prop},gO (opE C) t g (.callv f a) ev h k=gV t g h (NH C (ev f) (ev1 ev a) h) k):=⟨rfl,rfl,rfl,rfl⟩
theorem wB:(∀ {α:Type} {l:List α},[]++l=l)/\(∀ {α:Type} {a:α} {l m:List α},a::l++m=a::(l++m))/\(∀ {α:Type} {a:α} {l:List α},(a::l)[0]?=some a)/\(∀ {α:Type} {a:α} {l:List α} {i:Nat},(a::l)[i+1]?=l[i]?) /\
 (∀{C:Hd} {gl:GL} {b:ACode} {K:KT} {s:St},xD C gl b K .normal s=NW C gl b s K)/\(∀{C:Hd} {gl:GL} {b:ACode} {K:KT} {s:St} {i:Nat},xD C gl b K (.exit i) s=K (.exit i) s)/\(∀{C:Hd} {gl:GL} {b:ACode} {K:KT} {s:St},xD C gl b K .ret s=K .ret s) /\
 (∀{i:Nat} {K:KT} {s:St},qC i K .normal s=K .normal s)/\(∀{i j:Nat} {K:KT} {s:St},qC i K (.exit j) s=match Nat.beq j i with|true=>K .normal s|false=>K (.exit j) s)/\(∀{i:Nat} {K:KT} {s:St},qC i K .ret s=K .ret s):=
 ⟨by intros;rfl,by intros;rfl,by intros;rfl,by intros;rfl,by intros;rfl,by intros;rfl,by intros;rfl,by intros;rfl,by intro i j K s;show(bif Nat.beq j i then _ else _)=_;cases Nat.beq j i <;> rfl,by intros;rfl⟩
theorem wS:(∀ {n:Int},cI n = .c (.p (.int .i64 n)))/\(cT = .c (.p (.bool true)))/\(cF = .c (.p (.bool false)))/\(∀ {l:List UInt8},cS l = .c (.p (.str l)))/\(∀ {d:Nat} {o:AO},uO d o=⟨some d,none,o⟩)/\(∀ {o:AO},wO o=⟨none,none,o⟩)/\(∀ {d g:Nat} {b:Bool} {o:AO},gD d g b o=⟨some d,some (g,b),o⟩)/\(∀ {d:Nat} {x:Opd},mV d x=⟨some d,none,.mv x⟩) /\
 (∀{d:Nat} {b:BinOp} {x y:Opd},bN d b x y=⟨some d,none,.bin b x y⟩)/\(∀{d f:Nat} {l:List Opd},cL d f l=⟨some d,none,.call f l⟩)/\(∀{d:Nat} {s:Sh} {x:Opd},lD d s x=⟨some d,none,.load s x⟩)/\(∀{d:Nat} {s:Sh} {x y:Opd},iA d s x y=⟨some d,none,.iaddr s x y⟩)/\(∀{d o:Nat} {s:Sh} {x:Opd},fA d o s x=⟨some d,none,.faddr o s x⟩) /\
 (∀{d:Nat} {s:Sh} {x y:Opd},sT d s x y=⟨some d,none,.store s x y⟩)/\(∀{d:Nat} {x:Opd},lN d x=⟨some d,none,.len x⟩)/\(∀{d:Nat} {x:Opd} {i:Nat},eX d x i=⟨some d,none,.ext x i⟩)/\(∀{o:AOp} {l:List Nat},dF o l=⟨o,l,false,[],[]⟩)/\(∀{o:AOp} {l:List Nat},dT o l=⟨o,l,true,[],[]⟩)/\(∀{o:AOp} {l:List Nat} {e:Bool} {a b:List Nat},dA o l e a b=⟨o,l,e,a,b⟩) /\
 (∀{l:List AOp} {k:List Nat},rg l k = .reg l (some k))/\(∀{l:List DOp} {k:List Nat},dr l k = .draw l (some k)):=
 ⟨rfl,rfl,rfl,rfl,rfl,rfl,rfl,rfl,rfl,rfl,rfl,rfl,rfl,rfl,rfl,rfl,rfl,rfl,rfl,rfl,rfl⟩
def wZ:=And.intro wA (And.intro wB (And.intro @w_oc (And.intro @w_oe (And.intro @w_gc (And.intro @w_ge (And.intro wG wS))))))
end
section
variable (C:Hd)(gl:GL)(e:En)(h:aA)(x:Esc)(K:KT)
def z1C:ACode:=(.seq (rg [mV 2 cF] [0])
(.seq (rg [mV 16 0,
uO 17 (.build [.sl0 none,.p (.int .i64 0)] [(0,1,16)]),
uO 18 (.box 17),
mV 19 0,
uO 20 (.build [.sl0 none,.p (.int .i64 0)] [(0,1,19)]),
uO 21 (.box 20),
mV 3 18,
mV 4 21] [3,4])
(.seq (rg [mV 22 3,
cL 23 nI [22],
mV 24 4,
cL 25 nI [24],
mV 26 3,
cL 27 pI [26,(cI 6)],
mV 28 4,
cL 29 pI [28,(cI 6)],
mV 5 23,
mV 6 25,
mV 7 27,
mV 8 29] [5,6,7,8])
(.seq (rg [mV 31 5,
mV 32 7,
cL 33 zP [31,(cS [117]),32],
mV 30 33,
eX 34 30 0,
eX 35 30 1,
mV 9 34,
mV 10 35] [5,6,7,8,9])
(.seq (rg [mV 36 9,
cL 37 mI [36]] [5,6,7,8])
(.seq (rg [mV 39 7,
cL 40 BP [39],
mV 38 40,
eX 41 38 0,
eX 42 38 1,
mV 11 41,
mV 12 42] [5,6,7,8,11])
(.seq (rg [mV 43 11,
cL 44 mI [43]] [5,6,7,8])
(.seq (rg [mV 46 5,
mV 47 7,
cL 48 yP [46,47],
mV 45 48,
eX 49 45 0,
eX 50 45 1,
mV 13 49,
mV 14 50] [5,6,7,8,13])
(.seq (rg [mV 51 13,
cL 52 mI [51]] [5,6,7,8])
(.seq (rg [mV 15 (.f yJ)] [5,6,7,8,15])
(.seq (rg [mV 53 5,
mV 54 6,
mV 55 15,
cL 56 ZO [53,54,55],
mV 57 56,
gD 58 57 true (.mv 7),
gD 59 57 true (.mv 8),
gD 60 57 true (.call aP [58,59]),
uO 61 (.pick 57 60 cF),
mV 62 61,
gD 63 62 true (.call mL []),
uO 64 (.pick 62 63 cF),
mV 2 64] [2])
.ret)))))))))))
def jX:AFun:=⟨1,[.t 2],z1C,false,false⟩
def HR:Sf C gl z1C e h x K:=⟨_,by simp only[z1C,↓wZ,AO.still];rfl⟩
def jU:ACode:=.pr [0,3,6,8,9,10] (rg [mV 57 3,
lD 58 (some 5) 6,
uO 59 (.bsl false (some 5) 1 (.agg [.str [],.int .i64 0,.int .i64 0,.sl (some 2) [],.sl (some 2) []]) [(0,58)]),
uO 60 (.app (some 5) 57 59),
mV 3 60] [0,3,8,9,10])
def WF:Sf C gl jU e h x K:=⟨_,by simp only[jU,↓wZ,AO.still];rfl⟩
def cH:=(WF C gl e h x K).2
def kU:ACode:=.pr [0,3,8,9,10] (rg [bN 61 .add 10 (cI 1),
mV 10 61] [0,3,8,9,10])
def yF:Sf C gl kU e h x K:=⟨_,by simp only[kU,↓wZ,AO.still];rfl⟩
def zG:=(yF C gl e h x K).2
def WL:ACode:=.pr [0,3,8,9,10] (.seq (rg [bN 11 .lss 10 9] [0,3,8,9,10,11])
(.seq (.cond 11 .skip
(.exit 0))
(.seq (.block 1 (.seq (rg [iA 12 none 8 10,
lD 13 none 12,
mV 5 13] [0,3,5,8,9,10])
(.seq (.seq (rg [mV 14 0,
cL 15 lE [14,(cI 3)],
mV 16 15,
gD 17 16 true (.mv 3),
gD 18 16 true (.len 17),
gD 19 16 true (.bin .gtr 18 (cI 0)),
uO 20 (.pick 16 19 cF)] [0,3,5,8,9,10,20])
(.cond 20 (.exit 1)
.skip))
(.seq (rg [mV 21 5,
mV 22 0,
cL 23 fH [22,(cI 2),(cI 4)],
mV 24 0,
uO 25 (.bsl false none 4 (.int .i64 0) [(0,(cI 0)),(1,(cI 0)),(2,(cI 5)),(3,(cI 257))]),
cL 26 AC [24,25],
uO 27 (.build [.p (.str []),.p (.int .i64 0),.p (.int .i64 0),.sl0 (some 2),.sl0 (some 2)] [(0,1,21),(1,1,23),(2,1,26)]),
uO 6 (.alloc [.p (.str []),.p (.int .i64 0),.p (.int .i64 0),.sl0 (some 2),.sl0 (some 2)]),
wO (.store (some 5) 6 27)] [0,3,6,8,9,10])
(.seq (rg [mV 28 0,
cL 29 fH [28,(cI 1),(cI 4)],
uO 30 (.build [.p (.str []),.p (.int .i64 0)] [(0,1,(cS [100,97,116,97])),(1,1,29)]),
uO 31 (.bsl true (some 2) 1 (.agg [.str [],.int .i64 0]) [(0,30)]),
fA 32 3 none 6,
wO (.store none 32 31)] [0,3,6,8,9,10])
(.seq (rg [fA 33 1 none 6,
lD 34 none 33,
cL 35 DA [(cS [48]),34],
uO 36 (.build [.p (.str []),.p (.str [])] [(0,1,35),(1,1,(cS [100,97,116,97]))]),
uO 37 (.bsl true (some 2) 1 (.agg [.str [],.str []]) [(0,36)]),
fA 38 4 none 6,
wO (.store none 38 37)] [0,3,6,8,9,10])
(.seq (.seq (rg [fA 39 2 none 6,
lD 40 none 39,
bN 41 .neq 40 (cI 0),
mV 42 41,
gD 43 42 true (.mv 0),
gD 44 42 true (.call lE [43,(cI 2)]),
uO 45 (.pick 42 44 cF)] [0,3,6,8,9,10,45])
(.cond 45 (dr [dF (fA 46 4 none 6) [6],
dF (lD 47 none 46) [46],
dF (fA 48 1 none 6) [6],
dF (lD 49 none 48) [48],
dF (bN 50 .sub 49 (cI 1)) [49],
dA (cL 51 DA [(cS [48]),50]) [50] true [] [1],
dF (bN 52 .add (cS [49]) 51) [51],
dF (uO 53 (.build [.p (.str []),.p (.str [])] [(0,1,52),(1,1,(cS [105,100,99,111,100,101]))])) [52],
dF (uO 54 (.bsl false (some 2) 1 (.agg [.str [],.str []]) [(0,53)])) [53],
dT (uO 55 (.app (some 2) 47 54)) [47,54],
dF (fA 56 4 none 6) [6],
dT (wO (.store none 56 55)) [56,55]] [0,3,6,8,9,10])
.skip))
jU)))))))
kU)))
def WE:Sf C gl WL e h x K:=⟨_,by simp only[WL,↓wZ,AO.still];rfl⟩
def aG:=(WE C gl e h x K).2
theorem zkK {C gl e h x K}:NW C gl (.loop (.scope WL)) ⟨e,h,x⟩ K=UA C gl (.scope WL) K [(0,eA e 0),(3,eA e 3),(8,eA e 8),(9,eA e 9),(10,eA e 10)] h x:=jC
def dQ:ACode:=.pr [3] (.seq (rg [mV 100 3,
mV 2 100] [2])
.ret)
def JK:Sf C gl dQ e h x K:=⟨_,by simp only[dQ,↓wZ,AO.still];rfl⟩
def qT:=(JK C gl e h x K).2
def eQ:ACode:=.pr [0,3] (.seq (.seq (rg [mV 62 0,
cL 63 lE [62,(cI 20)]] [0,3,63])
(.cond 63 (.seq (rg [mV 64 3,
mV 65 0,
mV 66 3,
lN 67 66,
cL 68 aF [65,67],
iA 69 (some 5) 64 68,
mV 7 69] [0,3,7])
(dr [dF (mV 70 7) [7],
dF (mV 71 7) [7],
dF (mV 72 7) [7],
dF (mV 73 0) [0],
dF (mV 74 7) [7],
dF (uO 75 (.nilchk 74)) [74],
dF (fA 76 0 none 75) [75],
dF (lD 77 none 76) [76],
dF (uO 78 (.bsl false none 3 (.str []) [(0,77),(1,(cS [])),(2,(cS [117]))])) [77],
dT (cL 79 HE [73,78]) [73,78],
dF (mV 80 0) [0],
dF (mV 81 7) [7],
dF (uO 82 (.nilchk 81)) [81],
dF (fA 83 1 none 82) [82],
dA (lD 84 none 83) [83] false [9] [],
dA (uO 85 (.bsl false none 3 (.int .i64 0) [(0,84),(1,(cI 1)),(2,(cI 33))])) [84] false [9] [],
dT (cL 86 AC [80,85]) [80,85],
dF (mV 87 0) [0],
dF (mV 88 7) [7],
dF (uO 89 (.nilchk 88)) [88],
dF (fA 90 2 none 89) [89],
dA (lD 91 none 90) [90] false [9,16] [],
dA (uO 92 (.bsl false none 3 (.int .i64 0) [(0,91),(1,(cI 4)),(2,(cI (-1)))])) [91] false [9,16] [],
dT (cL 93 AC [87,92]) [87,92],
dF (uO 94 (.nilchk 70)) [70],
dF (fA 95 0 none 94) [94],
dT (wO (.store none 95 79)) [95,79],
dF (uO 96 (.nilchk 71)) [71],
dF (fA 97 1 none 96) [96],
dT (wO (.store none 97 86)) [97,86],
dF (uO 98 (.nilchk 72)) [72],
dF (fA 99 2 none 98) [98],
dT (wO (.store none 99 93)) [99,93]] [3]))
.skip))
dQ)
def rJ:Sf C gl eQ e h x K:=⟨_,by simp only[eQ,↓wZ,AO.still];rfl⟩
def rT:=(rJ C gl e h x K).2
def z1H:ACode:=(.seq (rg [mV 2 (.c (.p (.sl (some 5) [])))] [0])
(.seq (rg [uO 3 (.new0 (some 5))] [0,3])
(.seq (.seq (rg [uO 8 (.bsl false none 3 (.str []) [(0,(cS [117])),(1,(cS [118])),(2,(cS [119]))]),
lN 9 8,
mV 10 (cI 0)] [0,3,8,9,10])
(.block 0 (.loop (.scope WL))))
eQ)))
def oX:AFun:=⟨1,[.t 2],z1H,false,false⟩
def KR:Sf C gl z1H e h x K:=⟨_,by simp only[z1H,↓wZ,AO.still];rfl⟩
def XL:ACode:=.pr [0,5,6,7] (.seq (rg [bN 8 .lss 7 6] [0,5,6,7,8])
(.seq (.cond 8 .skip
(.exit 0))
(.seq (.block 1 (rg [mV 9 5,
mV 10 0,
cL 11 LO [10],
uO 12 (.bsl false (some 6) 1 (.agg [.int .i64 0,.int .i64 0,.int .i64 0,.str [],.str [],.str []]) [(0,11)]),
uO 13 (.app (some 6) 9 12),
mV 5 13] [0,5,6,7]))
(rg [bN 14 .add 7 (cI 1),
mV 7 14] [0,5,6,7]))))
def rZ:Sf C gl XL e h x K:=⟨_,by simp only[XL,↓wZ,AO.still];rfl⟩
def zgM:=(rZ C gl e h x K).2
theorem zkL {C gl e h x K}:NW C gl (.loop (.scope XL)) ⟨e,h,x⟩ K=UA C gl (.scope XL) K [(0,eA e 0),(5,eA e 5),(6,eA e 6),(7,eA e 7)] h x:=jC
def YL:ACode:=.pr [0,5,17] (.seq (rg [bN 18 .lss 17 (cI 11)] [0,5,17,18])
(.seq (.cond 18 .skip
(.exit 2))
(.seq (.block 3 (rg [mV 19 5,
mV 20 0,
uO 21 (.bsl false none 3 (.int .i64 0) [(0,(cI 1800)),(1,(cI 1830)),(2,(cI 2000))]),
cL 22 AC [20,21],
cL 23 DA [(cS [49]),22],
uO 24 (.build [.p (.int .i64 0),.p (.int .i64 0),.p (.int .i64 0),.p (.str []),.p (.str []),.p (.str [])] [(0,1,(cI 8)),(3,1,23)]),
uO 25 (.bsl false (some 6) 1 (.agg [.int .i64 0,.int .i64 0,.int .i64 0,.str [],.str [],.str []]) [(0,24)]),
uO 26 (.app (some 6) 19 25),
mV 5 26] [0,5,17]))
(rg [bN 27 .add 17 (cI 1),
mV 17 27] [0,5,17]))))
def sZ:Sf C gl YL e h x K:=⟨_,by simp only[YL,↓wZ,AO.still];rfl⟩
def zgN:=(sZ C gl e h x K).2
theorem zkM {C gl e h x K}:NW C gl (.loop (.scope YL)) ⟨e,h,x⟩ K=UA C gl (.scope YL) K [(0,eA e 0),(5,eA e 5),(17,eA e 17)] h x:=jC
def lU:ACode:=.pr [5] (.seq (rg [mV 28 5,
mV 4 28] [4])
.ret)
def tZ:Sf C gl lU e h x K:=⟨_,by simp only[lU,↓wZ,AO.still];rfl⟩
def zgO:=(tZ C gl e h x K).2
def mU:ACode:=.pr [0,5] (.seq (.seq (rg [mV 15 0,
cL 16 lE [15,(cI 80)]] [0,5,16])
(.cond 16 (.seq (rg [mV 17 (cI 0)] [0,5,17])
(.block 2 (.loop (.scope YL))))
.skip))
lU)
def uZ:Sf C gl mU e h x K:=⟨_,by simp only[mU,↓wZ,AO.still];rfl⟩
def zgP:=(uZ C gl e h x K).2
def z1I:ACode:=(.seq (rg [mV 4 (.c (.p (.sl (some 6) [])))] [0,1])
(.seq (rg [uO 5 (.new0 (some 6))] [0,1,5])
(.seq (.seq (rg [mV 6 1,
mV 7 (cI 0)] [0,5,6,7])
(.block 0 (.loop (.scope XL))))
mU)))
def pX:AFun:=⟨2,[.t 4],z1I,false,false⟩
def LR:Sf C gl z1I e h x K:=⟨_,by simp only[z1I,↓wZ,AO.still];rfl⟩
def z1N:ACode:=(.seq (rg [mV 6 (cI 0)] [0,1,2])
(.seq (.seq (rg [mV 7 2,
mV 8 1,
bN 9 .lss 7 8] [0,1,2,9])
(.cond 9 (.seq (rg [mV 10 1,
mV 6 10] [6])
.ret)
.skip))
(.seq (rg [mV 11 1,
mV 12 0,
mV 13 2,
mV 14 1,
bN 15 .sub 13 14,
bN 16 .add 15 (cI 1),
cL 17 aF [12,16],
bN 18 .add 11 17,
mV 6 18] [6])
.ret)))
def uX:AFun:=⟨3,[.t 6],z1N,false,false⟩
def OR:Sf C gl z1N e h x K:=⟨_,by simp only[z1N,↓wZ,AO.still];rfl⟩
def bV:ACode:=.pr [7,20,21,22] (rg [bN 45 .add 22 (cI 1),
mV 22 45] [7,20,21,22])
def iO:Sf C gl bV e h x K:=⟨_,by simp only[bV,↓wZ,AO.still];rfl⟩
def z0H:=(iO C gl e h x K).2
def CM:ACode:=.pr [7,20,21,22] (.seq (rg [bN 23 .lss 22 21] [7,20,21,22,23])
(.seq (.cond 23 .skip
(.exit 0))
(.seq (.block 1 (.seq (rg [mV 24 22,
iA 25 none 20 22,
lD 26 none 25,
mV 8 24,
mV 9 26] [7,8,9,20,21,22])
(.seq (rg [mV 27 7,
mV 28 8,
iA 29 (some 6) 27 28,
fA 30 0 none 29,
lD 31 none 30,
cL 32 bG [31]] [7,8,9,20,21,22,32])
(.cond 32 (rg [mV 33 7,
mV 34 8,
mV 35 7,
mV 36 8,
mV 37 9,
mV 38 9,
uO 39 (.lens 38),
cL 40 DA [(cS [49]),39],
iA 41 (some 6) 33 34,
fA 42 4 none 41,
wO (.store none 42 37),
iA 43 (some 6) 35 36,
fA 44 5 none 43,
wO (.store none 44 40)] [7,20,21,22])
.skip))))
bV)))
def jO:Sf C gl CM e h x K:=⟨_,by simp only[CM,↓wZ,AO.still];rfl⟩
def z0I:=(jO C gl e h x K).2
theorem zlr {C gl e h x K}:NW C gl (.loop CM) ⟨e,h,x⟩ K=UA C gl CM K [(7,eA e 7),(20,eA e 20),(21,eA e 21),(22,eA e 22)] h x:=EC
def cV:ACode:=.pr [7] (.seq (rg [mV 46 7,
mV 4 46,
mV 5 (cI 0)] [4,5])
.ret)
def VS:Sf C gl cV e h x K:=⟨_,by simp only[cV,↓wZ,AO.still];rfl⟩
def z6w:=(VS C gl e h x K).2
def z2N:ACode:=(.seq (rg [mV 4 (.c (.p (.sl (some 6) []))),
mV 5 (cI 0)] [0,1])
(.seq (.seq (rg [mV 10 0,
mV 11 1,
cL 12 BL [10,11],
mV 6 12] [0,1,6])
(.seq (rg [mV 13 6,
bN 14 .neq 13 (cI 0)] [0,1,6,14])
(.cond 14 (.seq (rg [mV 15 6,
mV 4 (.c (.p (.sl (some 6) []))),
mV 5 15] [4,5])
.ret)
.skip)))
(.seq (rg [mV 16 1,
cL 17 SO [16],
mV 7 17] [0,1,7])
(.seq (.seq (rg [mV 18 0,
mV 19 1,
cL 20 CP [18,19],
lN 21 20,
mV 22 (cI 0)] [7,20,21,22])
(.block 0 (.loop CM)))
cV))))
def yY:AFun:=⟨2,[.o 4,.t 5],z2N,false,false⟩
def fO:Sf C gl z2N e h x K:=⟨_,by simp only[z2N,↓wZ,AO.still];rfl⟩
theorem ziH {C gl v0 v1 h x K}:NW C gl yY.body ⟨enter [v0,v1],h,x⟩ K=(fO C gl [(0,v0),(1,v1)] h x K).1:=(fO C gl [(0,v0),(1,v1)] h x K).2
def eM:ACode:=.pr [0,12,13,14] (.seq (rg [bN 15 .lss 14 13] [0,12,13,14,15])
(.seq (.cond 15 .skip
(.exit 0))
(.seq (.block 1 (.seq (rg [iA 16 (some 6) 12 14,
lD 17 (some 6) 16,
uO 4 (.alloc [.p (.int .i64 0),.p (.int .i64 0),.p (.int .i64 0),.p (.str []),.p (.str []),.p (.str [])]),
wO (.store (some 6) 4 17)] [0,4,12,13,14])
(.seq (rg [lD 18 (some 6) 4,
cL 19 PO [18],
mV 5 19] [0,5,12,13,14])
(.seq (rg [mV 20 5,
bN 21 .neq 20 (cI 0)] [0,5,12,13,14,21])
(.cond 21 (.seq (rg [mV 22 5,
mV 2 22] [2])
.ret)
.skip)))))
(rg [bN 23 .add 14 (cI 1),
mV 14 23] [0,12,13,14]))))
def IZ:Sf C gl eM e h x K:=⟨_,by simp only[eM,↓wZ,AO.still];rfl⟩
def zho:=(IZ C gl e h x K).2
theorem zkS {C gl e h x K}:NW C gl (.loop (.scope eM)) ⟨e,h,x⟩ K=UA C gl (.scope eM) K [(0,eA e 0),(12,eA e 12),(13,eA e 13),(14,eA e 14)] h x:=jC
def tU:ACode:=.pr [0] (.seq (.seq (rg [mV 25 0,
cL 26 oL [25],
mV 24 26,
eX 27 24 0,
eX 28 24 1,
eX 29 24 2,
mV 6 27,
mV 7 28,
mV 8 29] [6])
(.seq (rg [mV 30 6,
uO 31 (.lens 30),
bN 32 .gtr 31 (cI 20000)] [32])
(.cond 32 (.seq (rg [mV 2 (cI 2)] [2])
.ret)
.skip)))
(.seq (rg [mV 2 (cI 0)] [2])
.ret))
def JZ:Sf C gl tU e h x K:=⟨_,by simp only[tU,↓wZ,AO.still];rfl⟩
def zhp:=(JZ C gl e h x K).2
def z1V:ACode:=(.seq (rg [mV 2 (cI 0)] [0])
(.seq (.seq (rg [mV 9 0,
lN 10 9,
bN 11 .gtr 10 (cI 1000)] [0,11])
(.cond 11 (.seq (rg [mV 2 (cI 2)] [2])
.ret)
.skip))
(.seq (.seq (rg [mV 12 0,
lN 13 12,
mV 14 (cI 0)] [0,12,13,14])
(.block 0 (.loop (.scope eM))))
tU)))
def CX:AFun:=⟨1,[.t 2],z1V,false,false⟩
def TN:Sf C gl z1V e h x K:=⟨_,by simp only[z1V,↓wZ,AO.still];rfl⟩
def mM:ACode:=.pr [0,1,12,13] (.seq (rg [bN 14 .lss 13 12] [0,1,12,13,14])
(.seq (.cond 14 .skip
(.exit 0))
(.seq (.block 1 (.seq (rg [mV 15 13,
mV 5 15] [0,1,5,12,13])
(.seq (dr [dF (mV 16 0) [0],
dF (mV 17 5) [5],
dF (iA 18 (some 6) 16 17) [16,17],
dF (lD 19 (some 6) 18) [18],
dF (mV 20 1) [1],
dF (mV 21 5) [5],
dF (iA 22 (some 6) 20 21) [20,21],
dF (lD 23 (some 6) 22) [22],
dF (uO 24 (.eqa [0,0,0,2,2,2] true 19 23)) [19,23]] [0,1,12,13,24])
(.cond 24 (.seq (rg [mV 4 cF] [4])
.ret)
.skip))))
(rg [bN 25 .add 13 (cI 1),
mV 13 25] [0,1,12,13]))))
def UZ:Sf C gl mM e h x K:=⟨_,by simp only[mM,↓wZ,AO.still];rfl⟩
def zhO:=(UZ C gl e h x K).2
theorem zkY {C gl e h x K}:NW C gl (.loop mM) ⟨e,h,x⟩ K=UA C gl mM K [(0,eA e 0),(1,eA e 1),(12,eA e 12),(13,eA e 13)] h x:=EC
def EU:ACode:=.pr [] (.seq (rg [mV 4 cT] [4])
.ret)
def VZ:Sf C gl EU e h x K:=⟨_,by simp only[EU,↓wZ,AO.still];rfl⟩
def zhP:=(VZ C gl e h x K).2
def z2o:ACode:=(.seq (rg [mV 4 cF] [0,1])
(.seq (.seq (rg [mV 6 0,
lN 7 6,
mV 8 1,
lN 9 8,
bN 10 .neq 7 9] [0,1,10])
(.cond 10 (.seq (rg [mV 4 cF] [4])
.ret)
.skip))
(.seq (.seq (rg [mV 11 0,
lN 12 11,
mV 13 (cI 0)] [0,1,12,13])
(.block 0 (.loop mM)))
EU)))
def VX:AFun:=⟨2,[.t 4],z2o,false,false⟩
def VN:Sf C gl z2o e h x K:=⟨_,by simp only[z2o,↓wZ,AO.still];rfl⟩
def ZL:ACode:=.pr [0,1,6] (.seq (rg [bN 7 .lss 6 (cI 6)] [0,1,6,7])
(.seq (.cond 7 .skip
(.exit 0))
(.seq (.block 1 (.seq (rg [mV 8 0,
mV 9 1,
cL 10 MO [8,9],
mV 5 10] [0,1,5,6])
(.seq (rg [mV 11 5,
cL 12 nL [11],
bN 13 .eql 12 (cI 0),
mV 14 13,
gD 15 14 true (.mv 5),
gD 16 14 true (.len 15),
gD 17 14 true (.mv 1),
gD 18 14 true (.bin .leq 16 17),
uO 19 (.pick 14 18 cF)] [0,1,5,6,19])
(.cond 19 (.seq (rg [mV 20 5,
mV 4 20] [4])
.ret)
.skip))))
(rg [bN 21 .add 6 (cI 1),
mV 6 21] [0,1,6]))))
def vZ:Sf C gl ZL e h x K:=⟨_,by simp only[ZL,↓wZ,AO.still];rfl⟩
def zgW:=(vZ C gl e h x K).2
theorem zkN {C gl e h x K}:NW C gl (.loop ZL) ⟨e,h,x⟩ K=UA C gl ZL K [(0,eA e 0),(1,eA e 1),(6,eA e 6)] h x:=EC
def nU:ACode:=.pr [] (.seq (rg [mV 4 (.c (.p (.sl (some 6) [])))] [4])
.ret)
def xZ:Sf C gl nU e h x K:=⟨_,by simp only[nU,↓wZ,AO.still];rfl⟩
def zgX:=(xZ C gl e h x K).2
def z1O:ACode:=(.seq (rg [mV 4 (.c (.p (.sl (some 6) [])))] [0,1])
(.seq (.seq (rg [mV 6 (cI 0)] [0,1,6])
(.block 0 (.loop ZL)))
nU))
def vX:AFun:=⟨2,[.t 4],z1O,false,false⟩
def PR:Sf C gl z1O e h x K:=⟨_,by simp only[z1O,↓wZ,AO.still];rfl⟩
def z1K:ACode:=(.seq (rg [mV 4 (cI 0)] [0,1])
(.seq (rg [mV 7 0,
uO 8 (.nilchk 7),
fA 9 1 none 8,
lD 10 none 9,
bN 11 .add 10 (cI 1),
uO 12 (.nilchk 7),
fA 13 1 none 12,
wO (.store none 13 11)] [0,1])
(.seq (.seq (rg [mV 14 0,
uO 15 (.nilchk 14),
fA 16 0 none 15,
lD 17 none 16,
lN 18 17,
bN 19 .eql 18 (cI 0)] [0,1,19])
(.cond 19 (.seq (rg [mV 20 0,
uO 21 (.nilchk 20),
fA 22 1 none 21,
lD 23 none 22,
bN 24 .mul 23 (cI 7919),
mV 25 1,
cL 26 zJ [24,25],
mV 4 26] [4])
.ret)
.skip))
(.seq (dr [dF (mV 27 0) [0],
dF (uO 28 (.nilchk 27)) [27],
dF (fA 29 1 none 28) [28],
dF (lD 30 none 29) [29],
dF (bN 31 .sub 30 (cI 1)) [30],
dF (mV 32 0) [0],
dF (uO 33 (.nilchk 32)) [32],
dF (fA 34 0 none 33) [33],
dF (lD 35 none 34) [34],
dF (lN 36 35) [35],
dF (bN 37 .rem 31 36) [31,36],
dF (mV 5 37) [37]] [0,1,5])
(.seq (dr [dF (mV 38 0) [0],
dF (uO 39 (.nilchk 38)) [38],
dF (fA 40 1 none 39) [39],
dF (lD 41 none 40) [40],
dF (bN 42 .sub 41 (cI 1)) [41],
dF (mV 43 0) [0],
dF (uO 44 (.nilchk 43)) [43],
dF (fA 45 0 none 44) [44],
dF (lD 46 none 45) [45],
dF (lN 47 46) [46],
dF (bN 48 .quo 42 47) [42,47],
dF (mV 6 48) [48]] [0,1,5,6])
(.seq (rg [mV 49 0,
uO 50 (.nilchk 49),
fA 51 0 none 50,
lD 52 none 51,
mV 53 5,
iA 54 none 52 53,
lD 55 none 54,
cL 56 zJ [55,(cI 1073741824)],
mV 57 6,
mV 58 5,
bN 59 .add (cI 7919) 58,
bN 60 .mul 57 59,
bN 61 .add 56 60,
mV 62 1,
cL 63 zJ [61,62],
mV 4 63] [4])
.ret))))))
def rX:AFun:=⟨2,[.t 4],z1K,false,false⟩
def RN:Sf C gl z1K e h x K:=⟨_,by simp only[z1K,↓wZ,AO.still];rfl⟩
def z1P:ACode:=(.seq (rg [mV 4 (cS [])] [0,1])
(.seq (rg [mV 5 1,
mV 6 0,
mV 7 1,
lN 8 7,
cL 9 aF [6,8],
iA 10 none 5 9,
lD 11 none 10,
mV 4 11] [4])
.ret))
def wX:AFun:=⟨2,[.t 4],z1P,false,false⟩
def QR:Sf C gl z1P e h x K:=⟨_,by simp only[z1P,↓wZ,AO.still];rfl⟩
def z1J:ACode:=(.seq (rg [mV 4 cF] [0,1])
(.seq (rg [mV 5 0,
mV 6 1,
cL 7 aF [5,6],
bN 8 .eql 7 (cI 0),
mV 4 8] [4])
.ret))
def qX:AFun:=⟨2,[.t 4],z1J,false,false⟩
def MR:Sf C gl z1J e h x K:=⟨_,by simp only[z1J,↓wZ,AO.still];rfl⟩
end
section
variable (C:Hd)(gl:GL)(e:En)(h:aA)(x:Esc)(K:KT)
def DM:ACode:=.pr [2,11,12,50,51,52] (.seq (rg [bN 53 .lss 52 51] [2,11,12,50,51,52,53])
(.seq (.cond 53 .skip
(.exit 0))
(.seq (.block 1 (.seq (rg [iA 54 none 50 52,
lD 55 none 54,
mV 14 55] [2,11,12,14,50,51,52])
(rg [mV 56 12,
mV 57 14,
mV 58 11,
mV 59 14,
uO 60 (.look (none,[0]) false (.p (.str [])) 58 59),
uO 61 (.build [.p (.int .i64 0),.p (.int .i64 0),.p (.int .i64 0),.p (.str []),.p (.str []),.p (.str [])] [(0,1,57),(3,1,60)]),
uO 62 (.bsl false (some 6) 1 (.agg [.int .i64 0,.int .i64 0,.int .i64 0,.str [],.str [],.str []]) [(0,61)]),
uO 63 (.app (some 6) 56 62),
mV 12 63] [2,11,12,50,51,52])))
(rg [bN 64 .add 52 (cI 1),
mV 52 64] [2,11,12,50,51,52]))))
def lO:Sf C gl DM e h x K:=⟨_,by simp only[DM,↓wZ,AO.still];rfl⟩
def z0J:=(lO C gl e h x K).2
theorem zls {C gl e h x K}:NW C gl (.loop (.scope DM)) ⟨e,h,x⟩ K=UA C gl (.scope DM) K [(2,eA e 2),(11,eA e 11),(12,eA e 12),(50,eA e 50),(51,eA e 51),(52,eA e 52)] h x:=jC
def dV:ACode:=.pr [11,12,16,65,66,67,84] (.cond 84 (rg [fA 87 3 none 16,
lD 88 none 87,
mV 89 11,
fA 90 0 none 16,
lD 91 none 90,
uO 92 (.look (none,[0]) false (.p (.str [])) 89 91),
bN 93 .add 88 92,
fA 94 3 none 16,
wO (.store none 94 93)] [11,12,16,65,66,67])
.skip)
def SK:Sf C gl dV e h x K:=⟨_,by simp only[dV,↓wZ,AO.still];rfl⟩
def xT:=(SK C gl e h x K).2
def eV:ACode:=.pr [11,12,16,65,66,67,72,73] (.cond 73 (rg [mV 76 11,
fA 77 0 none 16,
lD 78 none 77,
uO 79 (.look (none,[0]) false (.p (.str [])) 76 78),
fA 80 3 none 16,
lD 81 none 80,
bN 82 .add 79 81,
fA 83 3 none 16,
wO (.store none 83 82)] [11,12,16,65,66,67])
(.seq (.seq (rg [bN 85 .eql 72 (cI 4),
mV 84 85] [11,12,16,65,66,67,72,84])
(.cond 84 .skip
(rg [bN 86 .eql 72 (cI 6),
mV 84 86] [11,12,16,65,66,67,84])))
dV))
def VH:Sf C gl eV e h x K:=⟨_,by simp only[eV,↓wZ,AO.still];rfl⟩
def YK:=(VH C gl e h x K).2
def fV:ACode:=.pr [11,12,16,65,66,67] (rg [mV 95 12,
lD 96 (some 6) 16,
uO 97 (.bsl false (some 6) 1 (.agg [.int .i64 0,.int .i64 0,.int .i64 0,.str [],.str [],.str []]) [(0,96)]),
uO 98 (.app (some 6) 95 97),
mV 12 98] [11,12,65,66,67])
def WH:Sf C gl fV e h x K:=⟨_,by simp only[fV,↓wZ,AO.still];rfl⟩
def ZK:=(WH C gl e h x K).2
def iV:ACode:=.pr [11,12,65,66,67] (rg [bN 99 .add 67 (cI 1),
mV 67 99] [11,12,65,66,67])
def XH:Sf C gl iV e h x K:=⟨_,by simp only[iV,↓wZ,AO.still];rfl⟩
def aL:=(XH C gl e h x K).2
def EM:ACode:=.pr [11,12,65,66,67] (.seq (rg [bN 68 .lss 67 66] [11,12,65,66,67,68])
(.seq (.cond 68 .skip
(.exit 2))
(.seq (.block 3 (.seq (rg [iA 69 (some 6) 65 67,
lD 70 (some 6) 69,
uO 16 (.alloc [.p (.int .i64 0),.p (.int .i64 0),.p (.int .i64 0),.p (.str []),.p (.str []),.p (.str [])]),
wO (.store (some 6) 16 70)] [11,12,16,65,66,67])
(.seq (.seq (rg [fA 71 0 none 16,
lD 72 none 71] [11,12,16,65,66,67,72])
(.block 4 (.seq (.seq (rg [bN 74 .eql 72 (cI 3),
mV 73 74] [11,12,16,65,66,67,72,73])
(.cond 73 .skip
(rg [bN 75 .eql 72 (cI 5),
mV 73 75] [11,12,16,65,66,67,72,73])))
eV)))
fV)))
iV)))
def yG:Sf C gl EM e h x K:=⟨_,by simp only[EM,↓wZ,AO.still];rfl⟩
def gI:=(yG C gl e h x K).2
theorem zlt {C gl e h x K}:NW C gl (.loop (.scope EM)) ⟨e,h,x⟩ K=UA C gl (.scope EM) K [(11,eA e 11),(12,eA e 12),(65,eA e 65),(66,eA e 66),(67,eA e 67)] h x:=jC
def jV:ACode:=.pr [12] (.seq (.seq (rg [mV 100 12,
cL 101 CF [100],
mV 17 101] [12,17])
(.seq (rg [mV 102 17,
bN 103 .neq 102 (cI 0)] [12,17,103])
(.cond 103 (.seq (rg [mV 104 17,
mV 6 (.c (.p (.sl (some 6) []))),
mV 7 104] [6,7])
.ret)
.skip)))
(.seq (rg [mV 105 12,
mV 6 105,
mV 7 (cI 0)] [6,7])
.ret))
def mO:Sf C gl jV e h x K:=⟨_,by simp only[jV,↓wZ,AO.still];rfl⟩
def z0K:=(mO C gl e h x K).2
def kV:ACode:=.pr [2,11,12] (.seq (.seq (rg [mV 65 2,
lN 66 65,
mV 67 (cI 0)] [11,12,65,66,67])
(.block 2 (.loop (.scope EM))))
jV)
def WS:Sf C gl kV e h x K:=⟨_,by simp only[kV,↓wZ,AO.still];rfl⟩
def z6x:=(WS C gl e h x K).2
def FM:ACode:=.pr [2,11] (.seq (rg [uO 12 (.new0 (some 6))] [2,11,12])
(.seq (.seq (rg [uO 50 (.bsl false none 4 (.int .i64 0) [(0,(cI 3)),(1,(cI 4)),(2,(cI 5)),(3,(cI 6))]),
lN 51 50,
mV 52 (cI 0)] [2,11,12,50,51,52])
(.block 0 (.loop (.scope DM))))
kV))
def nO:Sf C gl FM e h x K:=⟨_,by simp only[FM,↓wZ,AO.still];rfl⟩
def z0L:=(nO C gl e h x K).2
abbrev pb0(l:List Nat):DOp:=dA (uO 34 (.slice (some 5) 31 (some 33) none none)) [31,33] false l []
abbrev pb1(l:List Nat):DOp:=dA (uO 35 (.callv 30 [34])) [30,34] false l []
abbrev pb2(l:List Nat):DOp:=dA (uO 39 (.slice (some 5) 37 none (some 38) none)) [37,38] false l []
abbrev pb3(l:List Nat):DOp:=dA (uO 40 (.callv 36 [39])) [36,39] false l []
abbrev pb4(l:List Nat):DOp:=dA (cL 46 DA [(cS [48]),45]) [45] false l []
abbrev pb5(l:List Nat):DOp:=dA (cL 48 DA [(cS [48]),47]) [47] false l []
abbrev pa2(r:List DOp):List DOp:=dF (mV 44 9) [9]::dF (bN 45 .sub 43 44) [43,44]::r
abbrev pa4(r:List DOp):List DOp:=dF (mV 49 29) [29]::dF (mV 11 49) [49]::r
abbrev pa6(r:List DOp):List DOp:=dT (wO (.mupd (none,[0]) 29 (cI 6) 48)) [29,48]::dT (wO (.mupd (none,[0]) 29 (cI 5) 46)) [29,46]::r
abbrev pa7(r:List DOp):List DOp:=dT (wO (.mupd (none,[0]) 29 (cI 6) 48)) [29,48]::dT (wO (.mupd (none,[0]) 29 (cI 4) 40)) [29,40]::r
abbrev pa8(r:List DOp):List DOp:=dT (wO (.mupd (none,[0]) 29 (cI 6) 48)) [29,48]::dT (wO (.mupd (none,[0]) 29 (cI 3) 35)) [29,35]::r
abbrev pa10(r:List DOp):List DOp:=dF (mV 36 10) [10]::dF (mV 37 0) [0]::dF (mV 38 9) [9]::r
abbrev pa11(r:List DOp):List DOp:=dF (mV 41 0) [0]::dF (lN 42 41) [41]::dF (bN 43 .sub 42 (cI 1)) [42]::r
abbrev pa12(r:List DOp):List DOp:=pb0 [0]::pb1 [0]::r
abbrev pa13(r:List DOp):List DOp:=dT (wO (.mupd (none,[0]) 29 (cI 5) 46)) [29,46]::dF (mV 47 9) [9]::r
abbrev pa15(r:List DOp):List DOp:=dT (wO (.mupd (none,[0]) 29 (cI 5) 46)) [29,46]::dT (wO (.mupd (none,[0]) 29 (cI 4) 40)) [29,40]::r
abbrev pa16(r:List DOp):List DOp:=dT (wO (.mupd (none,[0]) 29 (cI 5) 46)) [29,46]::dT (wO (.mupd (none,[0]) 29 (cI 3) 35)) [29,35]::r
abbrev pa18(r:List DOp):List DOp:=dT (wO (.mupd (none,[0]) 29 (cI 4) 40)) [29,40]::pa11 (r)
abbrev pa19(r:List DOp):List DOp:=dT (wO (.mupd (none,[0]) 29 (cI 6) 48)) [29,48]::pa4 (r)
abbrev pa20(r:List DOp):List DOp:=dT (wO (.mupd (none,[0]) 29 (cI 4) 40)) [29,40]::dT (wO (.mupd (none,[0]) 29 (cI 3) 35)) [29,35]::r
abbrev pa21(r:List DOp):List DOp:=dT (wO (.mupd (none,[0]) 29 (cI 5) 46)) [29,46]::pa4 (r)
abbrev pa22(r:List DOp):List DOp:=dT (uO 29 (.mkmap)) []::dF (mV 30 10) [10]::dF (mV 31 0) [0]::dF (mV 32 9) [9]::dF (bN 33 .add 32 (cI 1)) [32]::r
abbrev pa25(r:List DOp):List DOp:=pa22 (pa12 (pa10 (pb2 [0]::pb3 [0]::r)))
abbrev pa27(r:List DOp):List DOp:=pa11 (pa2 (r))
abbrev pa29(r:List DOp):List DOp:=dT (wO (.mupd (none,[0]) 29 (cI 4) 40)) [29,40]::pa4 (r)
abbrev pa30(r:List DOp):List DOp:=pa25 (pa27 (r))
abbrev pa32(r:List DOp):List DOp:=pa30 (pb4 [0]::r)
abbrev pa33(r:List DOp):List DOp:=pa6 (dT (wO (.mupd (none,[0]) 29 (cI 3) 35)) [29,35]::r)
abbrev pa34(r:List DOp):List DOp:=pa7 (dT (wO (.mupd (none,[0]) 29 (cI 3) 35)) [29,35]::r)
abbrev pa35(r:List DOp):List DOp:=pa27 (pb4 [0,7]::r)
abbrev pa36(r:List DOp):List DOp:=pa2 (pb4 [0,12]::r)
abbrev pa39(r:List DOp):List DOp:=pa22 (pa12 (dT (wO (.mupd (none,[0]) 29 (cI 3) 35)) [29,35]::pa10 (pb2 [0,7]::pb3 [0,7]::r)))
abbrev pa40(r:List DOp):List DOp:=pa30 (pb4 [0]::dF (mV 47 9) [9]::pb5 [0]::r)
abbrev pc0(c:ACode):ACode:=.block 10 (.block 11 (c))
abbrev pc4(c:ACode):ACode:=.block 24 (.block 25 (c))
abbrev pc5(c:ACode):ACode:=.block 0 (.block 1 (c))
abbrev pc6(c:ACode):ACode:=.block 2 (.block 3 (c))
abbrev pc7(c:ACode):ACode:=.block 4 (.block 5 (c))
abbrev pc8(c:ACode):ACode:=.block 8 (.block 9 (c))
abbrev pc9(c:ACode):ACode:=.block 18 (.block 19 (c))
abbrev pc10(c:ACode):ACode:=.block 12 (.block 13 (c))
abbrev pc12(c:ACode):ACode:=.block 21 (.block 22 (.block 23 (c)))
abbrev pc13(c:ACode):ACode:=pc9 (.block 20 (c))
abbrev pc18(c:ACode):ACode:=pc5 (pc6 (pc7 (.block 6 (.block 7 (pc8 (pc0 (c)))))))
abbrev pc20(c:ACode):ACode:=.block 14 (.block 15 (.block 16 (.block 17 (c))))
abbrev pc21(c:ACode):ACode:=pc18 (pc10 (pc20 (c)))
abbrev pc23(c:ACode):ACode:=.block 20 (pc4 (c))
abbrev pc24(c:ACode):ACode:=pc12 (pc4 (c))
abbrev pc25(c:ACode):ACode:=pc13 (pc24 (c))
abbrev pc26(c:ACode):ACode:=.block 23 (pc21 (pc25 (c)))
abbrev pc27(c:ACode):ACode:=.block 20 (pc21 (c))
abbrev pc28(c:ACode):ACode:=.block 20 (pc26 (c))
abbrev pc30(c:ACode):ACode:=.block 12 (pc20 (c))
abbrev pc31(c:ACode):ACode:=.block 18 (pc12 (c))
abbrev pc32(c:ACode):ACode:=.block 19 (pc23 (c))
abbrev pc34(c:ACode):ACode:=pc9 (pc12 (c))
abbrev pc36(c:ACode):ACode:=.block 19 (pc26 (c))
abbrev pc37(c:ACode):ACode:=.block 7 (.block 13 (c))
abbrev pc39(c:ACode):ACode:=.block 23 (pc27 (pc34 (pc23 (c))))
abbrev pc40(c:ACode):ACode:=.block 7 (pc5 (c))
abbrev pc41(c:ACode):ACode:=pc7 (.block 6 (c))
abbrev pc42(c:ACode):ACode:=.block 12 (pc18 (c))
abbrev pc43(c:ACode):ACode:=pc27 (pc25 (c))
abbrev pc44(c:ACode):ACode:=.block 13 (pc18 (pc30 (c)))
abbrev pc47(c:ACode):ACode:=.block 23 (.block 19 (pc21 (pc31 (pc32 (c)))))
def z2O:ACode:=(.det (.seq (rg [uO 4 (.box 1),
mV 6 (.c (.p (.sl (some 6) []))),
mV 7 (cI 0)] [0,2,4])
(.seq (.seq (rg [mV 18 0,
mV 19 2,
cL 20 BL [18,19],
mV 8 20] [0,2,4,8])
(.seq (rg [mV 21 8,
bN 22 .neq 21 (cI 0)] [0,2,4,8,22])
(.cond 22 (.seq (rg [mV 23 8,
mV 6 (.c (.p (.sl (some 6) []))),
mV 7 23] [6,7])
.ret)
.skip)))
(.seq (rg [mV 24 0,
uO 25 (.mkfn xL [4]),
cL 26 AJ [24,25],
mV 9 26] [0,2,9])
(.seq (.seq (rg [mV 27 9,
bN 28 .lss 27 (cI 0)] [0,2,9,28])
(.cond 28 (.seq (rg [mV 6 (.c (.p (.sl (some 6) []))),
mV 7 (cI 8)] [6,7])
.ret)
.skip))
(.seq (rg [mV 10 (.f AP)] [0,2,9,10])
(.seq (.condu (.c .anyb) (pc37 (pc21 (pc25 (.condu (.c .anyb) (.block 7 (pc43 (.condu (.c .anyb) (.block 13 (pc43 (.condu (.c .anyb) (.block 7 (pc26 (.condu (.c .anyb) (.block 13 (pc26 (.condu (.c .anyb) (pc28 (dr (pa39 (pa18 (pa2 (pb4 [0,7,13]::pa13 (pb5 [0,7,13,20]::pa19 ([])))))) [2,11]))
(pc39 (dr (pa39 (pa18 (pa2 (pb4 [0,7,13]::dF (mV 47 9) [9]::pb5 [0,7,13]::pa6 (pa4 ([])))))) [2,11])))))
(.block 23 (pc44 (pc34 (.block 13 (pc23 (dr (pa39 (pa35 (dF (mV 47 9) [9]::pb5 [0,7]::pa7 (pa21 ([]))))) [2,11])))))))))
(.block 23 (pc40 (pc6 (pc41 (pc8 (pc0 (pc30 (pc34 (pc37 (pc23 (dr (pa40 (pa8 (dT (wO (.mupd (none,[0]) 29 (cI 4) 40)) [29,40]::pa21 ([])))) [2,11]))))))))))))))
(.block 20 (pc44 (pc13 (.block 13 (pc24 (.condu (.c .anyb) (.block 7 (pc26 (.condu (.c .anyb) (pc36 (.condu (.c .anyb) (pc28 (dr (pa39 (pa35 (pa15 (dF (mV 47 9) [9]::pb5 [0,7,19,20]::pa19 ([]))))) [2,11]))
(pc39 (dr (pa39 (pa35 (pa13 (pb5 [0,7,19]::pa7 (pa4 ([])))))) [2,11]))))
(pc47 (dr (pa39 (pa35 (dF (mV 47 9) [9]::pb5 [0,7]::pa6 (pa29 ([]))))) [2,11])))))
(.block 23 (pc40 (pc6 (pc41 (pc8 (pc0 (pc10 (pc20 (pc31 (.block 7 (pc32 (dr (pa40 (pa8 (pa15 (pa4 ([]))))) [2,11])))))))))))))))))))))
(.block 20 (pc40 (pc6 (pc41 (pc8 (pc0 (pc30 (pc13 (pc37 (pc24 (.condu (.c .anyb) (.block 18 (pc26 (.condu (.c .anyb) (pc36 (.condu (.c .anyb) (pc28 (dr (pa32 (pa16 (dT (wO (.mupd (none,[0]) 29 (cI 4) 40)) [29,40]::dF (mV 47 9) [9]::pb5 [0,18,19,20]::pa19 ([])))) [2,11]))
(pc39 (dr (pa32 (pa16 (dF (mV 47 9) [9]::pb5 [0,18,19]::pa7 (pa4 ([]))))) [2,11]))))
(pc47 (dr (pa32 (pa13 (pb5 [0,18]::pa8 (pa29 ([]))))) [2,11])))))
(.block 23 (.block 18 (pc21 (pc12 (pc13 (pc4 (dr (pa40 (pa33 (pa29 ([])))) [2,11]))))))))))))))))))))))
(.block 13 (pc40 (pc6 (pc41 (pc8 (pc0 (pc10 (.block 7 (pc20 (pc25 (.condu (.c .anyb) (.block 12 (pc43 (.condu (.c .anyb) (.block 13 (pc43 (.condu (.c .anyb) (.block 12 (pc26 (.condu (.c .anyb) (.block 13 (pc26 (.condu (.c .anyb) (pc28 (dr (pa25 (pa20 (pa27 (pb4 [0,12,13]::pa13 (pb5 [0,12,13,20]::pa19 ([])))))) [2,11]))
(pc39 (dr (pa25 (pa20 (pa27 (pb4 [0,12,13]::dF (mV 47 9) [9]::pb5 [0,12,13]::pa6 (pa4 ([])))))) [2,11])))))
(.block 23 (pc44 (pc34 (.block 13 (pc23 (dr (pa25 (pa18 (pa36 (dF (mV 47 9) [9]::pb5 [0,12]::pa8 (pa21 ([])))))) [2,11])))))))))
(.block 23 (pc42 (pc20 (pc34 (pc10 (pc23 (dr (pa40 (pa34 (pa21 ([])))) [2,11]))))))))))
(.block 20 (pc44 (pc13 (.block 13 (pc24 (.condu (.c .anyb) (.block 12 (pc26 (.condu (.c .anyb) (pc36 (.condu (.c .anyb) (pc28 (dr (pa25 (pa18 (pa36 (pa16 (dF (mV 47 9) [9]::pb5 [0,12,19,20]::pa19 ([])))))) [2,11]))
(pc39 (dr (pa25 (pa18 (pa36 (pa13 (pb5 [0,12,19]::pa8 (pa4 ([]))))))) [2,11]))))
(pc47 (dr (pa25 (pa18 (pa36 (dF (mV 47 9) [9]::pb5 [0,12]::pa33 (pa4 ([])))))) [2,11])))))
(.block 23 (pc42 (.block 13 (pc20 (pc31 (.block 12 (pc32 (dr (pa40 (pa7 (pa16 (pa4 ([]))))) [2,11])))))))))))))))))
(.block 20 (pc42 (pc20 (pc13 (pc10 (pc24 (.condu (.c .anyb) (.block 18 (pc26 (.condu (.c .anyb) (pc36 (.condu (.c .anyb) (pc28 (dr (pa32 (pa15 (dT (wO (.mupd (none,[0]) 29 (cI 3) 35)) [29,35]::dF (mV 47 9) [9]::pb5 [0,18,19,20]::pa19 ([])))) [2,11]))
(pc39 (dr (pa32 (pa15 (dF (mV 47 9) [9]::pb5 [0,18,19]::pa8 (pa4 ([]))))) [2,11]))))
(pc47 (dr (pa32 (pa13 (pb5 [0,18]::pa34 (pa4 ([]))))) [2,11])))))
(.block 23 (.block 18 (pc21 (pc12 (pc13 (pc4 (dr (pa40 (pa6 (pa20 (pa4 ([]))))) [2,11]))))))))))))))))))))))))))
FM)))))))
def zY:AFun:=⟨3,[.o 6,.t 7],z2O,false,false⟩
def RK:Sf C gl z2O e h x K:=⟨_,by simp (config:={maxSteps:=9999999}) only[z2O,pb0,pb1,pb2,pb3,pb4,pb5,pa2,pa4,pa6,pa7,pa8,pa10,pa11,pa12,pa13,pa15,pa16,pa18,pa19,pa20,pa21,pa22,pa25,pa27,pa29,pa30,pa32,pa33,pa34,pa35,pa36,pa39,pa40,pc0,pc4,pc5,pc6,pc7,pc8,pc9,pc10,pc12,pc13,pc18,pc20,pc21,pc23,pc24,pc25,pc26,pc27,pc28,pc30,pc31,pc32,pc34,pc36,pc37,pc39,pc40,pc41,pc42,pc43,pc44,pc47,↓wZ,AO.still];rfl⟩
theorem ziI {C gl v0 v1 v2 h x K}:NW C gl zY.body ⟨enter [v0,v1,v2],h,x⟩ K=(RK C gl [(0,v0),(1,v1),(2,v2)] h x K).1:=(RK C gl [(0,v0),(1,v1),(2,v2)] h x K).2
def VL:ACode:=.pr [0,2,5,6] (.seq (rg [bN 7 .lss 6 5] [0,2,5,6,7])
(.seq (.cond 7 .skip
(.exit 0))
(.seq (.block 1 (.seq (rg [mV 8 6,
mV 3 8] [0,2,3,5,6])
(rg [mV 9 0,
mV 10 3,
lD 11 (some 6) 2,
iA 12 (some 6) 9 10,
wO (.store (some 6) 12 11)] [0,2,5,6])))
(rg [bN 13 .add 6 (cI 1),
mV 6 13] [0,2,5,6]))))
def IK:Sf C gl VL e h x K:=⟨_,by simp only[VL,↓wZ,AO.still];rfl⟩
def pT:=(IK C gl e h x K).2
theorem zkJ {C gl e h x K}:NW C gl (.loop VL) ⟨e,h,x⟩ K=UA C gl VL K [(0,eA e 0),(2,eA e 2),(5,eA e 5),(6,eA e 6)] h x:=EC
def z1E:ACode:=(.seq (rg [uO 2 (.alloc [.p (.int .i64 0),.p (.int .i64 0),.p (.int .i64 0),.p (.str []),.p (.str []),.p (.str [])])] [0,2])
(.seq (rg [mV 4 0,
lN 5 4,
mV 6 (cI 0)] [0,2,5,6])
(.block 0 (.loop VL))))
def lX:AFun:=⟨1,[],z1E,true,false⟩
def QN:Sf C gl z1E e h x K:=⟨_,by simp only[z1E,↓wZ,AO.still];rfl⟩
theorem zgC {C gl v0 h x K}:NW C gl lX.body ⟨enter [v0],h,x⟩ K=(QN C gl [(0,v0)] h x K).1:=(QN C gl [(0,v0)] h x K).2
def nV:ACode:=.pr [0,5,6,15,16,17] (rg [bN 82 .add 17 (cI 1),
mV 17 82] [0,5,6,15,16,17])
def z0p:Sf C gl nV e h x K:=⟨_,by simp only[nV,↓wZ,AO.still];rfl⟩
def ziM:=(z0p C gl e h x K).2
def HM:ACode:=.pr [0,5,6,15,16,17] (.seq (rg [bN 18 .lss 17 16] [0,5,6,15,16,17,18])
(.seq (.cond 18 .skip
(.exit 0))
(.seq (.block 1 (.seq (rg [mV 19 17,
iA 20 (some 6) 15 17,
lD 21 (some 6) 20,
uO 8 (.alloc [.p (.int .i64 0),.p (.int .i64 0),.p (.int .i64 0),.p (.str []),.p (.str []),.p (.str [])]),
mV 7 19,
wO (.store (some 6) 8 21)] [0,5,6,7,8,15,16,17])
(.seq (.seq (dr [dF (fA 22 0 none 8) [8],
dF (lD 23 none 22) [22],
dT (cL 24 rI [23]) [23],
dF (mV 25 24) [24],
dF (gD 26 25 true (.load (some 6) 8)) [8,25],
dF (gD 27 25 true (.mv 0)) [0,25],
dF (gD 28 25 true (.mv 7)) [7,25],
dF (gD 29 25 true (.bin .add 28 (cI 1))) [28,25],
dF (gD 30 25 true (.slice (some 6) 27 (some 29) none none)) [27,29,25],
dT (gD 31 25 true (.call EP [26,30])) [26,30,25],
dF (gD 32 25 true (.un .not 31)) [31,25],
dF (gD 33 25 true (.mv 32)) [32,25],
dF (gD 34 33 false (.mv 5)) [5,33],
dF (gD 35 33 false (.nilchk 34)) [34,33],
dF (gD 36 33 false (.faddr 0 (some 36) 35)) [35,33],
dF (gD 37 33 false (.faddr 0 none 8)) [8,33],
dF (gD 38 33 false (.load none 37)) [37,33],
dT (gD 39 33 false (.call sI [36,38])) [36,38,33],
dF (gD 40 33 false (.nilchk 39)) [39,33],
dF (gD 41 33 false (.load (some 6) 40)) [40,33],
dA (gD 42 33 false (.load (some 6) 8)) [8,33] false [17] [],
dF (gD 43 33 false (.eqa [0,0,0,2,2,2] false 41 42)) [41,42,33],
dF (gD 44 25 true (.pick 33 cT 43)) [33,43,25],
dF (uO 45 (.pick 25 44 cF)) [25,44]] [0,5,6,8,15,16,17,45])
(.cond 45 (.exit 1)
.skip))
(.seq (.seq (dr [dF (fA 46 0 none 8) [8],
dF (lD 47 none 46) [46],
dF (bN 48 .eql 47 (cI 9)) [47],
dF (mV 49 48) [48],
dF (gD 50 49 true (.faddr 2 none 8)) [8,49],
dF (gD 51 49 true (.load none 50)) [50,49],
dF (gD 52 49 true (.bin .eql 51 (cI 0))) [51,49],
dF (uO 53 (.pick 49 52 cF)) [49,52],
dF (mV 54 53) [53],
dF (gD 55 54 true (.mv 5)) [5,54],
dF (gD 56 54 true (.nilchk 55)) [55,54],
dF (gD 57 54 true (.faddr 36 none 56)) [56,54],
dF (gD 58 54 true (.load none 57)) [57,54],
dF (gD 59 54 true (.bin .eql 58 (cI 1))) [58,54],
dF (uO 60 (.pick 54 59 cF)) [54,59],
dF (mV 61 60) [60],
dF (gD 62 61 false (.faddr 0 none 8)) [8,61],
dF (gD 63 61 false (.load none 62)) [62,61],
dF (gD 64 61 false (.bin .eql 63 (cI 10))) [63,61],
dF (gD 65 61 false (.mv 64)) [64,61],
dF (gD 66 65 true (.faddr 1 none 8)) [8,65],
dF (gD 67 65 true (.load none 66)) [66,65],
dF (gD 68 65 true (.mv 5)) [5,65],
dF (gD 69 65 true (.nilchk 68)) [68,65],
dF (gD 70 65 true (.faddr 36 none 69)) [69,65],
dF (gD 71 65 true (.load none 70)) [70,65],
dF (gD 72 65 true (.bin .eql 67 71)) [67,71,65],
dF (gD 73 61 false (.pick 65 72 cF)) [65,72,61],
dF (uO 74 (.pick 61 cT 73)) [61,73]] [0,5,6,8,15,16,17,74])
(.cond 74 (.exit 1)
.skip))
(.seq (rg [mV 75 5,
lD 76 (some 6) 8,
cL 77 EJ [75,76]] [0,5,6,8,15,16,17])
(rg [mV 78 6,
lD 79 (some 6) 8,
uO 80 (.bsl false (some 6) 1 (.agg [.int .i64 0,.int .i64 0,.int .i64 0,.str [],.str [],.str []]) [(0,79)]),
uO 81 (.app (some 6) 78 80),
mV 6 81] [0,5,6,15,16,17]))))))
nV)))
def z0q:Sf C gl HM e h x K:=⟨_,by simp only[HM,↓wZ,AO.still];rfl⟩
def ziN:=(z0q C gl e h x K).2
theorem zlv {C gl e h x K}:NW C gl (.loop (.scope HM)) ⟨e,h,x⟩ K=UA C gl (.scope HM) K [(0,eA e 0),(5,eA e 5),(6,eA e 6),(15,eA e 15),(16,eA e 16),(17,eA e 17)] h x:=jC
def oV:ACode:=.pr [6] (.seq (rg [mV 83 6,
mV 2 83,
mV 3 (cI 0)] [2,3])
.ret)
def z0r:Sf C gl oV e h x K:=⟨_,by simp only[oV,↓wZ,AO.still];rfl⟩
def ziO:=(z0r C gl e h x K).2
def z2R:ACode:=(.seq (rg [mV 2 (.c (.p (.sl (some 6) []))),
mV 3 (cI 0)] [0])
(.seq (.seq (rg [mV 9 0,
cL 10 CF [9],
mV 4 10] [0,4])
(.seq (rg [mV 11 4,
bN 12 .neq 11 (cI 0)] [0,4,12])
(.cond 12 (.seq (rg [mV 13 4,
mV 2 (.c (.p (.sl (some 6) []))),
mV 3 13] [2,3])
.ret)
.skip)))
(.seq (rg [cL 14 bF [(.c (.p (.sl (some 6) []))),(.c (.nilp))],
mV 5 14] [0,5])
(.seq (rg [uO 6 (.new0 (some 6))] [0,5,6])
(.seq (.seq (rg [mV 15 0,
lN 16 15,
mV 17 (cI 0)] [0,5,6,15,16,17])
(.block 0 (.loop (.scope HM))))
oV)))))
def CY:AFun:=⟨1,[.o 2,.t 3],z2R,false,false⟩
def aT:Sf C gl z2R e h x K:=⟨_,by simp only[z2R,↓wZ,AO.still];rfl⟩
theorem ziL {C gl v0 h x K}:NW C gl CY.body ⟨enter [v0],h,x⟩ K=(aT C gl [(0,v0)] h x K).1:=(aT C gl [(0,v0)] h x K).2
def z1D:ACode:=(.seq (rg [uO 2 (.box 0),
uO 3 (.box 1),
mV 4 cF] [2,3])
(.seq (rg [fA 5 0 none 2,
lD 6 none 5,
fA 7 0 none 3,
lD 8 none 7,
bN 9 .eql 6 8,
mV 10 9,
gD 11 10 true (.faddr 1 none 2),
gD 12 10 true (.load none 11),
gD 13 10 true (.faddr 1 none 3),
gD 14 10 true (.load none 13),
gD 15 10 true (.bin .eql 12 14),
uO 16 (.pick 10 15 cF),
mV 17 16,
gD 18 17 true (.faddr 2 none 2),
gD 19 17 true (.load none 18),
gD 20 17 true (.faddr 2 none 3),
gD 21 17 true (.load none 20),
gD 22 17 true (.bin .eql 19 21),
uO 23 (.pick 17 22 cF),
mV 24 23,
gD 25 24 true (.faddr 3 none 2),
gD 26 24 true (.load none 25),
gD 27 24 true (.faddr 3 none 3),
gD 28 24 true (.load none 27),
gD 29 24 true (.call cP [26,28]),
uO 30 (.pick 24 29 cF),
mV 31 30,
gD 32 31 true (.faddr 4 none 2),
gD 33 31 true (.load none 32),
gD 34 31 true (.faddr 4 none 3),
gD 35 31 true (.load none 34),
gD 36 31 true (.call bP [33,35]),
uO 37 (.pick 31 36 cF),
mV 4 37] [4])
.ret))
def kX:AFun:=⟨2,[.t 4],z1D,false,false⟩
def IR:Sf C gl z1D e h x K:=⟨_,by simp only[z1D,↓wZ,AO.still];rfl⟩
def oM:ACode:=.pr [0,1,12,13] (.seq (rg [bN 14 .lss 13 12] [0,1,12,13,14])
(.seq (.cond 14 .skip
(.exit 0))
(.seq (.block 1 (.seq (rg [mV 15 13,
mV 5 15] [0,1,5,12,13])
(.seq (dr [dF (mV 16 0) [0],
dF (mV 17 5) [5],
dF (iA 18 (some 2) 16 17) [16,17],
dF (lD 19 (some 2) 18) [18],
dF (mV 20 1) [1],
dF (mV 21 5) [5],
dF (iA 22 (some 2) 20 21) [20,21],
dF (lD 23 (some 2) 22) [22],
dF (uO 24 (.eqa [2,0] true 19 23)) [19,23]] [0,1,12,13,24])
(.cond 24 (.seq (rg [mV 4 cF] [4])
.ret)
.skip))))
(rg [bN 25 .add 13 (cI 1),
mV 13 25] [0,1,12,13]))))
def XN:Sf C gl oM e h x K:=⟨_,by simp only[oM,↓wZ,AO.still];rfl⟩
def z0A:=(XN C gl e h x K).2
theorem zla {C gl e h x K}:NW C gl (.loop oM) ⟨e,h,x⟩ K=UA C gl oM K [(0,eA e 0),(1,eA e 1),(12,eA e 12),(13,eA e 13)] h x:=EC
def GU:ACode:=.pr [] (.seq (rg [mV 4 cT] [4])
.ret)
def tS:Sf C gl GU e h x K:=⟨_,by simp only[GU,↓wZ,AO.still];rfl⟩
def z6q:=(tS C gl e h x K).2
def z2q:ACode:=(.seq (rg [mV 4 cF] [0,1])
(.seq (.seq (rg [mV 6 0,
lN 7 6,
mV 8 1,
lN 9 8,
bN 10 .neq 7 9] [0,1,10])
(.cond 10 (.seq (rg [mV 4 cF] [4])
.ret)
.skip))
(.seq (.seq (rg [mV 11 0,
lN 12 11,
mV 13 (cI 0)] [0,1,12,13])
(.block 0 (.loop oM)))
GU)))
def XX:AFun:=⟨2,[.t 4],z2q,false,false⟩
def sS:Sf C gl z2q e h x K:=⟨_,by simp only[z2q,↓wZ,AO.still];rfl⟩
def nM:ACode:=.pr [0,1,12,13] (.seq (rg [bN 14 .lss 13 12] [0,1,12,13,14])
(.seq (.cond 14 .skip
(.exit 0))
(.seq (.block 1 (.seq (rg [mV 15 13,
mV 5 15] [0,1,5,12,13])
(.seq (dr [dF (mV 16 0) [0],
dF (mV 17 5) [5],
dF (iA 18 (some 2) 16 17) [16,17],
dF (lD 19 (some 2) 18) [18],
dF (mV 20 1) [1],
dF (mV 21 5) [5],
dF (iA 22 (some 2) 20 21) [20,21],
dF (lD 23 (some 2) 22) [22],
dF (uO 24 (.eqa [2,2] true 19 23)) [19,23]] [0,1,12,13,24])
(.cond 24 (.seq (rg [mV 4 cF] [4])
.ret)
.skip))))
(rg [bN 25 .add 13 (cI 1),
mV 13 25] [0,1,12,13]))))
def WN:Sf C gl nM e h x K:=⟨_,by simp only[nM,↓wZ,AO.still];rfl⟩
def z09:=(WN C gl e h x K).2
theorem zkZ {C gl e h x K}:NW C gl (.loop nM) ⟨e,h,x⟩ K=UA C gl nM K [(0,eA e 0),(1,eA e 1),(12,eA e 12),(13,eA e 13)] h x:=EC
def FU:ACode:=.pr [] (.seq (rg [mV 4 cT] [4])
.ret)
def rS:Sf C gl FU e h x K:=⟨_,by simp only[FU,↓wZ,AO.still];rfl⟩
def z6p:=(rS C gl e h x K).2
def z2p:ACode:=(.seq (rg [mV 4 cF] [0,1])
(.seq (.seq (rg [mV 6 0,
lN 7 6,
mV 8 1,
lN 9 8,
bN 10 .neq 7 9] [0,1,10])
(.cond 10 (.seq (rg [mV 4 cF] [4])
.ret)
.skip))
(.seq (.seq (rg [mV 11 0,
lN 12 11,
mV 13 (cI 0)] [0,1,12,13])
(.block 0 (.loop nM)))
FU)))
def WX:AFun:=⟨2,[.t 4],z2p,false,false⟩
def qS:Sf C gl z2p e h x K:=⟨_,by simp only[z2p,↓wZ,AO.still];rfl⟩
def lM:ACode:=.pr [1,2,15,16,17] (.seq (rg [bN 18 .lss 17 16] [1,2,15,16,17,18])
(.seq (.cond 18 .skip
(.exit 0))
(.seq (.block 1 (.seq (rg [mV 19 17,
iA 20 (some 5) 15 17,
lD 21 (some 5) 20,
uO 8 (.alloc [.p (.str []),.p (.int .i64 0),.p (.int .i64 0),.sl0 (some 2),.sl0 (some 2)]),
mV 7 19,
wO (.store (some 5) 8 21)] [1,2,7,8,15,16,17])
(.seq (rg [mV 22 1,
mV 23 7,
iA 24 (some 5) 22 23,
lD 25 (some 5) 24,
uO 9 (.alloc [.p (.str []),.p (.int .i64 0),.p (.int .i64 0),.sl0 (some 2),.sl0 (some 2)]),
wO (.store (some 5) 9 25)] [1,2,8,9,15,16,17])
(.seq (rg [mV 26 2,
lD 27 (some 5) 8,
lD 28 (some 5) 9,
uO 29 (.callv 26 [27,28]),
uO 30 (.un .not 29)] [1,2,15,16,17,30])
(.cond 30 (.seq (rg [mV 6 cF] [6])
.ret)
.skip)))))
(rg [bN 31 .add 17 (cI 1),
mV 17 31] [1,2,15,16,17]))))
def UN:Sf C gl lM e h x K:=⟨_,by simp only[lM,↓wZ,AO.still];rfl⟩
def z08:=(UN C gl e h x K).2
theorem zkX {C gl e h x K}:NW C gl (.loop (.scope lM)) ⟨e,h,x⟩ K=UA C gl (.scope lM) K [(1,eA e 1),(2,eA e 2),(15,eA e 15),(16,eA e 16),(17,eA e 17)] h x:=jC
def DU:ACode:=.pr [] (.seq (rg [mV 6 cT] [6])
.ret)
def pS:Sf C gl DU e h x K:=⟨_,by simp only[DU,↓wZ,AO.still];rfl⟩
def z6o:=(pS C gl e h x K).2
def z2n:ACode:=(.seq (rg [mV 6 cF] [0,1,2])
(.seq (.seq (rg [mV 10 0,
lN 11 10,
mV 12 1,
lN 13 12,
bN 14 .neq 11 13] [0,1,2,14])
(.cond 14 (.seq (rg [mV 6 cF] [6])
.ret)
.skip))
(.seq (.seq (rg [mV 15 0,
lN 16 15,
mV 17 (cI 0)] [1,2,15,16,17])
(.block 0 (.loop (.scope lM))))
DU)))
def UX:AFun:=⟨3,[.t 6],z2n,false,false⟩
def oS:Sf C gl z2n e h x K:=⟨_,by simp only[z2n,↓wZ,AO.still];rfl⟩
def z1M:ACode:=(.seq (rg [mV 4 (cI 0)] [0,1])
(.seq (rg [mV 5 1,
mV 6 0,
mV 7 1,
lN 8 7,
cL 9 aF [6,8],
iA 10 none 5 9,
lD 11 none 10,
mV 4 11] [4])
.ret))
def tX:AFun:=⟨2,[.t 4],z1M,false,false⟩
def NR:Sf C gl z1M e h x K:=⟨_,by simp only[z1M,↓wZ,AO.still];rfl⟩
end
end Go.Am
