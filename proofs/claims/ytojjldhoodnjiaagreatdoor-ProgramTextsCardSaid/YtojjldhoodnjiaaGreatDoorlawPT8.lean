/- Texts of the proof, laid together: SpBld, PBits, SpFlt3, SpFlt4, SpFlt5, SpArg, SpFlt6, SpFltT, SpPath, PVec3, PVec4, SpWalk, SpVec1, SpVec2, SpVec12, SpVec13, SpVec14, SpVec15, SpVec3, SpSortO, SpGenF, SpVec4, SpVec4b, SpVec4c, SpVec4d, SpVec4e, SpVec5, SpVec6, SpVec7, SpVec8. -/
import Derived.Test.YtojjldhoodnjiaaGreatDoorlawPT7
set_option linter.all false
section
/- A builder of strings. -/
open Go
set_option linter.all false
namespace Go.Am
variable {h:Heap} {K:Post}
theorem zrM {b:Nat}:reif b h .nili=some .nili:=by simp only[reif]
attribute [local go_sem] zrM
def bldB (u:Bool) (id n:Nat):Obj:=.box [bif u then .ref id 0 else .bt 0 bldT id 0,.bt 1 bldE (id+1) n]
theorem znh (id n:Nat):bldB true id n = .box [.ref id 0,.bt 1 bldE (id+1) n]:=rfl
theorem bldB_f (id n:Nat):bldB false id n = .box [.bt 0 bldT id 0,.bt 1 bldE (id+1) n]:=rfl
theorem set_id {o:Obj} {id:Nat} (hh:h[id]?=some o):h.set id o=h:=by
 apply List.ext_getElem?
 intro j
 by_cases e:id=j
 ·subst e;rw[List.getElem?_set_self (z6o hh),hh]
 ·rw[List.getElem?_set_ne e]
theorem zgQ (u:Bool) (id n:Nat) (hh:h[id]?=some (bldB u id n)):z0c X zbi [.ref id 0] h K=K (.tup []) (h.set id (bldB true id n)) []:=by
 refine rule ?_
 rw[c_q04z rfl]
 cases u with
 | true=>
  rw[set_id hh]
  rw[znh] at hh
  simp only[zhH,go_sem,hh]
 | false=>
  rw[bldB_f] at hh
  rw[znh]
  simp only[bldT] at hh
  simp only[zhH,go_sem,hh]
theorem zsw {h:Heap} {i j:Nat} {a b:Obj} (e:i≠j):(h.set i a).set j b=(h.set j b).set i a:=List.set_comm a b e
def zcc (h:Heap) (u:Bool) (id:Nat) (s:List UInt8):Prop:=h[id]?=some (bldB u id s.length)∧h[id+1]?=some (.row none (z0q s) 0)
def held (h:Heap) (id:Nat) (s:List UInt8):Heap:=(h.set id (bldB true id s.length)).set (id+1) (.row none (z0q s) 0)
theorem z5i (s:List UInt8):(z0q s).length=s.length:=by simp [z0q]
theorem zj9 (s t:List UInt8):z0q s++z0q t=z0q (s++t):=by simp [z0q]
theorem z2p {u:Bool} {id:Nat} {s t:List UInt8} (H:zcc h u id s) (hm:s.length+t.length≤200000000000):z0c X z2n [.ref id 0,AS t] h K=K (.tup [AI t.length,.nili]) (held h id (s++t)) []:=by
 refine rule ?_
 rw[c_q04y rfl]
 have l:=z6o H.1
 have l2:=z6o H.2
 have e:=fun K=>zgQ (K:=K) u id s.length H.1
 have g1:(h.set id (bldB true id s.length))[id]?=some (.box [.ref id 0,.bt 1 bldE (id+1) s.length]):=by rw[List.getElem?_set_self l,znh]
 have g2:(h.set id (bldB true id s.length))[id+1]?=some (.row none (z0q s) 0):=by rw[List.getElem?_set_ne (by omega)];exact H.2
 have g3:∀ o,((h.set id (bldB true id s.length)).set (id+1) o)[id]?=some (.box [.ref id 0,.bt 1 bldE (id+1) s.length]):=fun o=>by rw[List.getElem?_set_ne (by omega)];exact g1
 have hl:s.length+t.length≤z0J:=by unfold z0J;omega
 simp only[bldE] at g1 g3
 simp only[znQ,go_sem,e,g1,g2,g3,z5i,hl]
 rw[List.take_of_length_le (by simp)]
 unfold held
 rw[zsw (i:=id+1) (j:=id) (by omega),List.set_set,zj9,List.length_append]
 rfl
theorem s_BLen {u:Bool} {id:Nat} {s:List UInt8} (H:zcc h u id s):z0c X z9q [.ref id 0] h K=K (AI s.length) h []:=by
 refine rule ?_
 rw[c_q04w rfl]
 have g1:=H.1
 unfold bldB at g1
 simp only[znP,go_sem,g1]
def z2D (h:Heap) (id:Nat) (s:List UInt8):Heap:=if s=[] then h else h.set (id+1) (.row none (z0q s) (s.length+1))
theorem z5C (s:List UInt8):z4d (z0q s)=some s:=by
 induction s with
 | nil=>rfl
 | cons a r ih=>
  have h1:(0:Int)≤(a.toNat:Int)∧(a.toNat:Int)<256:=⟨by omega,by have:=a.toNat_lt;omega⟩
  have e:z0q (a::r) = .int .u8 a.toNat::z0q r:=rfl
  rw[e]
  unfold z4d
  rw[if_pos h1,ih]
  simp
theorem z7i {u:Bool} {id:Nat} {s:List UInt8} (H:zcc h u id s) (hm:s.length≤200000000000):z0c X z4m [.ref id 0] h K=K (AS s) (z2D h id s) []:=by
 refine rule ?_
 rw[c_q04x rfl]
 have l:=z6o H.1
 have l2:=z6o H.2
 have g1:=H.1
 have g2:=H.2
 unfold bldB at g1
 have hl:s.length≤z0J:=by unfold z0J;omega
 unfold z2D
 by_cases h0:s=[]
 ·subst h0
  simp only[bldE,List.length_nil] at g1
  simp only[zhG,go_sem,g1,g2,z5i,hl]
  exact if_pos rfl ▸ trivial
 ·have h0':¬ s.length=0:=by simpa using h0
  have h1:1≤s.length:=by omega
  simp only[bldE] at g1
  have e0:(0:Int)≤(s.length:Int):=by omega
  simp only[zhG,go_sem,g1,g2,z5i,hl,h0',h1,z5C,e0,Int.toNat_natCast,h0]
def bh (h:Heap) (u:Bool) (s:List UInt8) (l:Heap):Heap:=h++bldB u h.length s.length :: .row none (z0q s) 0::l
theorem zce {u:Bool} {s:List UInt8} {l:Heap}:zcc (bh h u s l) u h.length s:=by
 unfold bh
 exact⟨by simp,by rw[List.getElem?_append_right (by omega)];simp⟩
theorem zxm {u:Bool} {s t:List UInt8} {l:Heap}:held (bh h u s l) h.length t=bh h true t l:=by
 unfold held bh
 rw[List.set_append_right _ _ (by omega),List.set_append_right _ _ (by omega),Nat.sub_self,show h.length+1-h.length=1 by omega]
 rfl
theorem s_WS {u:Bool} {s t:List UInt8} {l:Heap} (hm:s.length+t.length≤200000000000):z0c X z2n [.ref h.length 0,AS t] (bh h u s l) K=K (.tup [AI t.length,.nili]) (bh h true (s++t) l) []:=by
 rw[z2p zce hm,zxm]
theorem s_BL {u:Bool} {s:List UInt8} {l:Heap}:z0c X z9q [.ref h.length 0] (bh h u s l) K=K (AI s.length) (bh h u s l) []:=s_BLen zce
theorem zwp {u:Bool} {s:List UInt8} {l:Heap}:(bh h u s l).length=h.length+(l.length+2):=by
 unfold bh
 simp
theorem bh_app {u:Bool} {s:List UInt8} {l l2:Heap}:bh h u s l++l2=bh h u s (l++l2):=by
 unfold bh
 simp
theorem bh_get {u:Bool} {s:List UInt8} {l:Heap} {n:Nat}:(bh h u s l)[h.length+(n+2)]?=l[n]?:=by
 unfold bh
 rw[List.getElem?_append_right (by omega),show h.length+(n+2)-h.length=n+2 by omega]
 rfl
theorem bh_set {u:Bool} {s:List UInt8} {l:Heap} {n:Nat} {o:Obj}:(bh h u s l).set (h.length+(n+2)) o=bh h u s (l.set n o):=by
 unfold bh
 rw[List.set_append_right _ _ (by omega),show h.length+(n+2)-h.length=n+2 by omega]
 rfl
theorem zng {u:Bool} {s:List UInt8} {l:Heap} {n:Nat}:(bh h u s l).take (h.length+(n+2))=bh h u s (l.take n):=by
 unfold bh
 rw[List.take_length_add_append]
 rfl
end Go.Am
end
section
/- Numbers asv sets of bits;rows of a test asv numbers. -/
set_option linter.all false
namespace Go.Am
theorem zj6 {s:List UInt8} (k:Nat) (h:z0V s=true):z0V (s.take k)=true:=by
 unfold z0V at *
 rw[List.all_eq_true] at *
 exact fun x hx=>h x (List.mem_of_mem_take hx)
theorem bit_at {s:List UInt8} {k:Nat} (hk:k<s.length) (h:z0V s=true):s[k]=48∨s[k]=49:=by
 unfold z0V at h
 have:=List.all_eq_true.1 h _ (List.getElem_mem hk)
 unfold zya at this
 simpa [List.contains_cons] using this
end Go.Am
end
section
/- Lists of faults: what is wrong with them,both ways. -/
open Go
set_option linter.all false
namespace Go.Am
variable {h:Heap} {K:Post}
end Go.Am
end
section
/- Rows of a test asv numbers. -/
open Go
set_option linter.all false
namespace Go.Am
variable {h:Heap} {K:Post}
end Go.Am
end
section
/- Faults on rows: what the program makes of them. -/
open Go
set_option linter.all false
namespace Go.Am
variable {h:Heap} {K:Post}
end Go.Am
end
section
/- Rows that are handed tov a function: it sees their values. -/
open Go
namespace Go.Am
theorem zxh {X:Ctx} {f:Nat} {F:AFun} {a:List AV} {vs:List PV} {h h1:Heap} {P:Post} (hf:X.fn f=some F) (hr:F.byref=false) (hp:z0p h a=some (vs.map .p,h1)) (hq:z0p h1 (vs.map .p)=some (vs.map .p,h1)) (hl:vs.length=F.nparams) (hlen:h1.length=h.length):z0c X f a h P=z0c X f (vs.map .p) h1 P:=by
 cases hd:F.isDet with
 | false=>rw[z0g hf hr hp (by simpa using hl) hd,z0g hf hr hq (by simpa using hl) hd,hlen]
 | true=>rw[z2L hf hr hp (by simpa using hl) hd,z2L hf hr hq (by simpa using hl) hd,hlen]
theorem zxR {h:Heap} {id k:Nat}:(frz h id k).length=h.length:=by
 unfold frz
 split <;> simp
end Go.Am
end
section
/- Responses,asv the program computes them. -/
open Go
set_option linter.all false
namespace Go.Am
variable {h:Heap} {K:Post}
end Go.Am
end
section
/- Faults written. -/
open Go
set_option linter.all false
namespace Go.Am
variable {h:Heap} {K:Post}
theorem zyL {b:Nat} {P:Post} {s:List UInt8} {n:Int} {g:Heap} (k:P (.tup [AS s,AI n]) (g.take b) []):retK false b P (some [AS s,AI n]) g [(b,b+2)]:=by
 have e1:∀ m,reif m g (.tup [AS s,AI n])=some (.tup [AS s,AI n]):=fun m=>by simp [reif,z7z]
 have e2:AV.top (.tup [AS s,AI n])=0:=by simp [AV.top,AV.tops]
 have e3:z2I 1 [(b,b+2)] b=b:=by simp [z2I,bump]
 have e4:z19 [(b,b+2)] b=true:=by simp [z19]
 simp only[retK,z1l,e1,e2,Nat.max_zero,List.length_cons,List.length_nil,Nat.zero_add,e3,e4,if_true]
 refine⟨Nat.zero_le _,?_⟩
 simpa using k
end Go.Am
end
section
/- The shortest way between two states of a test access port: a search over a queue. -/
open Go
set_option linter.all false
namespace Go.Am
variable {h:Heap} {K:Post}
attribute [-go_sem] z8m zc7 zc5 zc6
def nxtT:List (List Nat):=[[1,0],[1,2],[3,9],[4,5],[4,5],[6,8],[6,7],[4,8],[1,2],[10,0],[11,12],[11,12],[13,15],[13,14],[11,15],[1,2]]
def nxt (s t:Nat):Nat:=(nxtT.getD s []).getD t 0
theorem zy5 {s t:Nat} (hs:s<16) (ht:t<2):([AI 1,AI 0,AI 1,AI 2,AI 3,AI 9,AI 4,AI 5,AI 4,AI 5,AI 6,AI 8,AI 6,AI 7,AI 4,AI 8,AI 1,AI 2,AI 10,AI 0,AI 11,AI 12,AI 11,AI 12,AI 13,AI 15,AI 13,AI 14,AI 11,AI 15,AI 1,AI 2]:List AV)[s*2+t*1]?=some (AI (nxt s t)):=by
 have hs':s=0∨s=1∨s=2∨s=3∨s=4∨s=5∨s=6∨s=7∨s=8∨s=9∨s=10∨s=11∨s=12∨s=13∨s=14∨s=15:=by omega
 have ht':t=0∨t=1:=by omega
 rcases hs' with rfl | rfl | rfl | rfl | rfl | rfl | rfl | rfl | rfl | rfl | rfl | rfl | rfl | rfl | rfl | rfl <;> rcases ht' with rfl | rfl <;> rfl
theorem zqs {Y:Ctx} (hY:Y.fn z8d=some zd3) (s t:Nat) (hs:s<16) (ht:t<2):z0c Y z8d [AI s,AI t] h K=K (AI (nxt s t)) h []:=by
 refine rule ?_
 rw[z0g hY rfl (show z0p h [AI s,AI t]=some ([AI s,AI t],h) from rfl) rfl,zw3]
 show zhK _ _ _ _ _ _ (finR [.t 4] false _ _)
 have g:=zy5 hs ht
 simp only[zhK,go_sem,hs,ht,g]
abbrev Ways:=List (Int × List UInt8)
def keyP (n:Int):PV:=.int .i64 n
def valP (s:List UInt8):AV:=.p (.str s)
def bit1 (t:Nat):List UInt8:=[UInt8.ofNat (48+t)]
def zgf (at_ t:Nat) (s:Ways × List Nat):Ways × List Nat:=
 if (getM (nxt at_ t:Int) s.1).isSome then s else (updM (nxt at_ t:Int) ((getM (at_:Int) s.1).getD []++bit1 t) s.1,s.2++[nxt at_ t])
def z7l (at_:Nat):Nat→Ways × List Nat→Ways × List Nat
 | 0,s=>s
 | t+1,s=>zgf at_ t (z7l at_ t s)
def popS (s:Ways × List Nat):Ways × List Nat:=match s.2 with
 | []=>s
 | a::r=>z7l a 2 (s.1,r)
def bfs (a:Nat):Nat→Ways × List Nat
 | 0=>([((a:Int),[])],[a])
 | k+1=>popS (bfs a k)
def z0f (a b:Nat):List UInt8:=(getM (b:Int) (bfs a 16).1).getD []
def zjO (s:Ways × List Nat):Bool:=decide (s.1.length≤16)&&decide (s.2.length≤16)&&s.2.all (fun x=>decide (x<16))&&s.1.all (fun e=>decide (e.2.length≤16))
theorem znf:(List.range 16).all (fun a=>(List.range 16).all (fun k=>zjO (bfs a k) && !(bfs a k).2.isEmpty)&&zjO (bfs a 16)&&(bfs a 16).2.isEmpty)=true:=by kernel_rfl
theorem ztk {a k:Nat} (ha:a<16) (hk:k<16):zjO (bfs a k)=true∧(bfs a k).2≠[]:=by
 have h1:=List.all_eq_true.1 znf a (List.mem_range.2 ha)
 simp only[Bool.and_eq_true] at h1
 have h2:=List.all_eq_true.1 h1.1.1 k (List.mem_range.2 hk)
 simp only[Bool.and_eq_true,Bool.not_eq_true',List.isEmpty_eq_false_iff] at h2
 exact h2
theorem zxl {a:Nat} (ha:a<16):zjO (bfs a 16)=true∧(bfs a 16).2=[]:=by
 have h1:=List.all_eq_true.1 znf a (List.mem_range.2 ha)
 simp only[Bool.and_eq_true,List.isEmpty_iff] at h1
 exact⟨h1.1.2,h1.2⟩
theorem ztQ {s:Ways × List Nat} (hf:zjO s=true):s.1.length≤16∧s.2.length≤16∧(∀ x∈s.2,x<16)∧∀ e∈s.1,e.2.length≤16:=by
 unfold zjO at hf
 simp only[Bool.and_eq_true,decide_eq_true_eq,List.all_eq_true] at hf
 exact⟨hf.1.1.1,hf.1.1.2,hf.1.2,hf.2⟩
theorem lookP {hp:Heap} {id:Nat} {m:Ways} {b:Int} (hh:hp[id]?=some (mobj keyP valP m)):z8m (none,[0]) false (.p (.str [])) (.mp id) (AI b) hp=some (.p (.str ((getM b m).getD []))):=by
 have:=zip (key:=keyP) (val:=valP) (fun a b=>zc0 a b) hh (kk:=(none,[0])) (k:=b) z9y (ok:=false) (z:=.p (.str []))
 rw[cond_false] at this
 refine this.trans ?_
 cases getM b m <;> rfl
theorem lookQ {hp:Heap} {id:Nat} {m:Ways} {b:Int} (hh:hp[id]?=some (mobj keyP valP m)):z8m (none,[0]) true (.p (.str [])) (.mp id) (AI b) hp=some (.tup [.p (.str ((getM b m).getD [])),AB (getM b m).isSome]):=by
 have:=zip (key:=keyP) (val:=valP) (fun a b=>zc0 a b) hh (kk:=(none,[0])) (k:=b) z9y (ok:=true) (z:=.p (.str []))
 rw[cond_true] at this
 refine this.trans ?_
 cases getM b m <;> rfl
theorem updP {hp:Heap} {id:Nat} {m:Ways} {b:Int} {v:List UInt8} (hh:hp[id]?=some (mobj keyP valP m)):zc7 (none,[0]) (.mp id) (AI b) (.p (.str v)) hp=some (.und,hp.set id (mobj keyP valP (updM b v m)),[]):=
 zuq (key:=keyP) (val:=valP) (fun a b=>zc0 a b) hh (kk:=(none,[0])) (k:=b) z9y (v:=v) rfl
structure Que (R:Heap) (i:Nat) (xs:List Nat) (off:Nat) (q:List Nat):Prop where
 get:R[i]?=some (.row none (xs.map fun n:Nat=>eI n) 0)
 le:off≤xs.length
 eq:xs.drop off=q
theorem nq_one {hp:Heap} {id:Nat} {xs:List Nat} {off:Nat} {n:Int} {k:AV→Heap→Esc→Prop} (hh:hp[id]?=some (.row none (xs.map fun n:Nat=>eI n) 0)) (ho:off≤xs.length) (hm:xs.length≤1000000)
 (k1:k (.own id (xs.length+1) off (xs.length-off+1)) (hp.set id (.row none (xs.map (fun n:Nat=>eI n)++[eI n]) 0)) [])
 (k2:k (.own hp.length (xs.length-off+1) 0 (xs.length-off+1)) (hp++[.row none ((xs.drop off).map (fun n:Nat=>eI n)++[eI n]) 0]) []) :
 nqK (some none) [.own id xs.length off (xs.length-off),.p (.sl none [eI n])] hp k:=by
 have hx:xs.length-off+1≤z0J:=by unfold z0J;omega
 have hr:rds hp (.p (.sl none [eI n]))=some (none,[eI n]):=rfl
 have hw:win (xs.map fun n:Nat=>eI n) off (xs.length-off)=(xs.drop off).map fun n:Nat=>eI n:=by
  unfold win
  rw[← List.map_drop]
  exact List.take_of_length_le (by simp)
 unfold nqK z7t appq
 simp only[hr,if_true,hh,List.length_map,List.length_cons,List.length_nil,Nat.zero_add]
 rw[if_pos ⟨trivial,trivial,by omega,hx,Nat.zero_le _⟩,hw]
 refine⟨by simp,fun y hy=>?_⟩
 simp only[List.mem_cons,List.not_mem_nil,or_false] at hy
 rcases hy with rfl | rfl
 ·exact k1
 ·exact k2
theorem ziq {α β:Type} [DecidableEq α] {k:α} {v:β}:∀ {l:List (α × β)} {e:α × β},e∈updM k v l→e∈l∨e=(k,v)
 | [],e,h=>by simp [updM] at h;exact .inr h
 | x::r,e,h=>by
  unfold updM at h
  split at h
  ·rcases List.mem_cons.1 h with h | h
   ·exact .inr h
   ·exact .inl (List.mem_cons_of_mem _ h)
  ·rcases List.mem_cons.1 h with h | h
   ·exact .inl (h ▸ List.mem_cons_self)
   ·rcases ziq h with h | h
    ·exact .inl (List.mem_cons_of_mem _ h)
    ·exact .inr h
theorem zih {α β:Type} [DecidableEq α] {k:α} {v:β}:∀ {l:List (α × β)},getM k l=some v→(k,v)∈l
 | [],h=>by cases h
 | x::r,h=>by
  unfold getM at h
  split at h
  ·rename_i he;cases h;subst he;simp
  ·exact List.mem_cons_of_mem _ (zih h)
theorem zjf {n:Nat} {w:Ways} (hw:∀ e∈w,e.2.length≤n) (k:Int):((getM k w).getD []).length≤n:=by
 cases hg:getM k w with
 | none=>simp
 | some v=>exact hw _ (zih hg)
theorem zsG {n at_ t:Nat} {s:Ways × List Nat} (hw:∀ e∈s.1,e.2.length≤n):∀ e∈(zgf at_ t s).1,e.2.length≤n+1:=by
 unfold zgf
 split
 ·intro e he;have:=hw e he;omega
 ·intro e he
  rcases ziq he with h | h
  ·have:=hw e h;omega
  ·subst h
   have:=zjf hw (at_:Int)
   simp [bit1];omega
theorem zbW {n at_:Nat} {s:Ways × List Nat} (hw:∀ e∈s.1,e.2.length≤n):∀ (t:Nat),∀ e∈(z7l at_ t s).1,e.2.length≤n+t
 | 0=>hw
 | t+1=>zsG (zbW hw t)
set_option maxHeartbeats 1000000 in
theorem g_path {Y:Ctx} (hY1:Y.fn z9s=some zhe) (hY2:Y.fn z8d=some zd3) (a b:Nat) (ha:a<16) (hb:b<16):z0c Y z9s [AI a,AI b] h K=K (.p (.str (z0f a b))) h []:=by
 refine rule ?_
 rw[z2L hY1 rfl (show z0p h [AI a,AI b]=some ([AI a,AI b],h) from rfl) rfl]
 simp only[zw4]
 show ∃ v h' x,_∧zeF _ _ _ _ _ _ _ _ (finR [.t 4] false _ _)
 simp only[zeF]
 refine⟨_,_,_,⟨rfl,rfl,rfl⟩,?_⟩
 have em:mobj keyP valP [((a:Int),([]:List UInt8))] = .amap [⟨.int .i64 a,.p (.str []),0⟩] 1:=rfl
 have u0:=fun (hp:Heap) (hh:hp[h.length]?=some (mobj keyP valP []))=>updP (b:=(a:Int)) (v:=[]) hh
 have e0:updM (a:Int) [] ([]:Ways)=[((a:Int),[])]:=rfl
 have em0:mobj keyP valP ([]:Ways) = .amap [] 0:=rfl
 rw[e0] at u0
 simp only[em0] at u0
 simp only[go_sem,u0]
 refine z0T (fun t:Nat × Heap × Nat × List Nat × Nat × Option Nat=>⟨[(1,AI b),(5,.mp h.length),(6,.own (h.length+(t.2.2.1+1)) t.2.2.2.1.length t.2.2.2.2.1 (t.2.2.2.1.length-t.2.2.2.2.1))]++(match t.2.2.2.2.2 with | none=>[] | some q=>[(7,AI q),(25,AI 2),(26,AB false)]),h++mobj keyP valP (bfs a t.1).1::t.2.1,[]⟩)
  (fun t=>t.1≤16∧Que t.2.1 t.2.2.1 t.2.2.2.1 t.2.2.2.2.1 (bfs a t.1).2∧t.2.2.2.1.length≤1+2*t.1) (fun t=>16-t.1) (0,[.row none [eI a] 0],0,[a],0,none) (by simp [bfs]) ⟨by simp,⟨rfl,by simp,rfl⟩,by simp⟩ ?_
 rintro⟨k,R,i,xs,off,oq⟩ ⟨h1,hq,h2⟩
 dsimp only at h1 hq h2 ⊢
 have hqg:=hq.get
 have hle:=hq.le
 have heq:=hq.eq
 have hln:xs.length-off=(bfs a k).2.length:=by rw[← heq];simp
 by_cases hk:k<16
 ·obtain⟨hf,hne⟩:=ztk ha hk
  obtain⟨f1,f2,f3,f4⟩:=ztQ hf
  have hpos:0<xs.length-off:=by rw[hln];exact List.length_pos_iff.2 hne
  have hoff:off<xs.length:=by omega
  obtain⟨q0,qr,hqe⟩:∃ q0 qr,(bfs a k).2=q0::qr:=by
   cases hb2:(bfs a k).2 with
   | nil=>exact absurd hb2 hne
   | cons x y=>exact⟨x,y,rfl⟩
  have hx0:xs[off]?=some q0:=by
   have:(xs.drop off)[0]?=some q0:=by rw[heq,hqe];rfl
   rwa [List.getElem?_drop,Nat.add_zero] at this
  have hdr:xs.drop (off+1)=qr:=by
   rw[← List.drop_drop,heq,hqe];rfl
  have hq0:q0<16:=f3 q0 (by rw[hqe];simp)
  have hgq:(xs.map fun n:Nat=>eI n)[off]?=some (eI q0):=by rw[List.getElem?_map,hx0];rfl
  have hpi:(0:Int)<((xs.length-off:Nat):Int):=by omega
  have hl1:1≤xs.length-off:=by omega
  have hbn:bfs a (k+1)=z7l q0 2 ((bfs a k).1,qr):=by show popS _=_;unfold popS;rw[hqe]
  have e3:xs.length-off-1=xs.length-(off+1):=by omega
  have hcond:off+(xs.length-off)≤xs.length:=by omega
  have hNL:∀ (e:List (Nat × AV)),z0L (some [1,5,6,7,25]) e=z0L (some [1,5,6,7,25]) e:=fun _=>rfl
  rcases oq with _ | oq
  all_goals
  simp only[List.append_nil,List.cons_append,List.nil_append,go_sem,List.getElem?_cons_succ,hqg,hpi,hpos,hgq,hl1,hcond]
  all_goals
  clear u0 em em0 e0
  generalize hw0:((bfs a k).1,qr)=s0 at *
  have es1:(bfs a k).1=s0.1:=by rw[← hw0]
  have es2:qr=s0.2:=by rw[← hw0]
  rw[es1,e3]
  refine z0T (fun t:Nat × Heap × Nat × List Nat × Nat=>⟨[(1,AI b),(5,.mp h.length),(6,.own (h.length+(t.2.2.1+1)) t.2.2.2.1.length t.2.2.2.2 (t.2.2.2.1.length-t.2.2.2.2)),(7,AI q0),(25,AI t.1)],h++mobj keyP valP (z7l q0 t.1 s0).1::t.2.1,[]⟩)
   (fun t=>t.1≤2∧Que t.2.1 t.2.2.1 t.2.2.2.1 t.2.2.2.2 (z7l q0 t.1 s0).2∧t.2.2.2.1.length≤1+2*k+t.1) (fun t=>2-t.1) (0,R,i,xs,off+1) rfl ⟨by simp,⟨hqg,hoff,by rw[hdr,es2];rfl⟩,by simp;omega⟩ ?_
  rintro⟨j,R',i',ys,of'⟩ ⟨j1,jq,j2⟩
  dsimp only at j1 jq j2 ⊢
  have jg:=jq.get
  have jle:=jq.le
  have jeq:=jq.eq
  by_cases hj:j<2
  ·have hji:(j:Int)<2:=by omega
   have qn:=fun h K=>zqs (h:=h) (K:=K) hY2 q0 j hq0 hj
   have hvis:z7l q0 (j+1) s0=zgf q0 j (z7l q0 j s0):=rfl
   generalize hsj:z7l q0 j s0=s at *
   have lq:=fun (hp:Heap) (hh:hp[h.length]?=some (mobj keyP valP s.1))=>lookQ (b:=(nxt q0 j:Int)) hh
   have lp:=fun (hp:Heap) (hh:hp[h.length]?=some (mobj keyP valP s.1))=>lookP (b:=(q0:Int)) hh
   have up:=fun (hp:Heap) (v:List UInt8) (hh:hp[h.length]?=some (mobj keyP valP s.1))=>updP (b:=(nxt q0 j:Int)) (v:=v) hh
   have w1:IntKind.i64.wrap ((j:Int)+1)=((j+1:Nat):Int):=z0j _ (by omega) (by omega)
   cases hs:(getM (nxt q0 j:Int) s.1).isSome with
   | true=>
    have hv:zgf q0 j s=s:=by unfold zgf;rw[if_pos hs]
    rw[hv] at hvis
    simp only[go_sem,hji,↓qn,qn,lq,hs,w1]
    exact⟨(j+1,R',i',ys,of'),by dsimp only;rw[hvis],⟨by dsimp only;omega,by dsimp only;rw[hvis];exact jq,by dsimp only;omega⟩,by dsimp only;omega⟩
   | false=>
    have hv:zgf q0 j s=(updM (nxt q0 j:Int) ((getM (q0:Int) s.1).getD []++bit1 j) s.1,s.2++[nxt q0 j]):=by unfold zgf;rw[hs];rfl
    rw[hv] at hvis
    have w2:IntKind.i64.wrap (48+(j:Int))=((48+j:Nat):Int):=z0j _ (by omega) (by omega)
    have w3:IntKind.i32.wrap ((48+j:Nat):Int)=((48+j:Nat):Int):=by
     have:j=0∨j=1:=by omega
     rcases this with rfl | rfl <;> rfl
    have w4:(0:Int)≤((48+j:Nat):Int)∧((48+j:Nat):Int)<128:=by omega
    have hln2:=zjf (zbW (n:=16) (at_:=q0) (s:=s0) (by rw[← es1];exact f4) j) (q0:Int)
    rw[hsj] at hln2
    have w5:((getM (q0:Int) s.1).getD []).length+(bit1 j).length≤z0o:=by have:(bit1 j).length=1:=rfl;unfold z0o;omega
    have w6:[UInt8.ofNat ((48+j:Nat):Int).toNat]=bit1 j:=rfl
    simp only[go_sem,hji,↓qn,qn,lq,hs,lp,up,w1,w2,w3,w4,w5,w6]
    have hh1:(h++mobj keyP valP (updM (nxt q0 j:Int) ((getM (q0:Int) s.1).getD []++bit1 j) s.1)::R')[h.length+(i'+1)]?=some (.row none (ys.map fun n:Nat=>eI n) 0):=by
     rw[List.getElem?_append_right (by omega)];simpa using jg
    have hi':i'<R'.length:=z0h jg
    refine nq_one hh1 jle (by omega) ?_ ?_
    ·refine⟨(j+1,R'.set i' (.row none (ys.map (fun n:Nat=>eI n)++[eI (nxt q0 j)]) 0),i',ys++[nxt q0 j],of'),?_,⟨by dsimp only;omega,⟨?_,?_,?_⟩,?_⟩,by dsimp only;omega⟩
     ·dsimp only
      rw[hvis,List.set_append_right _ _ (by omega)]
      simp only[List.length_append,List.length_cons,List.length_nil,Nat.add_sub_cancel_left,List.set_cons_succ]
      rw[show ys.length+1-of'=ys.length-of'+1 by omega]
     ·dsimp only
      rw[List.getElem?_set_self hi'];simp
     ·simp;omega
     ·dsimp only
      rw[hvis,List.drop_append_of_le_length jle,jeq]
     ·simp;omega
    ·refine⟨(j+1,R'++[.row none ((ys.drop of').map (fun n:Nat=>eI n)++[eI (nxt q0 j)]) 0],R'.length,ys.drop of'++[nxt q0 j],0),?_,⟨by dsimp only;omega,⟨?_,?_,?_⟩,?_⟩,by dsimp only;omega⟩
     ·dsimp only
      rw[hvis]
      simp
     ·simp
     ·simp
     ·dsimp only
      rw[hvis,jeq,List.drop_zero]
     ·simp;omega
  ·have hj2:j=2:=by omega
   subst hj2
   simp only[go_sem]
   refine⟨(k+1,R',i',ys,of',some q0),?_,⟨by dsimp only;omega,by dsimp only;rw[hbn];exact jq,by dsimp only;omega⟩,by dsimp only;omega⟩
   dsimp only
   rw[hbn]
 ·have hk16:k=16:=by omega
  subst hk16
  obtain⟨_,hne⟩:=zxl ha
  have hz:xs.length-off=0:=by rw[hln,hne];rfl
  have lk:=fun (hp:Heap) (hh:hp[h.length]?=some (mobj keyP valP (bfs a 16).1))=>lookP (b:=(b:Int)) hh
  have hpv:(getM (b:Int) (bfs a 16).1).getD []=z0f a b:=rfl
  rcases oq with _ | oq <;> simp only[List.append_nil,List.cons_append,List.nil_append,go_sem,hz,lk,hpv]
end Go.Am
end
section
/- One command: both sides keep agreeing;a whole program. -/
namespace Go.Am
variable (path:Nat→Nat→List UInt8)
theorem z5u {r:Run} {c:Cmd} (h:1≤c.k∧c.k≤6):r.step path c={ r with se:=r.se.put c,sts:=r.sts++[r.st],frs:=r.frs++[0] }:=by
 unfold Run.step;simp only[if_pos h]
theorem z4Y {r:Run} {c:Cmd} (h:c.k=7∨c.k=8):r.step path c={ r.scn path c with sts:=(r.scn path c).sts++[(r.scn path c).st],frs:=(r.scn path c).frs++[r.scnF path c] }:=by
 unfold Run.step;rw[if_neg (by omega),if_pos h]
theorem z4X {r:Run} {c:Cmd} (h:c.k=9):r.step path c={ (r.go path 1).clk (List.replicate c.cl.toNat (48,48,120)) with sts:=((r.go path 1).clk (List.replicate c.cl.toNat (48,48,120))).sts++[((r.go path 1).clk (List.replicate c.cl.toNat (48,48,120))).st],frs:=((r.go path 1).clk (List.replicate c.cl.toNat (48,48,120))).frs++[0] }:=by
 unfold Run.step;rw[if_neg (by omega),if_neg (by omega),if_pos h]
theorem zcV {r:Run} {c:Cmd} (h:c.k=10):r.step path c={ r.go path c.s.toNat with sts:=(r.go path c.s.toNat).sts++[(r.go path c.s.toNat).st],frs:=(r.go path c.s.toNat).frs++[0] }:=by
 unfold Run.step;rw[if_neg (by omega),if_neg (by omega),if_neg (by omega)]
theorem z2A {pre:List Cmd} {c:Cmd} {state:Nat} (h:c.k≤6):z0R path pre c state=⟨[],[],[],0,state⟩:=by
 unfold z0R
 rw[if_neg (by omega),if_neg (by omega),if_neg (by omega),if_neg (by omega)];rfl
theorem z9W {pre:List Cmd} {c:Cmd} {state:Nat} (h:c.k=10):z0R path pre c state=⟨path state c.s.toNat,zs (path state c.s.toNat).length,xsL (path state c.s.toNat).length,0,c.s.toNat⟩:=by
 unfold z0R
 rw[if_pos h,zi1]
theorem z4O {pre:List Cmd} {c:Cmd} {state:Nat} (h:c.k=9):z0R path pre c state=⟨path state 1++zs c.cl.toNat,zs (path state 1).length++zs c.cl.toNat,xsL (path state 1).length++xsL c.cl.toNat,0,1⟩:=by
 unfold z0R
 rw[if_neg (by omega),if_pos h,zgH]
def Adds (r r':Run) (p:Part):Prop:=
 r'.ck=r.ck+p.tms.length∧(r'.wr=r.wr)∧(r.wr=true→r'.tms=r.tms++p.tms∧r'.tdi=r.tdi++p.tdi∧r'.want=r.want++p.want)∧r'.sts=r.sts++[p.st]∧r'.st=p.st
theorem zcH {pre pre':List Cmd} {r r':Run} {ps:List Part} {state:Nat} {p:Part} (H:RelV pre r ps state) (A:Adds r r' p) (hb:p.st∈stb)
 (e1:r'.se.e1.s=(setC pre' 1).s) (e2:r'.se.e2.s=(setC pre' 2).s) (h1:r'.se.h1.b=(setC pre' 3).b) (t1:r'.se.t1.b=(setC pre' 4).b) (h2:r'.se.h2.b=(setC pre' 5).b) (t2:r'.se.t2.b=(setC pre' 6).b)
 (s1:z07 (setC pre' 1).s=true) (s2:z07 (setC pre' 2).s=true) (b1:∀ k,3≤k→k≤6→z0V (setC pre' k).b=true∧(setC pre' k).b.length≤2000) :
 RelV pre' r' (ps++[p]) p.st:=by
 obtain⟨a1,a2,a3,a4,a5⟩:=A
 obtain⟨q1,q2,q3⟩:=z8y ps p
 exact⟨a5,hb,e1,e2,h1,t1,h2,t2,s1,s2,b1,by rw[a1,q1,List.length_append,H.ck],by rw[a4,H.sts,List.map_append];rfl,fun hw=>by
  rw[a2] at hw
  obtain⟨x,y,z⟩:=a3 hw
  obtain⟨u,v,w⟩:=H.sig hw
  exact⟨by rw[x,q1,u],by rw[y,q2,v],by rw[z,q3,w]⟩⟩
theorem z8v {pre:List Cmd} {r r':Run} {ps:List Part} {state:Nat} {p:Part} {c:Cmd} (H:RelV pre r ps state) (A:Adds r r' p) (hb:p.st∈stb) (hs:r'.se=r.se) (hk:¬ (1≤c.k∧c.k≤6)) :
 RelV (pre++[c]) r' (ps++[p]) p.st:=by
 have hn:∀ k:Int,1≤k→k≤6→setC (pre++[c]) k=setC pre k:=fun k h1 h2=>by rw[z0A,if_neg (by omega)]
 refine zcH H A hb ?_ ?_ ?_ ?_ ?_ ?_ ?_ ?_ ?_
 ·rw[hs,hn 1 (by omega) (by omega),H.e1]
 ·rw[hs,hn 2 (by omega) (by omega),H.e2]
 ·rw[hs,hn 3 (by omega) (by omega),H.h1]
 ·rw[hs,hn 4 (by omega) (by omega),H.t1]
 ·rw[hs,hn 5 (by omega) (by omega),H.h2]
 ·rw[hs,hn 6 (by omega) (by omega),H.t2]
 ·rw[hn 1 (by omega) (by omega)];exact H.s1
 ·rw[hn 2 (by omega) (by omega)];exact H.s2
 ·intro k h1 h2;rw[hn k (by omega) (by omega)];exact H.b1 k h1 h2
theorem ziS {r:Run} {c:Cmd} (hb:c.b≠[]) (hm:c.m.length≤c.b.length) (hd tl:List UInt8) (sh ex en n1 n2:Nat) (f:Nat) (p:Part) (hp:p=padP (z1n path c r.st sh ex hd tl en)) (r2:Run)
 (h2:r2={ r.go path sh with ni:=n1,nd:=n2 }) (r3:Run) (h3:r3=Run.go path { r2.clk (z0S c hd (hd++c.b++tl)) with st:=ex } en) :
 Adds r { r3 with sts:=r3.sts++[r3.st],frs:=r3.frs++[f] } p∧r3.se=r.se:=by
 obtain⟨g1,g2,g3,g4,g5,g6,_,_⟩:=z08 path r sh
 have ne:hd++c.b++tl≠[]:=by simp [hb]
 obtain⟨k1,k2,k3,k4,k5,k6,_,_⟩:=z2c r2 (z0S c hd (hd++c.b++tl))
 obtain⟨m1,m2,m3,m4,m5,m6,_,_⟩:=z08 path { r2.clk (z0S c hd (hd++c.b++tl)) with st:=ex } en
 rw[← h3] at m1 m2 m3 m4 m5 m6
 have pr:=z6W path c r.st sh ex hd tl en hb
 rw[← hp] at pr
 subst pr
 have hz:∀ n,(zs n).length=n:=fun n=>by simp [zs]
 have a1:r2.se=r.se:=by rw[h2];exact g1
 have a3:r2.sts=r.sts:=by rw[h2];exact g3
 have a5:r2.wr=r.wr:=by rw[h2];exact g5
 have a6:r2.ck=r.ck+(path r.st sh).length:=by rw[h2];exact g6
 have hpos:0<(hd++c.b++tl).length:=List.length_pos_iff.2 ne
 refine⟨⟨?_,?_,?_,?_,m2⟩,?_⟩
 ·show r3.ck=_
  rw[m6]
  show (r2.clk _).ck+_=_
  rw[k6,a6,z2f]
  simp only[List.length_append,hz,List.length_singleton]
  simp only[List.length_append] at hpos
  omega
 ·show r3.wr=_
  rw[m5]
  show (r2.clk _).wr=_
  rw[k5,a5]
 ·intro hw
  have hw2:r2.wr=true:=by rw[a5];exact hw
  obtain⟨u1,u2,u3⟩:=zii path hw sh
  obtain⟨v1,v2,v3⟩:=zg2 hw2 (z0S c hd (hd++c.b++tl))
  have hw3:({ r2.clk (z0S c hd (hd++c.b++tl)) with st:=ex }:Run).wr=true:=by show (r2.clk _).wr=_;rw[k5];exact hw2
  obtain⟨w1,w2,w3⟩:=zii path hw3 en
  rw[← h3] at w1 w2 w3
  have b1:r2.tms=r.tms++path r.st sh:=by rw[h2];exact u1
  have b2:r2.tdi=r.tdi++zs (path r.st sh).length:=by rw[h2];exact u2
  have b3:r2.want=r.want++xsL (path r.st sh).length:=by rw[h2];exact u3
  refine⟨?_,?_,?_⟩
  ·show r3.tms=_
   rw[w1];show (r2.clk _).tms++path ex en=_
   rw[v1,b1,zyX c hd _ ne];simp only[List.append_assoc]
  ·show r3.tdi=_
   rw[w2];show (r2.clk _).tdi++zs (path ex en).length=_
   rw[v2,b2,zyY];simp only[List.append_assoc]
  ·show r3.want=_
   rw[w3];show (r2.clk _).want++xsL (path ex en).length=_
   rw[v3,b3,zyZ c hd tl hm];simp only[List.append_assoc]
 ·show r3.sts++[r3.st]=_
  rw[m3,m2];show (r2.clk _).sts++_=_
  rw[k3,a3]
 ·rw[m1];show (r2.clk _).se=_
  rw[k1,a1]
theorem ziW {pre:List Cmd} {r:Run} {ps:List Part} {state:Nat} (H:RelV pre r ps state) {c:Cmd} (hc:cmdF c=0) :
 RelV (pre++[c]) (r.step path c) (ps++[z0R path pre c state]) (z0R path pre c state).st:=by
 have hst:=H.st
 subst hst
 have setf:∀ (h:1≤c.k∧c.k≤6),Adds r (r.step path c) (z0R path pre c r.st)∧(z0R path pre c r.st).st∈stb:=fun h=>by
  rw[z5u path h,z2A path h.2]
  exact⟨⟨rfl,rfl,fun _=>⟨(List.append_nil _).symm,(List.append_nil _).symm,(List.append_nil _).symm⟩,rfl,rfl⟩,H.sb⟩
 have hput:∀ (h:1≤c.k∧c.k≤6),(r.step path c).se=r.se.put c:=fun h=>by rw[z5u path h]
 cases z1e hc with
 | set h hs e=>
  have hr:1≤c.k∧c.k≤6:=by omega
  obtain⟨A,B⟩:=setf hr
  have hp:=hput hr
  refine zcH H A B ?_ ?_ ?_ ?_ ?_ ?_ ?_ ?_ ?_
  all_goals try rw[hp]
  ·rw[z0A];unfold Sett.put
   rcases h with h | h
   ·rw[if_pos h,if_pos h]
   ·rw[if_neg (by omega),if_pos h,if_neg (by omega)];exact H.e1
  ·rw[z0A];unfold Sett.put
   rcases h with h | h
   ·rw[if_pos h,if_neg (by omega)];exact H.e2
   ·rw[if_neg (by omega),if_pos h,if_pos h]
  ·rw[z0A,if_neg (by omega)];unfold Sett.put
   rcases h with h | h
   ·rw[if_pos h];exact H.h1
   ·rw[if_neg (by omega),if_pos h];exact H.h1
  ·rw[z0A,if_neg (by omega)];unfold Sett.put
   rcases h with h | h
   ·rw[if_pos h];exact H.t1
   ·rw[if_neg (by omega),if_pos h];exact H.t1
  ·rw[z0A,if_neg (by omega)];unfold Sett.put
   rcases h with h | h
   ·rw[if_pos h];exact H.h2
   ·rw[if_neg (by omega),if_pos h];exact H.h2
  ·rw[z0A,if_neg (by omega)];unfold Sett.put
   rcases h with h | h
   ·rw[if_pos h];exact H.t2
   ·rw[if_neg (by omega),if_pos h];exact H.t2
  ·rw[z0A];split
   ·exact hs
   ·exact H.s1
  ·rw[z0A];split
   ·exact hs
   ·exact H.s2
  ·intro k h1 h2;rw[z0A,if_neg (by omega)];exact H.b1 k h1 h2
 | pad h0 h1 hb hl e=>
  have hr:1≤c.k∧c.k≤6:=by omega
  obtain⟨A,B⟩:=setf hr
  have hp:=hput hr
  have hk:c.k=3∨c.k=4∨c.k=5∨c.k=6:=by omega
  refine zcH H A B ?_ ?_ ?_ ?_ ?_ ?_ ?_ ?_ ?_
  all_goals try rw[hp]
  ·rw[z0A,if_neg (by omega)];unfold Sett.put
   rcases hk with h | h | h | h <;> simp [h,H.e1]
  ·rw[z0A,if_neg (by omega)];unfold Sett.put
   rcases hk with h | h | h | h <;> simp [h,H.e2]
  ·rw[z0A];unfold Sett.put
   rcases hk with h | h | h | h <;> simp [h,H.h1]
  ·rw[z0A];unfold Sett.put
   rcases hk with h | h | h | h <;> simp [h,H.t1]
  ·rw[z0A];unfold Sett.put
   rcases hk with h | h | h | h <;> simp [h,H.h2]
  ·rw[z0A];unfold Sett.put
   rcases hk with h | h | h | h <;> simp [h,H.t2]
  ·rw[z0A,if_neg (by omega)];exact H.s1
  ·rw[z0A,if_neg (by omega)];exact H.s2
  ·intro k h1 h2;rw[z0A];split
   ·exact⟨hb,hl⟩
   ·exact H.b1 k h1 h2
 | go h hs e=>
  obtain⟨g1,g2,g3,g4,g5,g6,_,_⟩:=z08 path r c.s.toNat
  rw[zcV path h,z9W path h]
  refine z8v H ⟨g6,g5,fun hw=>zii path hw _,?_,g2⟩ (z03 hs).1 g1 (by omega)
  show (r.go path c.s.toNat).sts++_=_
  rw[g3,g2]
 | idle h h0 h1 e=>
  obtain⟨g1,g2,g3,g4,g5,g6,_,_⟩:=z08 path r 1
  obtain⟨k1,k2,k3,k4,k5,k6,_,_⟩:=z2c (r.go path 1) (List.replicate c.cl.toNat (48,48,120))
  rw[z4X path h,z4O path h]
  refine z8v H ⟨?_,?_,?_,?_,?_⟩ (by show 1∈stb;decide) ?_ (by omega)
  ·show Run.ck (Run.clk _ _)=_
   rw[k6,g6];simp [zs];omega
  ·show Run.wr (Run.clk _ _)=_
   rw[k5,g5]
  ·intro hw
   obtain⟨u1,u2,u3⟩:=zii path hw 1
   obtain⟨v1,v2,v3⟩:=zg2 (r:=r.go path 1) (by rw[g5];exact hw) (List.replicate c.cl.toNat (48,48,120))
   refine⟨?_,?_,?_⟩
   ·show Run.tms (Run.clk _ _)=_
    rw[v1,u1];simp [zs]
   ·show Run.tdi (Run.clk _ _)=_
    rw[v2,u2];simp [zs]
   ·show Run.want (Run.clk _ _)=_
    rw[v3,u3];simp [xsL]
  ·show Run.sts (Run.clk _ _)++_=_
   rw[k3,k2,g3,g2]
  ·show Run.st (Run.clk _ _)=_
   rw[k2,g2]
  ·show Run.se (Run.clk _ _)=_
   rw[k1,g1]
 | scan h hs e=>
  obtain⟨q1,q2,q3,q4,q5,q6⟩:=z1Q hs
  have hm:c.m.length≤c.b.length:=by rcases q6 with ⟨_,h⟩ | ⟨_,h⟩ <;> simp [h]
  rw[z4Y path h]
  rcases h with h | h
  ·have hp:z0R path pre c r.st=padP (z1n path c r.st 11 12 r.se.h1.b r.se.t1.b r.se.e1.s.toNat):=by
    unfold z0R
    rw[if_neg (by omega),if_neg (by omega),if_pos h,H.h1,H.t1,H.e1]
   have hen:r.se.e1.s.toNat∈stb:=by rw[H.e1];exact (z03 H.s1).1
   obtain⟨A,B⟩:=ziS path q1 hm r.se.h1.b r.se.t1.b 11 12 r.se.e1.s.toNat ((r.go path 11).ni+(r.se.h1.b++c.b++r.se.t1.b).length) (r.go path 11).nd (r.scnF path c) _ hp _ rfl (r.scn path c) (by unfold Run.scn;simp only[if_pos h])
   refine z8v H A (by rw[hp];exact hen) B (by omega)
  ·have hp:z0R path pre c r.st=padP (z1n path c r.st 4 5 r.se.h2.b r.se.t2.b r.se.e2.s.toNat):=by
    unfold z0R
    rw[if_neg (by omega),if_neg (by omega),if_neg (by omega),if_pos h,H.h2,H.t2,H.e2]
   have hen:r.se.e2.s.toNat∈stb:=by rw[H.e2];exact (z03 H.s2).1
   obtain⟨A,B⟩:=ziS path q1 hm r.se.h2.b r.se.t2.b 4 5 r.se.e2.s.toNat (r.go path 4).ni ((r.go path 4).nd+(r.se.h2.b++c.b++r.se.t2.b).length) (r.scnF path c) _ hp _ rfl (r.scn path c) (by
    unfold Run.scn
    simp only[if_neg (show ¬ c.k=7 by omega)])
   refine z8v H A (by rw[hp];exact hen) B (by omega)
end Go.Am
end
section
/- A whole program;the bits that are shifted. -/
namespace Go.Am
variable (path:Nat→Nat→List UInt8)
theorem zbU (ps qs:List Part):sigT (ps++qs)=sigT ps++sigT qs:=by simp [sigT]
theorem zcB:∀ (l:List Cmd) {pre:List Cmd} {r:Run} {ps:List Part} {state:Nat},RelV pre r ps state→z5H l=0 →
 ((sigT (ps++z0u path pre state l)).length≤20000→∃ st',RelV (pre++l) (r.play path l) (ps++z0u path pre state l) st') ∧
 (20000<(sigT (ps++z0u path pre state l)).length→20000<(r.play path l).ck)
 | [],pre,r,ps,state,H,_=>by
  simp only[z0u,List.append_nil,Run.play]
  exact⟨fun _=>⟨state,H⟩,fun h=>by rw[H.ck];exact h⟩
 | c::l,pre,r,ps,state,H,hc=>by
  unfold z5H at hc
  split at hc
  ·rename_i h1;exact absurd hc h1
  rename_i h1
  have h0:cmdF c=0:=by omega
  have S:=ziW path H h0
  obtain⟨A,B⟩:=zcB l S hc
  have e1:ps++[z0R path pre c state]++z0u path (pre++[c]) (z0R path pre c state).st l=ps++z0u path pre state (c::l):=by
   rw[List.append_assoc];rfl
  have e2:pre++[c]++l=pre++c::l:=by rw[List.append_assoc];rfl
  rw[e1] at A B
  rw[e2] at A
  unfold Run.play
  have hlen:(sigT ps).length≤(sigT (ps++z0u path pre state (c::l))).length:=by rw[zbU,List.length_append];omega
  constructor
  ·intro h
   rw[if_neg (by rw[H.ck];omega)]
   exact A h
  ·intro h
   split
   ·assumption
   ·exact B h
def visL (s:Nat):List UInt8→List Nat
 | []=>[]
 | c::r=>s::visL (stW s c) r
theorem z14:∀ (l:List UInt8) (s:Nat) (r:List UInt8),visL s (l++r)=visL s l++visL (endL s l) r
 | [],s,r=>rfl
 | d::l,s,r=>by simp only[List.cons_append,visL,z14 l];rfl
theorem zcZ {s:Nat} (h:stW s 48=s):∀ n,visL s (zs n)=List.replicate n s∧endL s (zs n)=s
 | 0=>⟨rfl,rfl⟩
 | n+1=>by
  obtain⟨a,b⟩:=zcZ h n
  have e:zs (n+1)=48::zs n:=rfl
  rw[e]
  constructor
  ·simp only[visL,h,a];rfl
  ·show endL (stW s 48) (zs n)=s
   rw[h,b]
structure PathOk:Prop where
 bits:∀ a∈frS,∀ b∈toS,z0V (path a b)=true
 len:∀ a∈frS,∀ b∈toS,(path a b).length≤8
 ends:∀ a∈frS,∀ b∈toS,endL a (path a b)=b
 no11:∀ a∈frS,∀ b∈toS,(visL a (path a b)).count 11=0
 no4:∀ a∈frS,∀ b∈toS,(visL a (path a b)).count 4=0
theorem z1t {a:Nat} (h:a∈stb):a∈frS:=by
 simp only[stb,List.mem_cons,List.not_mem_nil,or_false] at h
 rcases h with rfl | rfl | rfl | rfl <;> decide
theorem z2h {a:Nat} (h:a∈stb):a∈toS:=by
 simp only[stb,List.mem_cons,List.not_mem_nil,or_false] at h
 rcases h with rfl | rfl | rfl | rfl <;> decide
structure RelN (r:Run) (ps:List Part) (state:Nat):Prop where
 en:endL 0 (sigT ps)=state
 ni:r.ni=(visL 0 (sigT ps)).count 11
 nd:r.nd=(visL 0 (sigT ps)).count 4
variable {path}
theorem z4P {r r':Run} {ps:List Part} {state:Nat} {p:Part} (N:RelN r ps state) (he:endL state p.tms=p.st) (h1:r'.ni=r.ni+(visL state p.tms).count 11) (h2:r'.nd=r.nd+(visL state p.tms).count 4):RelN r' (ps++[p]) p.st:=by
 obtain⟨q,_,_⟩:=z8y ps p
 refine⟨?_,?_,?_⟩
 ·rw[q,z2y,N.en,he]
 ·rw[q,z14,N.en,List.count_append,h1,N.ni]
 ·rw[q,z14,N.en,List.count_append,h2,N.nd]
theorem ziR (P:PathOk path) {state sh ex en:Nat} (hs:state∈stb) (hx:(sh=11∧ex=12)∨(sh=4∧ex=5)) (hen:en∈stb) (n:Nat) (hn:0<n) :
 endL state (path state sh++(zs (n-1)++[49])++path ex en)=en∧(visL state (path state sh++(zs (n-1)++[49])++path ex en)).count sh=n ∧
 ∀ o,(o=11∨o=4)→o≠sh→(visL state (path state sh++(zs (n-1)++[49])++path ex en)).count o=0:=by
 have h1:sh∈toS:=by rcases hx with ⟨rfl,rfl⟩ | ⟨rfl,rfl⟩ <;> decide
 have h2:ex∈frS:=by rcases hx with ⟨rfl,rfl⟩ | ⟨rfl,rfl⟩ <;> decide
 have h3:stW sh 48=sh:=by rcases hx with ⟨rfl,rfl⟩ | ⟨rfl,rfl⟩ <;> rfl
 have h4:stW sh 49=ex:=by rcases hx with ⟨rfl,rfl⟩ | ⟨rfl,rfl⟩ <;> rfl
 obtain⟨v1,v2⟩:=zcZ h3 (n-1)
 have e1:=P.ends _ (z1t hs) _ h1
 have e2:=P.ends _ h2 _ (z2h hen)
 have ee:endL state (path state sh++(zs (n-1)++[49]))=ex:=by
  rw[z2y,e1,z2y,v2];exact h4
 have hv:visL state (path state sh++(zs (n-1)++[49])++path ex en)=visL state (path state sh)++(List.replicate (n-1) sh++[sh])++visL ex (path ex en):=by
  rw[z14,ee,z14,e1,z14,v1,v2];rfl
 have c0:∀ o,(o=11∨o=4)→(visL state (path state sh)).count o=0∧(visL ex (path ex en)).count o=0:=by
  rintro o (rfl | rfl)
  ·exact⟨P.no11 _ (z1t hs) _ h1,P.no11 _ h2 _ (z2h hen)⟩
  ·exact⟨P.no4 _ (z1t hs) _ h1,P.no4 _ h2 _ (z2h hen)⟩
 refine⟨?_,?_,?_⟩
 ·rw[z2y,ee,e2]
 ·obtain⟨a,b⟩:=c0 sh (by rcases hx with ⟨rfl,rfl⟩ | ⟨rfl,rfl⟩ <;> simp)
  rw[hv,List.count_append,List.count_append,List.count_append,a,b,List.count_replicate_self]
  simp;omega
 ·intro o ho hne
  obtain⟨a,b⟩:=c0 o ho
  rw[hv,List.count_append,List.count_append,List.count_append,a,b,List.count_replicate,List.count_singleton]
  have:(sh==o)=false:=by simpa using Ne.symm hne
  simp [this]
theorem zs3 (P:PathOk path) {pre:List Cmd} {r:Run} {ps:List Part} {state:Nat} (H:RelV pre r ps state) (N:RelN r ps state) {c:Cmd} (hc:cmdF c=0) :
 RelN (r.step path c) (ps++[z0R path pre c state]) (z0R path pre c state).st:=by
 have hst:=H.st
 subst hst
 have hf:=z1t H.sb
 have setf:(1≤c.k∧c.k≤6)→RelN (r.step path c) (ps++[z0R path pre c r.st]) (z0R path pre c r.st).st:=fun h=>by
  rw[z5u path h,z2A path h.2]
  exact z4P N rfl rfl rfl
 cases z1e hc with
 | set h hs e=>exact setf (by omega)
 | pad h0 h1 hb hl e=>exact setf (by omega)
 | go h hs e=>
  obtain⟨g1,g2,g3,g4,g5,g6,g7,g8⟩:=z08 path r c.s.toNat
  rw[zcV path h,z9W path h]
  have ht:=z2h (z03 hs).1
  refine z4P N (P.ends _ hf _ ht) ?_ ?_
  ·show (r.go path c.s.toNat).ni=_
   rw[g7,P.no11 _ hf _ ht,Nat.add_zero]
  ·show (r.go path c.s.toNat).nd=_
   rw[g8,P.no4 _ hf _ ht,Nat.add_zero]
 | idle h h0 h1 e=>
  obtain⟨g1,g2,g3,g4,g5,g6,g7,g8⟩:=z08 path r 1
  obtain⟨k1,k2,k3,k4,k5,k6,k7,k8⟩:=z2c (r.go path 1) (List.replicate c.cl.toNat (48,48,120))
  have ht:(1:Nat)∈toS:=by decide
  rw[z4X path h,z4O path h]
  have e1:=P.ends _ hf _ ht
  obtain⟨v1,v2⟩:=zcZ (s:=1) rfl c.cl.toNat
  refine z4P N (by show endL r.st (path r.st 1++zs c.cl.toNat)=1;rw[z2y,e1,v2]) ?_ ?_
  ·show Run.ni (Run.clk _ _)=r.ni+(visL r.st (path r.st 1++zs c.cl.toNat)).count 11
   rw[k7,g7,z14,e1,v1,List.count_append,P.no11 _ hf _ ht,List.count_replicate];rfl
  ·show Run.nd (Run.clk _ _)=r.nd+(visL r.st (path r.st 1++zs c.cl.toNat)).count 4
   rw[k8,g8,z14,e1,v1,List.count_append,P.no4 _ hf _ ht,List.count_replicate];rfl
 | scan h hs e=>
  obtain⟨q1,q2,q3,q4,q5,q6⟩:=z1Q hs
  rw[z4Y path h]
  rcases h with h | h
  ·have hp:z0R path pre c r.st=padP (z1n path c r.st 11 12 r.se.h1.b r.se.t1.b r.se.e1.s.toNat):=by
    unfold z0R
    rw[if_neg (by omega),if_neg (by omega),if_pos h,H.h1,H.t1,H.e1]
   have hen:r.se.e1.s.toNat∈stb:=by rw[H.e1];exact (z03 H.s1).1
   have hpos:0<(r.se.h1.b++c.b++r.se.t1.b).length:=by have:=List.length_pos_iff.2 q1;simp only[List.length_append];omega
   obtain⟨w1,w2,w3⟩:=ziR P H.sb (.inl ⟨rfl,rfl⟩) hen (r.se.h1.b++c.b++r.se.t1.b).length hpos
   rw[hp,z6W path c r.st 11 12 _ _ _ q1]
   obtain⟨g1,g2,g3,g4,g5,g6,g7,g8⟩:=z08 path r 11
   refine z4P N w1 ?_ ?_
   ·show (r.scn path c).ni=_
    unfold Run.scn
    simp only[if_pos h]
    rw[(z08 path _ _).2.2.2.2.2.2.1]
    show Run.ni (Run.clk _ _)=_
    rw[(z2c _ _).2.2.2.2.2.2.1,w2]
    show (r.go path 11).ni+_=_
    rw[g7]
   ·show (r.scn path c).nd=_
    unfold Run.scn
    simp only[if_pos h]
    rw[(z08 path _ _).2.2.2.2.2.2.2]
    show Run.nd (Run.clk _ _)=_
    rw[(z2c _ _).2.2.2.2.2.2.2,w3 4 (.inr rfl) (by decide)]
    show (r.go path 11).nd=_
    rw[g8,Nat.add_zero]
  ·have hp:z0R path pre c r.st=padP (z1n path c r.st 4 5 r.se.h2.b r.se.t2.b r.se.e2.s.toNat):=by
    unfold z0R
    rw[if_neg (by omega),if_neg (by omega),if_neg (by omega),if_pos h,H.h2,H.t2,H.e2]
   have hen:r.se.e2.s.toNat∈stb:=by rw[H.e2];exact (z03 H.s2).1
   have hpos:0<(r.se.h2.b++c.b++r.se.t2.b).length:=by have:=List.length_pos_iff.2 q1;simp only[List.length_append];omega
   have h7:¬ c.k=7:=by omega
   obtain⟨w1,w2,w3⟩:=ziR P H.sb (.inr ⟨rfl,rfl⟩) hen (r.se.h2.b++c.b++r.se.t2.b).length hpos
   rw[hp,z6W path c r.st 4 5 _ _ _ q1]
   obtain⟨g1,g2,g3,g4,g5,g6,g7,g8⟩:=z08 path r 4
   refine z4P N w1 ?_ ?_
   ·show (r.scn path c).ni=_
    unfold Run.scn
    simp only[if_neg h7]
    rw[(z08 path _ _).2.2.2.2.2.2.1]
    show Run.ni (Run.clk _ _)=_
    rw[(z2c _ _).2.2.2.2.2.2.1,w3 11 (.inl rfl) (by decide)]
    show (r.go path 4).ni=_
    rw[g7,Nat.add_zero]
   ·show (r.scn path c).nd=_
    unfold Run.scn
    simp only[if_neg h7]
    rw[(z08 path _ _).2.2.2.2.2.2.2]
    show Run.nd (Run.clk _ _)=_
    rw[(z2c _ _).2.2.2.2.2.2.2,w2]
    show (r.go path 4).nd+_=_
    rw[g8]
theorem reln0 (wr:Bool):RelN (run0 wr) [] 0:=⟨rfl,rfl,rfl⟩
theorem zf8 (P:PathOk path):∀ (l:List Cmd) {pre:List Cmd} {r:Run} {ps:List Part} {state:Nat},RelV pre r ps state→RelN r ps state→z5H l=0 →
 (sigT (ps++z0u path pre state l)).length≤20000→∃ st',RelN (r.play path l) (ps++z0u path pre state l) st'
 | [],pre,r,ps,state,H,N,_,_=>by
  simp only[z0u,List.append_nil,Run.play]
  exact⟨state,N⟩
 | c::l,pre,r,ps,state,H,N,hc,h=>by
  unfold z5H at hc
  split at hc
  ·rename_i h1;exact absurd hc h1
  rename_i h1
  have h0:cmdF c=0:=by omega
  have S:=ziW path H h0
  have S2:=zs3 P H N h0
  have e1:ps++[z0R path pre c state]++z0u path (pre++[c]) (z0R path pre c state).st l=ps++z0u path pre state (c::l):=by
   rw[List.append_assoc];rfl
  have A:=zf8 P l S S2 hc (by rw[e1];exact h)
  rw[e1] at A
  have hlen:(sigT ps).length≤(sigT (ps++z0u path pre state (c::l))).length:=by rw[zbU,List.length_append];omega
  unfold Run.play
  rw[if_neg (by rw[H.ck];omega)]
  exact A
theorem zi4 (P:PathOk path) {l:List Cmd} (hc:z5H l=0) (wr:Bool) (h:(sigT (z0u path [] 0 l)).length≤20000) :
 ((run0 wr).play path l).ck=(sigT (z0u path [] 0 l)).length∧((run0 wr).play path l).sts=(z0u path [] 0 l).map Part.st ∧
 ((run0 wr).play path l).ni=(visL 0 (sigT (z0u path [] 0 l))).count 11∧((run0 wr).play path l).nd=(visL 0 (sigT (z0u path [] 0 l))).count 4 ∧
 (wr=true→((run0 wr).play path l).tms=sigT (z0u path [] 0 l)∧((run0 wr).play path l).tdi=sigI (z0u path [] 0 l)∧((run0 wr).play path l).want=sigW (z0u path [] 0 l)):=by
 obtain⟨A,_⟩:=zcB path l (rel0 wr) hc
 simp only[List.nil_append] at A
 obtain⟨st',R⟩:=A h
 obtain⟨_,N⟩:=zf8 P l (rel0 wr) (reln0 wr) hc (by simpa using h)
 simp only[List.nil_append] at N
 have hw:((run0 wr).play path l).wr=wr:=by
  have:∀ (l:List Cmd) (r:Run),(r.play path l).wr=r.wr:=by
   intro l
   induction l with
   | nil=>intro r;rfl
   | cons c l ih=>
    intro r
    unfold Run.play
    split
    ·rfl
    ·rw[ih]
     by_cases h1:1≤c.k∧c.k≤6
     ·rw[z5u path h1]
     by_cases h2:c.k=7∨c.k=8
     ·rw[z4Y path h2]
      show (r.scn path c).wr=_
      unfold Run.scn
      by_cases h7:c.k=7 <;> (simp only[h7,if_true,if_false];rw[(z08 path _ _).2.2.2.2.1];show Run.wr (Run.clk _ _)=_;rw[(z2c _ _).2.2.2.2.1];exact (z08 path _ _).2.2.2.2.1)
     by_cases h3:c.k=9
     ·rw[z4X path h3]
      show Run.wr (Run.clk _ _)=_
      rw[(z2c _ _).2.2.2.2.1];exact (z08 path _ _).2.2.2.2.1
     ·unfold Run.step
      rw[if_neg h1,if_neg h2,if_neg h3]
      exact (z08 path _ _).2.2.2.2.1
  exact this l _
 exact⟨R.ck,R.sts,N.ni,N.nd,fun e=>R.sig (by rw[hw];exact e)⟩
end Go.Am
end
section
/- Walks over the states,and the ways that the reference looks for. -/
open Go
set_option linter.all false
namespace Go.Am
variable {h:Heap} {K:Post}
attribute [-go_sem] z8m zc7 zc5 zc6
attribute [-go_sem] zc4
def aftL:List PV:=[eI 1,eI 0,eI 1,eI 2,eI 3,eI 9,eI 4,eI 5,eI 4,eI 5,eI 6,eI 8,eI 6,eI 7,eI 4,eI 8,eI 1,eI 2,eI 10,eI 0,eI 11,eI 12,eI 11,eI 12,eI 13,eI 15,eI 13,eI 14,eI 11,eI 15,eI 1,eI 2]
theorem zxX {s:Nat} (hs:s<16):zc4 16 (some 2) (.p (.agg aftL)) (AI s)=some (.p (.agg [eI (stp s 0),eI (stp s 1)])):=by
 have hs':s=0∨s=1∨s=2∨s=3∨s=4∨s=5∨s=6∨s=7∨s=8∨s=9∨s=10∨s=11∨s=12∨s=13∨s=14∨s=15:=by omega
 rcases hs' with rfl | rfl | rfl | rfl | rfl | rfl | rfl | rfl | rfl | rfl | rfl | rfl | rfl | rfl | rfl | rfl <;> rfl
theorem zxW {s t:Nat} (ht:t<2):zc4 2 none (.p (.agg [eI (stp s 0),eI (stp s 1)])) (AI t)=some (AI (stp s t)):=by
 have ht':t=0∨t=1:=by omega
 rcases ht' with rfl | rfl <;> rfl
theorem zyS (s t:Nat) (hs:s<16) (ht:t<2):z0c X zaU [AI s,AI t] h K=K (AI (stp s t)) h []:=by
 refine rule ?_
 rw[c_q030 rfl]
 have g:=zxX hs
 have g2:=zxW (s:=s) ht
 unfold aftL at g
 simp only[znE,go_sem,g,g2]
abbrev AIs (l:List Nat):AV:=.p (.sl none (l.map fun n:Nat=>eI n))
theorem z8x (s:Nat) (l:List UInt8) (hs:s<16) (hb:z0V l=true) (hl:l.length≤1000000):z0c X zaT [AI s,AS l] h K=K (AIs (z50 s l)) h []:=by
 refine rule ?_
 rw[c_q02z rfl]
 have hmx:l.length≤z0J:=by unfold z0J;omega
 simp only[zh6,go_sem,hmx]
 refine z0T (fun k:Nat=>⟨[(0,AI (endL s (l.take k))),(5,.own h.length k 0 k),(9,.own (h.length+1) l.length 0 l.length),(10,AI l.length),(11,AI k)],h++[.row none ((z50 s (l.take k)).map fun n:Nat=>eI n) 0,.row none (z0q l) 0],[]⟩) (fun k=>k≤l.length) (fun k=>l.length-k) 0 rfl (by omega) ?_
 intro k hk
 rcases Nat.lt_or_ge k l.length with hlt | hge
 ·have g:(z0q l)[k]?=some (.int .u8 (l[k].toNat:Int)):=by unfold z0q;rw[List.getElem?_map,List.getElem?_eq_getElem hlt];rfl
  have w2:IntKind.i64.wrap ((k:Int)+1)=((k+1:Nat):Int):=z0j _ (by omega) (by omega)
  have bt:=bit_at hlt hb
  have e1:IntKind.u8.wrap ((l[k].toNat:Int)-48)=((l[k].toNat-48:Nat):Int):=by
   rcases bt with e | e <;> rw[e] <;> rfl
  have hsm:l[k].toNat-48<2:=by rcases bt with e | e <;> rw[e] <;> decide
  have e2:IntKind.i64.wrap ((l[k].toNat-48:Nat):Int)=((l[k].toNat-48:Nat):Int):=z0j _ (by omega) (by omega)
  have he:=zpV hs (zj6 k hb)
  have hlen:((z50 s (l.take k)).map fun n:Nat=>eI n).length=k:=by simp [z1L];omega
  have hmx2:k+1≤z0J:=by unfold z0J;omega
  have hbl:(z0q l).length=l.length:=by simp [z0q]
  simp only[go_sem,hlt,g,e1,e2,zyS _ _ he hsm,w2,hlen,hmx2,hbl]
  refine⟨k+1,?_,by omega,by omega⟩
  rw[List.take_succ_eq_append_getElem hlt,z7E,zfl]
  simp [stW]
 ·have ek:k=l.length:=by omega
  subst ek
  have hlen:((z50 s l).map fun n:Nat=>eI n).length=l.length:=by simp [z1L]
  simp only[go_sem,Nat.lt_irrefl,List.take_length,hlen]
  exact congrArg (fun l=>AV.p (.sl none l)) (List.take_of_length_le (by simp [z1L]))
def z4R (h:Heap):Nat→Heap
 | 0=>h
 | k+1=>z4R h k++[.row none ((rowS (k+1)).map PV.str) 0]
theorem z73 (h:Heap):∀ k,(z4R h k).take h.length=h
 | 0=>List.take_length
 | k+1=>by
  have:h.length≤(z4R h k).length:=by have:=congrArg List.length (z73 h k);simp at this;omega
  rw[z4R,List.take_append_of_le_length this,z73 h k]
theorem zaa (h:Heap):∀ k,(z4R h k).length=h.length+k
 | 0=>rfl
 | k+1=>by rw[z4R,List.length_append,zaa h k];rfl
def flS (l:List (List UInt8)):List (List UInt8):=l.flatMap fun s=>[s++[48],s++[49]]
theorem zjP (l:List (List UInt8)):(flS l).length=2*l.length:=by
 unfold flS
 induction l with
 | nil=>rfl
 | cons a r ih=>simp [ih];omega
theorem ztR (l:List (List UInt8)) (s:List UInt8):flS (l++[s])=flS l++[s++[48],s++[49]]:=by simp [flS]
theorem zrT (k:Nat):rowS (k+1)=flS (rowS k):=rfl
def rowV (h:Heap):Nat→AV
 | 0=>.p (.sl none [.str []])
 | k+1=>.own (h.length+k) (2^(k+1)) 0 (2^(k+1))
set_option maxHeartbeats 1000000 in
theorem zuP (a b:Nat) (ha:a<16) (w:List UInt8) (hw:wayF a b 9 0=some w):z0c X z2m [AI a,AI b] h K=K (AS w) h []:=by
 obtain⟨kw,hk8,hfw,hno⟩:=zgh hw
 have hit:∀ {k i:Nat} {s:List UInt8},k≤kw→(∀ x∈(rowS k).take i,(endL a x==b)=false)→(rowS k)[i]?=some s→(endL a s==b)=true→s=w:=by
  intro k i s hk h1 h2 h3
  have:=zb1 (p:=fun s=>endL a s==b) h1 h2 h3
  rcases Nat.lt_or_ge k kw with h4 | h4
  ·rw[hno k h4] at this;cases this
  ·obtain rfl:k=kw:=by omega
   rw[hfw] at this;exact (Option.some.inj this).symm
 have miss:∀ {k i:Nat},k≤kw→(∀ x∈(rowS k).take i,(endL a x==b)=false)→(rowS k).length≤i→k+1≤kw:=by
  intro k i hk h1 h2
  rcases Nat.lt_or_ge k kw with h4 | h4
  ·omega
  ·obtain rfl:k=kw:=by omega
   rw[List.take_of_length_le h2] at h1
   rw[zfv (p:=fun s=>endL a s==b) h1] at hfw;cases hfw
 refine rule ?_
 rw[c_q02y rfl]
 simp only[zh5,go_sem]
 refine z0T (fun k:Nat=>⟨[(0,AI a),(1,AI b),(5,rowV h k)],z4R h k,[]⟩) (fun k=>k≤kw) (fun k=>kw-k) 0 rfl (by omega) ?_
 intro k hk
 have hp2:(2:Nat)^k≤2^8:=Nat.pow_le_pow_right (by omega) (by omega)
 have hp3:(2:Nat)^8=256:=rfl
 cases k with
 | zero=>
  dsimp only[rowV,z4R]
  simp only[go_sem]
  refine z0T (fun i:Nat=>⟨[(0,AI a),(1,AI b),(6,.own (h.length+0) (2*i) 0 (2*i)),(12,.p (.sl none [.str []])),(13,AI (2^0:Nat)),(14,AI i)],h++[.row none ((flS ((rowS 0).take i)).map PV.str) 0],[]⟩) (fun i=>i≤2^0∧∀ x∈(rowS 0).take i,(endL a x==b)=false) (fun i=>2^0-i) 0 rfl ⟨Nat.zero_le _,by simp⟩ ?_
  rintro i ⟨hi,hn⟩
  rcases Nat.lt_or_ge i (2^0) with hlt | hge
  ·have hlt':i<(rowS 0).length:=by rw[z1J];exact hlt
   have hg:=z1B PV.str hlt'
   obtain⟨hbs,hls⟩:=z8w (List.getElem_mem hlt')
   have hgs:(rowS 0)[i]?=some (rowS 0)[i]:=List.getElem?_eq_getElem hlt'
   have cx:cutP none 0 (PV.str (rowS 0)[i])=some (PV.str (rowS 0)[i]):=rfl
   have w2:IntKind.i64.wrap ((i:Int)+1)=((i+1:Nat):Int):=z0j _ (by omega) (by omega)
   have htk:(rowS 0).take (i+1)=(rowS 0).take i++[(rowS 0)[i]]:=List.take_succ_eq_append_getElem hlt'
   generalize hse:(rowS 0)[i]=s at *
   have hcond:(endL a s==b)=decide ((endL a s:Int)=(b:Int)):=by
    rw[Bool.eq_iff_iff,beq_iff_eq,decide_eq_true_iff];omega
   obtain rfl:s=[]:=List.eq_nil_of_length_eq_zero hls
   obtain rfl:i=0:=by simpa using hlt
   have hmx:(2*0)+2≤z0J:=by unfold z0J;omega
   have hfl:((flS ((rowS 0).take 0)).map PV.str).length=2*0:=rfl
   have hgz:[PV.str []][0]?=some (PV.str []):=rfl
   rcases hb:decide ((a:Int)=(b:Int)) with _ | _
   ·have hne:¬ ((a:Int)=(b:Int)):=of_decide_eq_false hb
    have h01:(0:Int)<((2^0:Nat):Int):=by decide
    have w1:IntKind.i64.wrap 1=((1:Nat):Int):=rfl
    have hst:1≤z0o:=by decide
    have hmx2:2≤z0J:=by decide
    have hf0:(flS []).length=0:=rfl
    simp only[go_sem,hgz,cx,w1,z8x a [] ha rfl (Nat.zero_le _),z50,hne,h01,hst,hf0,hmx2]
    refine⟨1,rfl,⟨Nat.le_refl _,?_⟩,by decide⟩
    intro x hx
    obtain rfl:x=[]:=by simpa [rowS] using hx
    exact decide_eq_false (fun e=>hne (congrArg Nat.cast e))
   ·have heq:(a:Int)=(b:Int):=of_decide_eq_true hb
    have h01:(0:Int)<((2^0:Nat):Int):=by decide
    simp only[go_sem,hgz,cx,z8x a [] ha rfl (Nat.zero_le _),z50,eq_true heq,h01]
    exact congrArg AS (hit (k:=0) (i:=0) (s:=[]) hk hn rfl (by rw[hcond];exact hb))
  ·obtain rfl:i=1:=by omega
   have h11:¬ ((1:Int)<((2^0:Nat):Int)):=by decide
   have c1:((1:Nat):Int)=1:=rfl
   simp only[go_sem,c1,h11]
   exact⟨1,rfl,miss (k:=0) (i:=1) hk hn (by simp [rowS]),by have:=miss (k:=0) (i:=1) hk hn (by simp [rowS]);omega⟩
 | succ k=>
  dsimp only[rowV,z4R]
  have hlen:(z4R h k).length=h.length+k:=zaa h k
  rw[← hlen]
  simp only[go_sem]
  refine z0T (fun i:Nat=>⟨[(0,AI a),(1,AI b),(6,.own ((z4R h k).length+1) (2*i) 0 (2*i)),(12,.own (z4R h k).length (2^(k+1)) 0 (2^(k+1))),(13,AI (2^(k+1):Nat)),(14,AI i)],(z4R h k)++[.row none ((rowS (k+1)).map PV.str) 0,.row none ((flS ((rowS (k+1)).take i)).map PV.str) 0],[]⟩) (fun i=>i≤2^(k+1)∧∀ x∈(rowS (k+1)).take i,(endL a x==b)=false) (fun i=>2^(k+1)-i) 0 rfl ⟨Nat.zero_le _,by simp⟩ ?_
  rintro i ⟨hi,hn⟩
  rcases Nat.lt_or_ge i (2^(k+1)) with hlt | hge
  ·have hlt':i<(rowS (k+1)).length:=by rw[z1J];exact hlt
   have hg:=z1B PV.str hlt'
   obtain⟨hbs,hls⟩:=z8w (List.getElem_mem hlt')
   have hgs:(rowS (k+1))[i]?=some (rowS (k+1))[i]:=List.getElem?_eq_getElem hlt'
   have cx:cutP none 0 (PV.str (rowS (k+1))[i])=some (PV.str (rowS (k+1))[i]):=rfl
   have w2:IntKind.i64.wrap ((i:Int)+1)=((i+1:Nat):Int):=z0j _ (by omega) (by omega)
   have htk:(rowS (k+1)).take (i+1)=(rowS (k+1)).take i++[(rowS (k+1))[i]]:=List.take_succ_eq_append_getElem hlt'
   generalize hse:(rowS (k+1))[i]=s at *
   have hcond:(endL a s==b)=decide ((endL a s:Int)=(b:Int)):=by
    rw[Bool.eq_iff_iff,beq_iff_eq,decide_eq_true_iff];omega
   have hwl:((z50 a s).map fun n:Nat=>eI n).length=k+1:=by simp [z1L,hls]
   have hwg:((z50 a s).map fun n:Nat=>eI n)[k]?=some (eI (endL a s)):=by
    have:=zk0 a s (by omega)
    rw[hls,Nat.add_sub_cancel] at this
    rw[List.getElem?_map,this];rfl
   have hpos:(0:Int)<((k+1:Nat):Int):=by omega
   have w3:IntKind.i64.wrap (((k+1:Nat):Int)-1)=(k:Int):=by
    rw[show ((k+1:Nat):Int)-1=(k:Int) by omega];exact z0j _ (by omega) (by omega)
   have hmx:(2*i)+2≤z0J:=by unfold z0J;omega
   have hfl:((flS ((rowS (k+1)).take i)).map PV.str).length=2*i:=by simp [zjP,List.length_take,z1J];omega
   have hrl:(rowS (k+1)).length=2^(k+1):=z1J _
   have hst:s.length+1≤z0o:=by rw[hls];unfold z0o;omega
   rcases hb:decide ((endL a s:Int)=(b:Int)) with _ | _
   ·have hne:¬ ((endL a s:Int)=(b:Int)):=of_decide_eq_false hb
    simp only[go_sem,hlt,hg,cx,w2,z8x a s ha hbs (by omega),hwl,hwg,hpos,w3,hfl,hmx,hne,hrl,hst]
    refine⟨i+1,?_,⟨by omega,?_⟩,by omega⟩
    ·rw[htk,ztR,List.map_append];rfl
    ·intro x hx
     rw[htk] at hx
     rcases List.mem_append.1 hx with hx | hx
     ·exact hn x hx
     ·obtain rfl:x=s:=by simpa using hx
      rw[hcond];exact hb
   ·have heq:(endL a s:Int)=(b:Int):=of_decide_eq_true hb
    simp only[go_sem,hlt,hg,cx,w2,z8x a s ha hbs (by omega),hwl,hwg,hpos,w3,eq_true heq,hrl]
    exact⟨congrArg AS (hit hk hn hgs (by rw[hcond];exact hb)),by rw[List.take_append_of_le_length (by rw[zaa];omega),z73]⟩
  ·obtain rfl:i=2^(k+1):=by omega
   have hm:=miss hk hn (by rw[z1J];exact Nat.le_refl _)
   simp only[go_sem,Int.lt_irrefl]
   have e1:2*2^(k+1)=2^(k+1+1):=by rw[Nat.pow_succ 2 (k+1)];omega
   have e2:(rowS (k+1)).take (2^(k+1))=rowS (k+1):=List.take_of_length_le (by rw[z1J];exact Nat.le_refl _)
   have e3:z4R h k++[Obj.row none ((rowS (k+1)).map PV.str) 0,Obj.row none ((flS (rowS (k+1))).map PV.str) 0]=z4R h (k+1+1):=by
    rw[← zrT,z4R,z4R,List.append_assoc];rfl
   refine⟨k+2,?_,hm,by omega⟩
   rw[e1,e2,e3,hlen]
   rfl
theorem zv5:(frS.all fun a=>toS.all fun b=>decide (wayF a b 9 0=some (z0f a b)))=true:=by kernel_rfl
theorem zje {a b:Nat} (ha:a∈frS) (hb:b∈toS):wayF a b 9 0=some (z0f a b):=
 of_decide_eq_true (List.all_eq_true.1 (List.all_eq_true.1 zv5 a ha) b hb)
theorem fr_lt {a:Nat} (ha:a∈frS):a<16:=of_decide_eq_true (List.all_eq_true.1 (show (frS.all fun a=>decide (a<16))=true from rfl) a ha)
theorem z02 {a b:Nat} (ha:a∈frS) (hb:b∈toS):z0V (z0f a b)=true∧(z0f a b).length≤8∧endL a (z0f a b)=b:=by
 obtain⟨kw,h1,h2,_⟩:=zgh (zje ha hb)
 have hm:=z8w (List.mem_of_find?_eq_some h2)
 have he:=List.find?_some h2
 exact⟨hm.1,by omega,by simpa using he⟩
theorem zuQ {a b:Nat} (ha:a∈frS) (hb:b∈toS):z0c X z2m [AI a,AI b] h K=K (AS (z0f a b)) h []:=zuP a b (fr_lt ha) _ (zje ha hb)
theorem zfL {n:Nat} (hn:n<16):z0c X z8c [AI n] h K=K (AB true) h []:=by
 refine rule ?_
 have h1:(0:Int)≤n:=by omega
 have h2:(n:Int)≤15:=by omega
 have h3:¬ ((n:Int)<0):=by omega
 have h4:¬ ((n:Int)>15):=by omega
 rw[c_q05q rfl]
 simp only[znY,go_sem,z8n,h3,h4]
theorem s_Path {a b:Nat} (ha:a<16) (hb:b<16):z0c X zbn [AI a,AI b] h K=K (.tup [AS (z0f a b),AI 0]) h []:=by
 refine rule ?_
 rw[c_q05p rfl]
 simp only[znX,go_sem,zfL ha,zfL hb,g_path zwT zwS a b ha hb]
theorem zsF:(frS.all fun a=>toS.all fun b=>decide ((visL a (z0f a b)).count 11=0)&&decide ((visL a (z0f a b)).count 4=0))=true:=by kernel_rfl
theorem zwF:PathOk z0f where
 bits a ha b hb:=(z02 ha hb).1
 len a ha b hb:=(z02 ha hb).2.1
 ends a ha b hb:=(z02 ha hb).2.2
 no11 a ha b hb:=by
  have:=List.all_eq_true.1 (List.all_eq_true.1 zsF a ha) b hb
  simp only[Bool.and_eq_true,decide_eq_true_eq] at this
  exact this.1
 no4 a ha b hb:=by
  have:=List.all_eq_true.1 (List.all_eq_true.1 zsF a ha) b hb
  simp only[Bool.and_eq_true,decide_eq_true_eq] at this
  exact this.2
end Go.Am
end
section
/- Commands: what is wrong with them,on both sides. -/
open Go
set_option linter.all false
namespace Go.Am
variable {h:Heap} {K:Post}
abbrev cmdP (c:Cmd):PV:=.agg [.int .i64 c.k,.int .i64 c.s,.int .i64 c.cl,.str c.b,.str c.w,.str c.m]
abbrev ACm (c:Cmd):AV:=.p (cmdP c)
structure CmdOk (c:Cmd):Prop where
 b:c.b.length≤100000
 w:c.w.length≤100000
 m:c.m.length≤100000
theorem zcS (n:Int):z0c X zbz [AI n] h K=K (AB (z07 n)) h []:=by
 refine rule ?_
 rw[c_q06q rfl]
 unfold z07
 by_cases h0:n=0
 ·subst h0;simp only[z9h,go_sem]
 by_cases h1:n=1
 ·subst h1;simp only[z9h,go_sem]
 by_cases h2:n=6
 ·subst h2;simp only[z9h,go_sem]
 by_cases h3:n=13
 ·subst h3;simp only[z9h,go_sem]
 have e:(n==0||n==1||n==6||n==13)=false:=by simp [h0,h1,h2,h3]
 rw[e]
 simp only[z9h,go_sem,h0,h1,h2,h3]
theorem zfO (n:Int):z0c X zbg [AI n] h K=K (AB (z07 n)) h []:=by
 refine rule ?_
 rw[c_q03p rfl]
 have e:([0,1,6,13]:List Int).contains n=z07 n:=by
  unfold z07
  simp only[List.contains_cons,List.contains_nil,Bool.or_false,Bool.or_assoc]
 have k:∀ (h':Heap) (K':Post),z0c X z7X [.p (.sl none [eI 0,eI 1,eI 6,eI 13]),AI n] h' K'=K' (AB (([0,1,6,13]:List Int).contains n)) h' []:=fun h' K'=>zgK (h:=h') (K:=K') [0,1,6,13] n (by decide)
 simp only[znL,go_sem,k,e]
theorem z2a (n:Int):z0c X z2P [AI n] h K=K (AB (decide (n=7)||decide (n=8))) h []:=by
 refine rule ?_
 rw[c_q06c rfl]
 by_cases h0:n=7
 ·subst h0;simp only[zeP,go_sem]
 by_cases h1:n=8
 ·subst h1;simp only[zeP,go_sem]
 simp only[zeP,go_sem,h0,h1]
theorem z1m (n:Int):z0c X zbr [AI n] h K=K (AB (decide (1≤n)&&decide (n≤6))) h []:=by
 refine rule ?_
 rw[c_q06d rfl]
 by_cases h0:n<1
 ·have:¬ (1≤n):=by omega
  simp only[zeQ,go_sem,z8n,h0,this]
 ·have:1≤n:=by omega
  by_cases h1:6<n
  ·have h2:¬ (n≤6):=by omega
   simp only[zeQ,go_sem,z8n,h0,this,h1,h2]
  ·have h2:n≤6:=by omega
   simp only[zeQ,go_sem,z8n,h0,this,h1,h2]
theorem zyT (c:Cmd) (hc:CmdOk c):z0c X zbx [ACm c] h K=K (AI (z2K c:Nat)) h []:=by
 refine rule ?_
 rw[c_q06n rfl]
 have b1:=hc.b;have b2:=hc.w;have b3:=hc.m
 have k1:=fun (h':Heap) (K':Post)=>zcJ (h:=h') (K:=K') c.b (show c.b.length≤1000000 by omega)
 have k2:=fun (h':Heap) (K':Post)=>zcJ (h:=h') (K:=K') c.w (show c.w.length≤1000000 by omega)
 have k3:=fun (h':Heap) (K':Post)=>zcJ (h:=h') (K:=K') c.m (show c.m.length≤1000000 by omega)
 obtain⟨k,s,cl,b,w,m⟩:=c
 simp only at b1 b2 b3 k1 k2 k3
 have h0:=k1;have h0':=k2;have h0'':=k3
 unfold z2K
 by_cases h1:b=[]
 ·simp only[z3l,go_sem,h1]
 rcases hb:z0V b with _ | _
 ·simp only[z3l,go_sem,h1,k1,hb]
 by_cases h2:2000<b.length
 ·have h2':(2000:Int)<(b.length:Int):=by omega
  simp only[z3l,go_sem,h1,k1,hb,h2,h2']
 have h2':¬ (2000:Int)<(b.length:Int):=by omega
 by_cases h3:w=[]
 ·subst h3
  have hbn:z0V []=true:=rfl
  rcases hm:z0V m with _ | _
  ·simp only[z3l,go_sem,h1,k1,hb,h2,h2',k2,hbn,k3,hm]
  ·by_cases h4:m=[]
   ·subst h4
    simp only[z3l,go_sem,h1,k1,hb,h2,h2',k2,hbn]
   ·simp only[z3l,go_sem,h1,k1,hb,h2,h2',k2,hbn,k3,hm,h4]
 by_cases h4:w.length=b.length
 ·have h4':(w.length:Int)=(b.length:Int):=by omega
  by_cases h5:m.length=b.length
  ·have h5':(m.length:Int)=(b.length:Int):=by omega
   rcases hw:z0V w with _ | _
   ·simp only[z3l,go_sem,h1,k1,hb,h2',h3,h4',h5',k2,hw]
    simp [h1,hb,h2,h3,h4,h5,hw]
   ·rcases hm:z0V m with _ | _
    ·simp only[z3l,go_sem,h1,k1,hb,h2',h3,h4',h5',k2,hw,k3,hm]
     simp [h1,hb,h2,h3,h4,h5,hw,hm]
    ·simp only[z3l,go_sem,h1,k1,hb,h2',h3,h4',h5',k2,hw,k3,hm]
     simp [h1,hb,h2,h3,h4,h5,hw,hm]
  ·have h5':¬ (m.length:Int)=(b.length:Int):=by omega
   simp only[z3l,go_sem,h1,k1,hb,h2',h3,h4',h5']
   simp [h1,hb,h2,h3,h4,h5]
 ·have h4':¬ (w.length:Int)=(b.length:Int):=by omega
  simp only[z3l,go_sem,h1,k1,hb,h2',h3,h4']
  simp [h1,hb,h2,h3,h4]
theorem zuZ (c:Cmd) (hc:CmdOk c):z0c X zbf [ACm c] h K=K (AI (z2K c:Nat)) h []:=by
 refine rule ?_
 rw[c_q03n rfl]
 have b1:=hc.b;have b2:=hc.w;have b3:=hc.m
 have k1:=fun (h':Heap) (K':Post)=>zcK (h:=h') (K:=K') c.b (show c.b.length≤1000000 by omega)
 have k2:=fun (h':Heap) (K':Post)=>zcK (h:=h') (K:=K') c.w (show c.w.length≤1000000 by omega)
 have k3:=fun (h':Heap) (K':Post)=>zcK (h:=h') (K:=K') c.m (show c.m.length≤1000000 by omega)
 obtain⟨k,s,cl,b,w,m⟩:=c
 simp only at b1 b2 b3 k1 k2 k3
 have h0:=k1;have h0':=k2;have h0'':=k3
 unfold z2K
 by_cases h1:b=[]
 ·simp only[z3i,go_sem,h1]
 rcases hb:z0V b with _ | _
 ·simp only[z3i,go_sem,h1,k1,hb]
 by_cases h2:2000<b.length
 ·have h2':(2000:Int)<(b.length:Int):=by omega
  simp only[z3i,go_sem,h1,k1,hb,h2,h2']
 have h2':¬ (2000:Int)<(b.length:Int):=by omega
 by_cases h3:w=[]
 ·subst h3
  have hbn:z0V []=true:=rfl
  rcases hm:z0V m with _ | _
  ·simp only[z3i,go_sem,h1,k1,hb,h2,h2',k2,hbn,k3,hm]
  ·by_cases h4:m=[]
   ·subst h4
    simp only[z3i,go_sem,h1,k1,hb,h2,h2',k2,hbn]
   ·simp only[z3i,go_sem,h1,k1,hb,h2,h2',k2,hbn,k3,hm,h4]
 by_cases h4:w.length=b.length
 ·have h4':(w.length:Int)=(b.length:Int):=by omega
  by_cases h5:m.length=b.length
  ·have h5':(m.length:Int)=(b.length:Int):=by omega
   rcases hw:z0V w with _ | _
   ·simp only[z3i,go_sem,h1,k1,hb,h2',h3,h4',h5',k2,hw]
    simp [h1,hb,h2,h3,h4,h5,hw]
   ·rcases hm:z0V m with _ | _
    ·simp only[z3i,go_sem,h1,k1,hb,h2',h3,h4',h5',k2,hw,k3,hm]
     simp [h1,hb,h2,h3,h4,h5,hw,hm]
    ·simp only[z3i,go_sem,h1,k1,hb,h2',h3,h4',h5',k2,hw,k3,hm]
     simp [h1,hb,h2,h3,h4,h5,hw,hm]
  ·have h5':¬ (m.length:Int)=(b.length:Int):=by omega
   simp only[z3i,go_sem,h1,k1,hb,h2',h3,h4',h5']
   simp [h1,hb,h2,h3,h4,h5]
 ·have h4':¬ (w.length:Int)=(b.length:Int):=by omega
  simp only[z3i,go_sem,h1,k1,hb,h2',h3,h4']
  simp [h1,hb,h2,h3,h4]
end Go.Am
end
section
/- A command's fault on both sides. -/
open Go
set_option linter.all false
namespace Go.Am
variable {h:Heap} {K:Post}
theorem eqs6 {k s cl k' s' cl':Int} {b w m b' w' m':List UInt8}:eqs [.int .i64 k,.int .i64 s,.int .i64 cl,.str b,.str w,.str m] [.int .i64 k',.int .i64 s',.int .i64 cl',.str b',.str w',.str m']=some (decide ((⟨k,s,cl,b,w,m⟩:Cmd)=⟨k',s',cl',b',w',m'⟩)):=by
 by_cases e1:k=k' <;> by_cases e2:s=s' <;> by_cases e3:cl=cl' <;> by_cases e4:b=b' <;> by_cases e5:w=w' <;> by_cases e6:m=m' <;> simp [eqs,PV.eq1,e1,e2,e3,e4,e5,e6]
def zjW (c:Cmd):Nat:=
 if c.k=1∨c.k=2∨c.k=10 then (if !z07 c.s then 1 else 0)
 else if c.k=9 then (if c.cl<0∨20000<c.cl then 1 else 0)
 else if c.k=7∨c.k=8 then z2K c
 else (if !z0V c.b then 9 else if 2000<c.b.length then 2 else 0)
def znd (c:Cmd):Cmd:=
 if c.k=1∨c.k=2∨c.k=10 then { c with s:=0 }
 else if c.k=9 then { c with cl:=0 }
 else if c.k=7∨c.k=8 then { c with b:=[],w:=[],m:=[] }
 else { c with b:=[] }
theorem znv {c:Cmd} (h:1≤c.k∧c.k≤10):cmdF c=if zjW c≠0 then zjW c else if znd c=⟨c.k,0,0,[],[],[]⟩ then 0 else 3:=by
 obtain⟨k,s,cl,b,w,m⟩:=c
 unfold cmdF zjW znd
 dsimp only at h ⊢
 by_cases h1:k=1∨k=2∨k=10
 ·simp only[if_pos h1]
  rcases z07 s with _ | _ <;> simp [Cmd.mk.injEq]
 simp only[if_neg h1]
 by_cases h2:k=9
 ·simp only[if_pos h2]
  by_cases h3:cl<0∨20000<cl <;> simp [h3,Cmd.mk.injEq]
 simp only[if_neg h2]
 by_cases h3:k=7∨k=8
 ·simp only[if_pos h3]
  by_cases h4:z2K ⟨k,s,cl,b,w,m⟩=0 <;> simp [h4,Cmd.mk.injEq]
 simp only[if_neg h3]
 rw[if_pos (by omega)]
 rcases z0V b with _ | _
 ·simp
 ·by_cases h4:2000<b.length <;> simp [h4,Cmd.mk.injEq]
theorem zdI {c:Cmd} (h:¬ (1≤c.k∧c.k≤10)):cmdF c=4:=by
 unfold cmdF
 rw[if_neg (by omega),if_neg (by omega),if_neg (by omega),if_neg (by omega)]
theorem len2 (n:Nat):n+1+1=n+2:=rfl
set_option maxHeartbeats 4000000 in
theorem zgR (c:Cmd) (hc:CmdOk c):z0c X zbs [ACm c] h K=K (.tup [ACm (znd c),AI (zjW c:Nat)]) h []:=by
 refine rule ?_
 rw[c_q06e rfl]
 have b1:=hc.b;have b2:=hc.w;have b3:=hc.m
 have k1:=fun (h':Heap) (K':Post)=>zcJ (h:=h') (K:=K') c.b (show c.b.length≤1000000 by omega)
 have k2:=fun (h':Heap) (K':Post)=>zyT (h:=h') (K:=K') c hc
 obtain⟨k,s,cl,b,w,m⟩:=c
 simp only at b1 b2 b3 k1 k2
 unfold zjW znd
 dsimp only
 by_cases h1:k=1
 ·rcases hs:z07 s with _ | _ <;> (simp only[z2N,go_sem,len2,h1,zcS,hs];simp [h1,hs])
 by_cases h2:k=2
 ·rcases hs:z07 s with _ | _ <;> (simp only[z2N,go_sem,len2,h1,h2,zcS,hs];simp [h1,h2,hs])
 by_cases h3:k=10
 ·rcases hs:z07 s with _ | _ <;> (simp only[z2N,go_sem,len2,h1,h2,h3,zcS,hs];simp [h1,h2,h3,hs])
 by_cases h4:k=9
 ·by_cases g1:cl<0
  ·(simp only[z2N,go_sem,len2,h1,h2,h3,h4,z8n,g1];simp [h1,h2,h3,h4,g1])
  ·by_cases g2:20000<cl
   ·(simp only[z2N,go_sem,len2,h1,h2,h3,h4,z8n,g1,g2];simp [h1,h2,h3,h4,g1,g2])
   ·(simp only[z2N,go_sem,len2,h1,h2,h3,h4,z8n,g1,g2];simp [h1,h2,h3,h4,g1,g2])
 by_cases h5:k=7
 ·subst h5
  (simp only[z2N,go_sem,len2,z2a,k2];simp [len2])
 by_cases h6:k=8
 ·subst h6
  (simp only[z2N,go_sem,len2,z2a,k2];simp [len2])
 rcases hb:z0V b with _ | _
 ·(simp only[z2N,go_sem,len2,h1,h2,h3,h4,h5,h6,z2a,k1,hb];simp [h1,h2,h3,h4,h5,h6,hb])
 ·by_cases h7:2000<b.length
  ·have h7':(2000:Int)<(b.length:Int):=by omega
   (simp only[z2N,go_sem,len2,h1,h2,h3,h4,h5,h6,z2a,k1,hb,h7,h7'];simp [h1,h2,h3,h4,h5,h6,hb,h7])
  ·have h7':¬ (2000:Int)<(b.length:Int):=by omega
   (simp only[z2N,go_sem,len2,h1,h2,h3,h4,h5,h6,z2a,k1,hb,h7,h7'];simp [h1,h2,h3,h4,h5,h6,hb,h7])
end Go.Am
end
section
/- The program: a run in the heap;a clock. -/
open Go
set_option linter.all false
namespace Go.Am
variable {h l:Heap} {K:Post} {r:Run}
attribute [-go_sem] oEqa splice
def rc (s:Sett) (st ck ni nd:Int) (a b c d e:AV) (w:Bool):List AV:=
 [AI s.e1.k,AI s.e1.s,AI s.e1.cl,AS s.e1.b,AS s.e1.w,AS s.e1.m,AI s.e2.k,AI s.e2.s,AI s.e2.cl,AS s.e2.b,AS s.e2.w,AS s.e2.m,
  AI s.h1.k,AI s.h1.s,AI s.h1.cl,AS s.h1.b,AS s.h1.w,AS s.h1.m,AI s.t1.k,AI s.t1.s,AI s.t1.cl,AS s.t1.b,AS s.t1.w,AS s.t1.m,
  AI s.h2.k,AI s.h2.s,AI s.h2.cl,AS s.h2.b,AS s.h2.w,AS s.h2.m,AI s.t2.k,AI s.t2.s,AI s.t2.cl,AS s.t2.b,AS s.t2.w,AS s.t2.m,
  AI st,AI ck,AI ni,AI nd,a,b,c,d,e,AB w]
section
variable {s:Sett} {st ck ni nd x:Int} {a b c d e o:AV} {w:Bool}
theorem zi7:(rc s st ck ni nd a b c d e w).length=46:=(rfl)
theorem zi6:z7y (rc s st ck ni nd a b c d e w)=false:=(rfl)
theorem rc_1:(rc s st ck ni nd a b c d e w)[1]?=some (AI s.e1.s):=(rfl)
theorem rc_7:(rc s st ck ni nd a b c d e w)[7]?=some (AI s.e2.s):=(rfl)
theorem zu4:(rc s st ck ni nd a b c d e w)[15]?=some (AS s.h1.b):=(rfl)
theorem zu5:(rc s st ck ni nd a b c d e w)[21]?=some (AS s.t1.b):=(rfl)
theorem zu6:(rc s st ck ni nd a b c d e w)[27]?=some (AS s.h2.b):=(rfl)
theorem zu7:(rc s st ck ni nd a b c d e w)[33]?=some (AS s.t2.b):=(rfl)
theorem zrB:(rc s st ck ni nd a b c d e w)[36]?=some (AI st):=(rfl)
theorem zgJ:(rc s st ck ni nd a b c d e w)[37]?=some (AI ck):=(rfl)
theorem zrC:(rc s st ck ni nd a b c d e w)[38]?=some (AI ni):=(rfl)
theorem zrD:(rc s st ck ni nd a b c d e w)[39]?=some (AI nd):=(rfl)
theorem zrE:(rc s st ck ni nd a b c d e w)[40]?=some a:=(rfl)
theorem zrF:(rc s st ck ni nd a b c d e w)[41]?=some b:=(rfl)
theorem zrG:(rc s st ck ni nd a b c d e w)[42]?=some c:=(rfl)
theorem zrH:(rc s st ck ni nd a b c d e w)[43]?=some d:=(rfl)
theorem zrI:(rc s st ck ni nd a b c d e w)[44]?=some e:=(rfl)
theorem zu8:(rc s st ck ni nd a b c d e w)[45]?=some (AB w):=(rfl)
theorem zi8:splice (rc s st ck ni nd a b c d e w) 36 [AI x]=rc s x ck ni nd a b c d e w:=(rfl)
theorem zi9:splice (rc s st ck ni nd a b c d e w) 37 [AI x]=rc s st x ni nd a b c d e w:=(rfl)
theorem ziA:splice (rc s st ck ni nd a b c d e w) 38 [AI x]=rc s st ck x nd a b c d e w:=(rfl)
theorem ziB:splice (rc s st ck ni nd a b c d e w) 39 [AI x]=rc s st ck ni x a b c d e w:=(rfl)
theorem ziC:splice (rc s st ck ni nd a b c d e w) 40 [o]=rc s st ck ni nd o b c d e w:=(rfl)
theorem ziD:splice (rc s st ck ni nd a b c d e w) 41 [o]=rc s st ck ni nd a o c d e w:=(rfl)
theorem ziE:splice (rc s st ck ni nd a b c d e w) 42 [o]=rc s st ck ni nd a b o d e w:=(rfl)
theorem ziF:splice (rc s st ck ni nd a b c d e w) 43 [o]=rc s st ck ni nd a b c o e w:=(rfl)
theorem ziG:splice (rc s st ck ni nd a b c d e w) 44 [o]=rc s st ck ni nd a b c d o w:=(rfl)
variable {q:Cmd}
theorem rcs_0:splice (rc s st ck ni nd a b c d e w) 0 [AI q.k,AI q.s,AI q.cl,AS q.b,AS q.w,AS q.m]=rc { s with e1:=q } st ck ni nd a b c d e w:=(rfl)
theorem rcs_6:splice (rc s st ck ni nd a b c d e w) 6 [AI q.k,AI q.s,AI q.cl,AS q.b,AS q.w,AS q.m]=rc { s with e2:=q } st ck ni nd a b c d e w:=(rfl)
theorem zwH:splice (rc s st ck ni nd a b c d e w) 12 [AI q.k,AI q.s,AI q.cl,AS q.b,AS q.w,AS q.m]=rc { s with h1:=q } st ck ni nd a b c d e w:=(rfl)
theorem zwI:splice (rc s st ck ni nd a b c d e w) 18 [AI q.k,AI q.s,AI q.cl,AS q.b,AS q.w,AS q.m]=rc { s with t1:=q } st ck ni nd a b c d e w:=(rfl)
theorem zwJ:splice (rc s st ck ni nd a b c d e w) 24 [AI q.k,AI q.s,AI q.cl,AS q.b,AS q.w,AS q.m]=rc { s with h2:=q } st ck ni nd a b c d e w:=(rfl)
theorem zwK:splice (rc s st ck ni nd a b c d e w) 30 [AI q.k,AI q.s,AI q.cl,AS q.b,AS q.w,AS q.m]=rc { s with t2:=q } st ck ni nd a b c d e w:=(rfl)
end
abbrev eN (n:Nat):PV:=eI n
def rh (h:Heap) (r:Run) (l:Heap):Heap:=h ++ .row none (r.sts.map eN) 0 :: .row none (r.frs.map eN) 0 :: .row none (z0q r.tms) 0 :: .row none (z0q r.tdi) 0 :: .row none (z0q r.want) 0 ::
 .box (rc r.se r.st r.ck r.ni r.nd (.own h.length r.sts.length 0 r.sts.length) (.own (h.length+1) r.frs.length 0 r.frs.length) (.own (h.length+2) r.tms.length 0 r.tms.length) (.own (h.length+3) r.tdi.length 0 r.tdi.length) (.own (h.length+4) r.want.length 0 r.want.length) r.wr)::l
structure RunOk (r:Run):Prop where
 t:r.tms.length≤r.ck
 i:r.tdi.length≤r.ck
 w:r.want.length≤r.ck
theorem z2C {L:List (UInt8 × UInt8 × UInt8)} (R:RunOk r):RunOk (r.clk L):=by
 unfold Run.clk
 have:=R.t;have:=R.i;have:=R.w
 split <;> (refine⟨?_,?_,?_⟩ <;> simp <;> omega)
attribute [local go_sem] zi7 zi6 rc_1 rc_7 zu4 zu5 zu6 zu7 zrB zgJ zrC zrD zrE zrF zrG zrH zrI zu8 zi8 zi9 ziA ziB ziC ziD ziE ziF ziG
set_option maxHeartbeats 2000000 in
theorem zcN (R:RunOk r) (hck:r.ck≤1000000000) (a b c:UInt8):z0c X z58 [.ref (h.length+5) 0,.p (.int .u8 a.toNat),.p (.int .u8 b.toNat),.p (.int .u8 c.toNat)] (rh h r l) K=K (.tup []) (rh h (r.clk [(a,b,c)]) l) []:=by
 refine rule ?_
 rw[c_q06j rfl]
 have hr:=R.t;have:=R.i;have:=R.w
 have w1:IntKind.i64.wrap ((r.ck:Int)+1)=((r.ck+1:Nat):Int):=z0j _ (by omega) (by omega)
 obtain⟨se,st,ck,ni,nd,sts,frs,tms,tdi,want,wr⟩:=r
 dsimp only at *
 unfold rh Run.clk
 have m1:tms.length+1≤z0J:=by unfold z0J;omega
 have m2:tdi.length+1≤z0J:=by unfold z0J;omega
 have m3:want.length+1≤z0J:=by unfold z0J;omega
 have e2:∀ k n o m,k<5→z2J (h.length+5) (.own (h.length+k) n o m)=[]:=fun k n o m hk=>by unfold z2J;rw[zgX,if_neg (by omega)]
 have e3:=fun n o m=>e2 2 n o m (by decide)
 have e4:=fun n o m=>e2 3 n o m (by decide)
 have e5:=fun n o m=>e2 4 n o m (by decide)
 cases wr with
 | false=>simp only[zhN,go_sem,w1]
 | true=>
  simp only[zhN,go_sem,w1,z5i,m1,m2,m3,e3,e4,e5,List.take_length]
  simp [z0q]
end Go.Am
end
section
/- The program: a walk. -/
open Go
set_option linter.all false
namespace Go.Am
variable {h l l2:Heap} {K:Post} {r:Run} {n:Nat} {o:Obj}
attribute [-go_sem] oEqa splice
attribute [local go_sem] zi7 zi6 rc_1 rc_7 zu4 zu5 zu6 zu7 zrB zgJ zrC zrD zrE zrF zrG zrH zrI zu8 zi8 zi9 ziA ziB ziC ziD ziE ziF ziG rcs_0 rcs_6 zwH zwI zwJ zwK
theorem zbD:(rh h r l).length=h.length+(l.length+6):=by unfold rh;simp
theorem zfC:rh h r l++l2=rh h r (l++l2):=by unfold rh;simp
theorem zbC:(rh h r l)[h.length+(n+6)]?=l[n]?:=by unfold rh;rw[z3N];rfl
theorem zbE:(rh h r l).set (h.length+(n+6)) o=rh h r (l.set n o):=by unfold rh;rw[z86];rfl
theorem z71:(rh h r l).take (h.length+(n+6))=rh h r (l.take n):=by unfold rh;rw[zcd];rfl
theorem z7d:(rh h r l).take h.length=h:=by unfold rh;rw[z87]
theorem zbB:(rh h r l)[h.length+5]?=some (.box (rc r.se r.st r.ck r.ni r.nd (.own h.length r.sts.length 0 r.sts.length) (.own (h.length+1) r.frs.length 0 r.frs.length) (.own (h.length+2) r.tms.length 0 r.tms.length) (.own (h.length+3) r.tdi.length 0 r.tdi.length) (.own (h.length+4) r.want.length 0 r.want.length) r.wr)):=by unfold rh;rw[z3N];rfl
section
variable {s:Sett} {x y z:Nat}
theorem zfD:(rh h r l).set (h.length+5) (.box (rc s x r.ck y z (.own h.length r.sts.length 0 r.sts.length) (.own (h.length+1) r.frs.length 0 r.frs.length) (.own (h.length+2) r.tms.length 0 r.tms.length) (.own (h.length+3) r.tdi.length 0 r.tdi.length) (.own (h.length+4) r.want.length 0 r.want.length) r.wr))=rh h { r with se:=s,st:=x,ni:=y,nd:=z } l:=by unfold rh;rw[z86];rfl
end
attribute [local go_sem] zbD zfC zbC zbE z71 z7d zbB zfD
theorem zck:r.clk []=r:=by unfold Run.clk;split <;> simp
theorem z8p {L:List (UInt8 × UInt8 × UInt8)} {x:UInt8 × UInt8 × UInt8}:(r.clk L).clk [x]=r.clk (L++[x]):=by
 unfold Run.clk
 cases hw:r.wr <;> simp [hw,Nat.add_assoc]
theorem zdG {L:List (UInt8 × UInt8 × UInt8)}:(r.clk L).ck=r.ck+L.length:=(z2c r L).2.2.2.2.2.1
theorem z3Y {tov:Nat} (R:RunOk r):RunOk (r.go z0f tov):=by
 have Q:=z2C (L:=(z0f r.st tov).map fun c=>(c,48,120)) R
 exact⟨Q.t,Q.i,Q.w⟩
theorem zgA {tov:Nat}:(r.go z0f tov).ck=r.ck+(z0f r.st tov).length:=(z08 z0f r tov).2.2.2.2.2.1
set_option maxHeartbeats 2000000 in
theorem zbS (R:RunOk r) (hck:r.ck≤900000000) (hf:r.st∈frS) {tov:Nat} (ht:tov∈toS):z0c X z4o [.ref (h.length+5) 0,AI tov] (rh h r l) K=K (.tup []) (rh h (r.go z0f tov) l) []:=by
 refine rule ?_
 rw[c_q06m rfl]
 have to16:tov<16:=by simp only[toS,List.mem_cons,List.not_mem_nil,or_false] at ht;omega
 have hp:=fun (h':Heap) (K':Post)=>s_Path (h:=h') (K:=K') (fr_lt hf) to16
 obtain⟨pb,pl,_⟩:=z02 hf ht
 have hgo:r.go z0f tov={ r.clk ((z0f r.st tov).map fun c=>(c,48,120)) with st:=tov }:=rfl
 rw[hgo]
 simp only[zhO,go_sem,hp]
 generalize z0f r.st tov=w at pl ⊢
 refine z0T (fun k:Nat=>⟨[(0,.ref (h.length+5) 0),(1,AI tov),(4,AS w),(17,AI w.length),(18,AI k)],rh h (r.clk ((w.take k).map fun c=>(c,48,120))) l,[]⟩) (fun k=>k≤w.length) (fun k=>w.length-k) 0 (by rw[List.take_zero,List.map_nil,zck];rfl) (by omega) ?_
 intro k hk
 have hc:=fun (a:UInt8) (K':Post)=>zcN (h:=h) (l:=l) (K:=K') (z2C (L:=(w.take k).map fun c=>(c,48,120)) R) (by rw[zdG];simp;omega) a 48 120
 rcases Nat.lt_or_ge k w.length with hlt | hge
 ·have w2:IntKind.i64.wrap ((k:Int)+1)=((k+1:Nat):Int):=z0j _ (by omega) (by omega)
  have hg:w[k]?=some w[k]:=List.getElem?_eq_getElem hlt
  have hlt':(k:Int)<(w.length:Int):=by omega
  have hc':=fun (K':Post)=>hc w[k] K'
  simp only[show (((48:UInt8).toNat:Nat):Int)=48 from rfl,show (((120:UInt8).toNat:Nat):Int)=120 from rfl] at hc'
  simp only[go_sem,hlt,hlt',hg,w2,hc']
  refine⟨k+1,?_,by omega,by omega⟩
  rw[z8p,List.take_succ_eq_append_getElem hlt,List.map_append];rfl
 ·obtain rfl:k=w.length:=by omega
  have hs:=(z2c r ((w.map fun c=>((c,48,120):UInt8 × UInt8 × UInt8)))).1
  simp only[go_sem,Nat.lt_irrefl,Int.lt_irrefl,List.take_length]
end Go.Am
end
section
/- The program: a scan. -/
open Go
set_option linter.all false
namespace Go.Am
variable {h l l2:Heap} {K:Post} {r:Run} {n:Nat} {o:Obj}
attribute [-go_sem] oEqa splice
attribute [local go_sem] zi7 zi6 rc_1 rc_7 zu4 zu5 zu6 zu7 zrB zgJ zrC zrD zrE zrF zrG zrH zrI zu8 zi8 zi9 ziA ziB ziC ziD ziE ziF ziG rcs_0 rcs_6 zwH zwI zwJ zwK
attribute [local go_sem] zbD zfC zbC zbE z71 z7d zbB zfD
def RunN (r:Run):Prop:=r.ni≤r.ck∧r.nd≤r.ck
theorem z74 {tov:Nat} (N:RunN r):RunN (r.go z0f tov):=by
 obtain⟨_,_,_,_,_,c,a,b⟩:=z08 z0f r tov
 obtain⟨x,y⟩:=N
 exact⟨by rw[a,c];omega,by rw[b,c];omega⟩
structure SetR (s:Sett):Prop where
 s1:z07 s.e1.s=true
 s2:z07 s.e2.s=true
 h1:s.h1.b.length≤2000
 t1:s.t1.b.length≤2000
 h2:s.h2.b.length≤2000
 t2:s.t2.b.length≤2000
theorem zfS {c:Cmd} {hd al:List UInt8} {k:Nat} (hk:k<al.length):(z0S c hd al)[k]?=some (if k=al.length-1 then 49 else 48,al[k],if hd.length≤k then (if k-hd.length<c.m.length then z3S c (k-hd.length) else 120) else 120):=by
 unfold z0S
 rw[List.getElem?_map,List.getElem?_range hk,Option.map_some,List.getElem?_eq_getElem hk];rfl
theorem zss {c:Cmd} (h7:c.k=7):r.scn z0f c=Run.go z0f { Run.clk { r.go z0f 11 with ni:=(r.go z0f 11).ni+(r.se.h1.b++c.b++r.se.t1.b).length } (z0S c r.se.h1.b (r.se.h1.b++c.b++r.se.t1.b)) with st:=12 } r.se.e1.s.toNat∧r.scnF z0f c=(r.go z0f 11).ck+r.se.h1.b.length:=by
 unfold Run.scn Run.scnF
 simp [h7]
set_option maxHeartbeats 4000000 in
theorem zva (R:RunOk r) (N:RunN r) (hck:r.ck≤800000000) (hst:r.st∈stb) (S:SetR r.se) (c:Cmd) (h7:c.k=7) (hs:z2K c=0):z0c X z8e [.ref (h.length+5) 0,ACm c] (rh h r l) K=K (AI (r.scnF z0f c:Nat)) (rh h (r.scn z0f c) l) []:=by
 refine rule ?_
 rw[zwx rfl,(zss h7).1,(zss h7).2]
 have hw1:=fun (l:Heap) (K':Post)=>zbS (h:=h) (l:=l) (K:=K') R (by omega) (z1t hst) (show 11∈toS by decide)
 simp only[show (((11:Nat)):Int)=11 from rfl] at hw1
 have R1:=z3Y (tov:=11) R
 have c1:(r.go z0f 11).ck≤800000008:=by have:=(z02 (z1t hst) (show 11∈toS by decide)).2.1;rw[zgA];omega
 have N1:=z74 (tov:=11) N
 generalize r.go z0f 11=r1 at *
 obtain⟨q1,q2,q3,q4,q5,q6⟩:=z1Q hs
 obtain⟨n1,n2⟩:=z03 S.s1
 have hh:=S.h1;have ht:=S.t1
 generalize hhd:r.se.h1.b=hd at *
 generalize htl:r.se.t1.b=tl at *
 generalize hen:r.se.e1.s=en at *
 obtain⟨en',rfl⟩:∃ n:Nat,en=n:=⟨en.toNat,n2.symm⟩
 simp only[Int.toNat_natCast] at n1 n2 ⊢
 obtain⟨k,s,cl,b,w,m⟩:=c
 dsimp only at h7 q1 q3 q6 ⊢
 subst h7
 have hbp:=List.length_pos_iff.2 q1
 have x1:hd.length+b.length≤z0o:=by unfold z0o;omega
 have x2:hd.length+(b.length+tl.length)≤z0o:=by unfold z0o;omega
 have x3:hd.length+b.length+tl.length≤z0o:=by unfold z0o;omega
 obtain⟨hn,hd'⟩:=N1
 obtain⟨al,hal⟩:∃ al,al=hd++b++tl:=⟨_,rfl⟩
 have hall:al.length=hd.length+b.length+tl.length:=by rw[hal];simp;omega
 have hal2:=hal
 rw[List.append_assoc] at hal2
 have w1:IntKind.i64.wrap ((r1.ni:Int)+(al.length:Int))=((r1.ni+al.length:Nat):Int):=z0j _ (by omega) (by omega)
 have w2:IntKind.i64.wrap ((r1.ck:Int)+(hd.length:Int))=((r1.ck+hd.length:Nat):Int):=z0j _ (by omega) (by omega)
 simp only[zeY,go_sem,hw1,hhd,htl,hen,x1,x2,x3,← hal,← hal2,w1,w2]
 have R2:RunOk { r1 with ni:=r1.ni+al.length }:=⟨R1.t,R1.i,R1.w⟩
 have c2:{ r1 with ni:=r1.ni+al.length:Run }.ck=r1.ck:=rfl
 show z0Z (z0c X) X.gl _ _ _ (rh h { r1 with ni:=r1.ni+al.length } _) []
 generalize { r1 with ni:=r1.ni+al.length:Run }=r2 at R2 c2 ⊢
 generalize hq:(⟨7,s,cl,b,w,m⟩:Cmd)=c at *
 have hcm:c.m=m:=by rw[← hq]
 have hcw:c.w=w:=by rw[← hq]
 have hml:m.length≤b.length∧m.length≤w.length:=by
  rcases q6 with ⟨e1,e2⟩ | ⟨e1,e2⟩
  ·rw[e2];exact⟨Nat.zero_le _,Nat.zero_le _⟩
  ·omega
 have hal0:0<al.length:=by omega
 refine z0T (fun k:Nat=>⟨[(0,.ref (h.length+5) 0),(3,.ref (h.length+(l.length+6)) 0),(5,AS hd),(7,AI en'),(9,AI 12),(10,AS al),(11,AI (r1.ck+hd.length:Nat)),(93,AI al.length),(94,AI k)],
  rh h (r2.clk ((z0S c hd al).take k)) (l++[.box [AI 7,AI s,AI cl,AS b,AS w,AS m]]),[]⟩) (fun k=>k≤al.length) (fun k=>al.length-k) 0 (by rw[List.take_zero,zck];rfl) (by omega) ?_
 intro k hk
 have hlen:(z0S c hd al).length=al.length:=z2f c hd al
 have R3:=z2C (L:=(z0S c hd al).take k) R2
 have c3:(r2.clk ((z0S c hd al).take k)).ck≤900000000:=by rw[zdG,c2,List.length_take];omega
 rcases Nat.lt_or_ge k al.length with hlt | hge
 ·have w3:IntKind.i64.wrap ((k:Int)+1)=((k+1:Nat):Int):=z0j _ (by omega) (by omega)
  have w4:IntKind.i64.wrap ((al.length:Int)-1)=((al.length-1:Nat):Int):=by
   rw[show (al.length:Int)-1=((al.length-1:Nat):Int) by omega];exact z0j _ (by omega) (by omega)
  have hlt':(k:Int)<(al.length:Int):=by omega
  have hg:al[k]?=some al[k]:=List.getElem?_eq_getElem hlt
  have hcl:=fun (t v:UInt8) (K':Post)=>zcN (h:=h) (l:=l++[.box [AI 7,AI s,AI cl,AS b,AS w,AS m]]) (K:=K') R3 (by omega) t al[k] v
  have hsg:=zfS (c:=c) (hd:=hd) hlt
  have hstep:∀ t v:UInt8,(z0S c hd al)[k]?=some (t,al[k],v)→(r2.clk ((z0S c hd al).take k)).clk [(t,al[k],v)]=r2.clk ((z0S c hd al).take (k+1)):=fun t v e=>by
   rw[z8p,List.take_succ,e];rfl
  have e48:(((48:UInt8).toNat:Nat):Int)=48:=rfl
  have e49:(((49:UInt8).toNat:Nat):Int)=49:=rfl
  have e120:(((120:UInt8).toNat:Nat):Int)=120:=rfl
  generalize r2.clk ((z0S c hd al).take k)=r3 at R3 c3 hcl hstep ⊢
  -- what is expected
  by_cases hk0:hd.length≤k
  ·have w5:IntKind.i64.wrap ((k:Int)-(hd.length:Int))=((k-hd.length:Nat):Int):=by
    rw[show (k:Int)-(hd.length:Int)=((k-hd.length:Nat):Int) by omega];exact z0j _ (by omega) (by omega)
   have z0:(0:Int)≤((k-hd.length:Nat):Int):=by omega
   rw[if_pos hk0] at hsg
   by_cases hm:k-hd.length<m.length
   ·have hm':((k-hd.length:Nat):Int)<(m.length:Int):=by omega
    rw[hcm,if_pos hm] at hsg
    have hgm:m[k-hd.length]?=some m[k-hd.length]:=List.getElem?_eq_getElem hm
    have hgw:w[k-hd.length]?=some (w[k-hd.length]'(by omega)):=List.getElem?_eq_getElem (by omega)
    by_cases h49:m[k-hd.length]=49
    ·have hx:z3S c (k-hd.length)=w[k-hd.length]'(by omega):=by unfold z3S;rw[hcm,hgm,h49,if_pos rfl,hcw,hgw];rfl
     rw[hx] at hsg
     by_cases hl1:k=al.length-1
     ·have hl2:((k:Int)=((al.length-1:Nat):Int))=True:=eq_true (by omega)
      have hcl1:=fun K'=>hcl 49 (w[k-hd.length]'(by omega)) K'
      rw[if_pos hl1] at hsg
      rw[e49] at hcl1
      simp only[go_sem,hlt,hlt',hg,w3,w4,w5,z0,hm,hm',hgm,hgw,h49,e49,hl2,hcl1]
      exact⟨k+1,by rw[hstep _ _ hsg],by omega,by omega⟩
     ·have hl2:((k:Int)=((al.length-1:Nat):Int))=False:=eq_false (by omega)
      have hcl1:=fun K'=>hcl 48 (w[k-hd.length]'(by omega)) K'
      rw[if_neg hl1] at hsg
      rw[e48] at hcl1
      simp only[go_sem,hlt,hlt',hg,w3,w4,w5,z0,hm,hm',hgm,hgw,h49,e49,hl2,hcl1]
      exact⟨k+1,by rw[hstep _ _ hsg],by omega,by omega⟩
    ·have hx:z3S c (k-hd.length)=120:=by unfold z3S;rw[hcm,hgm,if_neg (fun e=>h49 (Option.some.inj e))]
     rw[hx] at hsg
     have h49':¬ ((m[k-hd.length].toNat:Int)=49):=fun e=>h49 (UInt8.toNat_inj.1 (by rw[show (49:UInt8).toNat=49 from rfl];omega))
     by_cases hl1:k=al.length-1
     ·have hl2:((k:Int)=((al.length-1:Nat):Int))=True:=eq_true (by omega)
      have hcl1:=fun K'=>hcl 49 120 K'
      rw[if_pos hl1] at hsg
      rw[e49] at hcl1
      rw[e120] at hcl1
      simp only[go_sem,hlt,hlt',hg,w3,w4,w5,z0,hm,hm',hgm,h49',hl2,hcl1]
      exact⟨k+1,by rw[hstep _ _ hsg],by omega,by omega⟩
     ·have hl2:((k:Int)=((al.length-1:Nat):Int))=False:=eq_false (by omega)
      have hcl1:=fun K'=>hcl 48 120 K'
      rw[if_neg hl1] at hsg
      rw[e48] at hcl1
      rw[e120] at hcl1
      simp only[go_sem,hlt,hlt',hg,w3,w4,w5,z0,hm,hm',hgm,h49',hl2,hcl1]
      exact⟨k+1,by rw[hstep _ _ hsg],by omega,by omega⟩
   ·have hm':¬ ((k-hd.length:Nat):Int)<(m.length:Int):=by omega
    rw[hcm,if_neg hm] at hsg
    by_cases hl1:k=al.length-1
    ·have hl2:((k:Int)=((al.length-1:Nat):Int))=True:=eq_true (by omega)
     have hcl1:=fun K'=>hcl 49 120 K'
     rw[if_pos hl1] at hsg
     rw[e49] at hcl1
     rw[e120] at hcl1
     simp only[go_sem,hlt,hlt',hg,w3,w4,w5,z0,hm,hm',hl2,hcl1]
     exact⟨k+1,by rw[hstep _ _ hsg],by omega,by omega⟩
    ·have hl2:((k:Int)=((al.length-1:Nat):Int))=False:=eq_false (by omega)
     have hcl1:=fun K'=>hcl 48 120 K'
     rw[if_neg hl1] at hsg
     rw[e48] at hcl1
     rw[e120] at hcl1
     simp only[go_sem,hlt,hlt',hg,w3,w4,w5,z0,hm,hm',hl2,hcl1]
     exact⟨k+1,by rw[hstep _ _ hsg],by omega,by omega⟩
  ·have w5:IntKind.i64.wrap ((k:Int)-(hd.length:Int))=(k:Int)-(hd.length:Int):=z0j _ (by omega) (by omega)
   have z0:¬ (0:Int)≤(k:Int)-(hd.length:Int):=by omega
   rw[if_neg hk0] at hsg
   by_cases hl1:k=al.length-1
   ·have hl2:((k:Int)=((al.length-1:Nat):Int))=True:=eq_true (by omega)
    have hcl1:=fun K'=>hcl 49 120 K'
    rw[if_pos hl1] at hsg
    rw[e49] at hcl1
    rw[e120] at hcl1
    simp only[go_sem,hlt,hlt',hg,w3,w4,w5,z0,hl2,hcl1]
    exact⟨k+1,by rw[hstep _ _ hsg],by omega,by omega⟩
   ·have hl2:((k:Int)=((al.length-1:Nat):Int))=False:=eq_false (by omega)
    have hcl1:=fun K'=>hcl 48 120 K'
    rw[if_neg hl1] at hsg
    rw[e48] at hcl1
    rw[e120] at hcl1
    simp only[go_sem,hlt,hlt',hg,w3,w4,w5,z0,hl2,hcl1]
    exact⟨k+1,by rw[hstep _ _ hsg],by omega,by omega⟩
 ·obtain rfl:k=al.length:=by omega
  have e1:(z0S c hd al).take al.length=z0S c hd al:=by rw[← hlen];exact List.take_length
  rw[e1] at R3 c3
  simp only[go_sem,Nat.lt_irrefl,Int.lt_irrefl,e1]
  generalize r2.clk (z0S c hd al)=r3 at R3 c3 ⊢
  have hw2:=fun (l:Heap) (K':Post)=>zbS (h:=h) (l:=l) (K:=K') (r:={ r3 with st:=12 }) ⟨R3.t,R3.i,R3.w⟩ c3 (show 12∈frS by decide) (z2h n1)
  have hp:=fun l=>zfD (h:=h) (l:=l) (r:=r3) (s:=r3.se) (x:=12) (y:=r3.ni) (z:=r3.nd)
  simp only[show ((12:Nat):Int)=12 from rfl] at hp
  simp only[go_sem,hp,hw2]
theorem zsr {c:Cmd} (h7:c.k=8):r.scn z0f c=Run.go z0f { Run.clk { r.go z0f 4 with nd:=(r.go z0f 4).nd+(r.se.h2.b++c.b++r.se.t2.b).length } (z0S c r.se.h2.b (r.se.h2.b++c.b++r.se.t2.b)) with st:=5 } r.se.e2.s.toNat∧r.scnF z0f c=(r.go z0f 4).ck+r.se.h2.b.length:=by
 unfold Run.scn Run.scnF
 simp [h7]
set_option maxHeartbeats 4000000 in
theorem zuY (R:RunOk r) (N:RunN r) (hck:r.ck≤800000000) (hst:r.st∈stb) (S:SetR r.se) (c:Cmd) (h7:c.k=8) (hs:z2K c=0):z0c X z8e [.ref (h.length+5) 0,ACm c] (rh h r l) K=K (AI (r.scnF z0f c:Nat)) (rh h (r.scn z0f c) l) []:=by
 refine rule ?_
 rw[zwx rfl,(zsr h7).1,(zsr h7).2]
 have hw1:=fun (l:Heap) (K':Post)=>zbS (h:=h) (l:=l) (K:=K') R (by omega) (z1t hst) (show 4∈toS by decide)
 simp only[show (((4:Nat)):Int)=4 from rfl] at hw1
 have R1:=z3Y (tov:=4) R
 have c1:(r.go z0f 4).ck≤800000008:=by have:=(z02 (z1t hst) (show 4∈toS by decide)).2.1;rw[zgA];omega
 have N1:=z74 (tov:=4) N
 generalize r.go z0f 4=r1 at *
 obtain⟨q1,q2,q3,q4,q5,q6⟩:=z1Q hs
 obtain⟨n1,n2⟩:=z03 S.s2
 have hh:=S.h2;have ht:=S.t2
 generalize hhd:r.se.h2.b=hd at *
 generalize htl:r.se.t2.b=tl at *
 generalize hen:r.se.e2.s=en at *
 obtain⟨en',rfl⟩:∃ n:Nat,en=n:=⟨en.toNat,n2.symm⟩
 simp only[Int.toNat_natCast] at n1 n2 ⊢
 obtain⟨k,s,cl,b,w,m⟩:=c
 dsimp only at h7 q1 q3 q6 ⊢
 subst h7
 have hbp:=List.length_pos_iff.2 q1
 have x1:hd.length+b.length≤z0o:=by unfold z0o;omega
 have x2:hd.length+(b.length+tl.length)≤z0o:=by unfold z0o;omega
 have x3:hd.length+b.length+tl.length≤z0o:=by unfold z0o;omega
 obtain⟨hn,hd'⟩:=N1
 obtain⟨al,hal⟩:∃ al,al=hd++b++tl:=⟨_,rfl⟩
 have hall:al.length=hd.length+b.length+tl.length:=by rw[hal];simp;omega
 have hal2:=hal
 rw[List.append_assoc] at hal2
 have w1:IntKind.i64.wrap ((r1.nd:Int)+(al.length:Int))=((r1.nd+al.length:Nat):Int):=z0j _ (by omega) (by omega)
 have w2:IntKind.i64.wrap ((r1.ck:Int)+(hd.length:Int))=((r1.ck+hd.length:Nat):Int):=z0j _ (by omega) (by omega)
 simp only[zeY,go_sem,hw1,hhd,htl,hen,x1,x2,x3,← hal,← hal2,w1,w2]
 have R2:RunOk { r1 with nd:=r1.nd+al.length }:=⟨R1.t,R1.i,R1.w⟩
 have c2:{ r1 with nd:=r1.nd+al.length:Run }.ck=r1.ck:=rfl
 show z0Z (z0c X) X.gl _ _ _ (rh h { r1 with nd:=r1.nd+al.length } _) []
 generalize { r1 with nd:=r1.nd+al.length:Run }=r2 at R2 c2 ⊢
 generalize hq:(⟨8,s,cl,b,w,m⟩:Cmd)=c at *
 have hcm:c.m=m:=by rw[← hq]
 have hcw:c.w=w:=by rw[← hq]
 have hml:m.length≤b.length∧m.length≤w.length:=by
  rcases q6 with ⟨e1,e2⟩ | ⟨e1,e2⟩
  ·rw[e2];exact⟨Nat.zero_le _,Nat.zero_le _⟩
  ·omega
 have hal0:0<al.length:=by omega
 refine z0T (fun k:Nat=>⟨[(0,.ref (h.length+5) 0),(3,.ref (h.length+(l.length+6)) 0),(5,AS hd),(7,AI en'),(9,AI 5),(10,AS al),(11,AI (r1.ck+hd.length:Nat)),(93,AI al.length),(94,AI k)],
  rh h (r2.clk ((z0S c hd al).take k)) (l++[.box [AI 8,AI s,AI cl,AS b,AS w,AS m]]),[]⟩) (fun k=>k≤al.length) (fun k=>al.length-k) 0 (by rw[List.take_zero,zck];rfl) (by omega) ?_
 intro k hk
 have hlen:(z0S c hd al).length=al.length:=z2f c hd al
 have R3:=z2C (L:=(z0S c hd al).take k) R2
 have c3:(r2.clk ((z0S c hd al).take k)).ck≤900000000:=by rw[zdG,c2,List.length_take];omega
 rcases Nat.lt_or_ge k al.length with hlt | hge
 ·have w3:IntKind.i64.wrap ((k:Int)+1)=((k+1:Nat):Int):=z0j _ (by omega) (by omega)
  have w4:IntKind.i64.wrap ((al.length:Int)-1)=((al.length-1:Nat):Int):=by
   rw[show (al.length:Int)-1=((al.length-1:Nat):Int) by omega];exact z0j _ (by omega) (by omega)
  have hlt':(k:Int)<(al.length:Int):=by omega
  have hg:al[k]?=some al[k]:=List.getElem?_eq_getElem hlt
  have hcl:=fun (t v:UInt8) (K':Post)=>zcN (h:=h) (l:=l++[.box [AI 8,AI s,AI cl,AS b,AS w,AS m]]) (K:=K') R3 (by omega) t al[k] v
  have hsg:=zfS (c:=c) (hd:=hd) hlt
  have hstep:∀ t v:UInt8,(z0S c hd al)[k]?=some (t,al[k],v)→(r2.clk ((z0S c hd al).take k)).clk [(t,al[k],v)]=r2.clk ((z0S c hd al).take (k+1)):=fun t v e=>by
   rw[z8p,List.take_succ,e];rfl
  have e48:(((48:UInt8).toNat:Nat):Int)=48:=rfl
  have e49:(((49:UInt8).toNat:Nat):Int)=49:=rfl
  have e120:(((120:UInt8).toNat:Nat):Int)=120:=rfl
  generalize r2.clk ((z0S c hd al).take k)=r3 at R3 c3 hcl hstep ⊢
  -- what is expected
  by_cases hk0:hd.length≤k
  ·have w5:IntKind.i64.wrap ((k:Int)-(hd.length:Int))=((k-hd.length:Nat):Int):=by
    rw[show (k:Int)-(hd.length:Int)=((k-hd.length:Nat):Int) by omega];exact z0j _ (by omega) (by omega)
   have z0:(0:Int)≤((k-hd.length:Nat):Int):=by omega
   rw[if_pos hk0] at hsg
   by_cases hm:k-hd.length<m.length
   ·have hm':((k-hd.length:Nat):Int)<(m.length:Int):=by omega
    rw[hcm,if_pos hm] at hsg
    have hgm:m[k-hd.length]?=some m[k-hd.length]:=List.getElem?_eq_getElem hm
    have hgw:w[k-hd.length]?=some (w[k-hd.length]'(by omega)):=List.getElem?_eq_getElem (by omega)
    by_cases h49:m[k-hd.length]=49
    ·have hx:z3S c (k-hd.length)=w[k-hd.length]'(by omega):=by unfold z3S;rw[hcm,hgm,h49,if_pos rfl,hcw,hgw];rfl
     rw[hx] at hsg
     by_cases hl1:k=al.length-1
     ·have hl2:((k:Int)=((al.length-1:Nat):Int))=True:=eq_true (by omega)
      have hcl1:=fun K'=>hcl 49 (w[k-hd.length]'(by omega)) K'
      rw[if_pos hl1] at hsg
      rw[e49] at hcl1
      simp only[go_sem,hlt,hlt',hg,w3,w4,w5,z0,hm,hm',hgm,hgw,h49,e49,hl2,hcl1]
      exact⟨k+1,by rw[hstep _ _ hsg],by omega,by omega⟩
     ·have hl2:((k:Int)=((al.length-1:Nat):Int))=False:=eq_false (by omega)
      have hcl1:=fun K'=>hcl 48 (w[k-hd.length]'(by omega)) K'
      rw[if_neg hl1] at hsg
      rw[e48] at hcl1
      simp only[go_sem,hlt,hlt',hg,w3,w4,w5,z0,hm,hm',hgm,hgw,h49,e49,hl2,hcl1]
      exact⟨k+1,by rw[hstep _ _ hsg],by omega,by omega⟩
    ·have hx:z3S c (k-hd.length)=120:=by unfold z3S;rw[hcm,hgm,if_neg (fun e=>h49 (Option.some.inj e))]
     rw[hx] at hsg
     have h49':¬ ((m[k-hd.length].toNat:Int)=49):=fun e=>h49 (UInt8.toNat_inj.1 (by rw[show (49:UInt8).toNat=49 from rfl];omega))
     by_cases hl1:k=al.length-1
     ·have hl2:((k:Int)=((al.length-1:Nat):Int))=True:=eq_true (by omega)
      have hcl1:=fun K'=>hcl 49 120 K'
      rw[if_pos hl1] at hsg
      rw[e49] at hcl1
      rw[e120] at hcl1
      simp only[go_sem,hlt,hlt',hg,w3,w4,w5,z0,hm,hm',hgm,h49',hl2,hcl1]
      exact⟨k+1,by rw[hstep _ _ hsg],by omega,by omega⟩
     ·have hl2:((k:Int)=((al.length-1:Nat):Int))=False:=eq_false (by omega)
      have hcl1:=fun K'=>hcl 48 120 K'
      rw[if_neg hl1] at hsg
      rw[e48] at hcl1
      rw[e120] at hcl1
      simp only[go_sem,hlt,hlt',hg,w3,w4,w5,z0,hm,hm',hgm,h49',hl2,hcl1]
      exact⟨k+1,by rw[hstep _ _ hsg],by omega,by omega⟩
   ·have hm':¬ ((k-hd.length:Nat):Int)<(m.length:Int):=by omega
    rw[hcm,if_neg hm] at hsg
    by_cases hl1:k=al.length-1
    ·have hl2:((k:Int)=((al.length-1:Nat):Int))=True:=eq_true (by omega)
     have hcl1:=fun K'=>hcl 49 120 K'
     rw[if_pos hl1] at hsg
     rw[e49] at hcl1
     rw[e120] at hcl1
     simp only[go_sem,hlt,hlt',hg,w3,w4,w5,z0,hm,hm',hl2,hcl1]
     exact⟨k+1,by rw[hstep _ _ hsg],by omega,by omega⟩
    ·have hl2:((k:Int)=((al.length-1:Nat):Int))=False:=eq_false (by omega)
     have hcl1:=fun K'=>hcl 48 120 K'
     rw[if_neg hl1] at hsg
     rw[e48] at hcl1
     rw[e120] at hcl1
     simp only[go_sem,hlt,hlt',hg,w3,w4,w5,z0,hm,hm',hl2,hcl1]
     exact⟨k+1,by rw[hstep _ _ hsg],by omega,by omega⟩
  ·have w5:IntKind.i64.wrap ((k:Int)-(hd.length:Int))=(k:Int)-(hd.length:Int):=z0j _ (by omega) (by omega)
   have z0:¬ (0:Int)≤(k:Int)-(hd.length:Int):=by omega
   rw[if_neg hk0] at hsg
   by_cases hl1:k=al.length-1
   ·have hl2:((k:Int)=((al.length-1:Nat):Int))=True:=eq_true (by omega)
    have hcl1:=fun K'=>hcl 49 120 K'
    rw[if_pos hl1] at hsg
    rw[e49] at hcl1
    rw[e120] at hcl1
    simp only[go_sem,hlt,hlt',hg,w3,w4,w5,z0,hl2,hcl1]
    exact⟨k+1,by rw[hstep _ _ hsg],by omega,by omega⟩
   ·have hl2:((k:Int)=((al.length-1:Nat):Int))=False:=eq_false (by omega)
    have hcl1:=fun K'=>hcl 48 120 K'
    rw[if_neg hl1] at hsg
    rw[e48] at hcl1
    rw[e120] at hcl1
    simp only[go_sem,hlt,hlt',hg,w3,w4,w5,z0,hl2,hcl1]
    exact⟨k+1,by rw[hstep _ _ hsg],by omega,by omega⟩
 ·obtain rfl:k=al.length:=by omega
  have e1:(z0S c hd al).take al.length=z0S c hd al:=by rw[← hlen];exact List.take_length
  rw[e1] at R3 c3
  simp only[go_sem,Nat.lt_irrefl,Int.lt_irrefl,e1]
  generalize r2.clk (z0S c hd al)=r3 at R3 c3 ⊢
  have hw2:=fun (l:Heap) (K':Post)=>zbS (h:=h) (l:=l) (K:=K') (r:={ r3 with st:=5 }) ⟨R3.t,R3.i,R3.w⟩ c3 (show 5∈frS by decide) (z2h n1)
  have hp:=fun l=>zfD (h:=h) (l:=l) (r:=r3) (s:=r3.se) (x:=5) (y:=r3.ni) (z:=r3.nd)
  simp only[show ((5:Nat):Int)=5 from rfl] at hp
  simp only[go_sem,hp,hw2]
end Go.Am
end
section
/- The program: a step. -/
open Go
set_option linter.all false
namespace Go.Am
variable {h l l2:Heap} {K:Post} {r:Run} {n:Nat} {o:Obj} {x:Esc}
attribute [-go_sem] oEqa splice z4y
attribute [local go_sem] zi7 zi6 rc_1 rc_7 zu4 zu5 zu6 zu7 zrB zgJ zrC zrD zrE zrF zrG zrH zrI zu8 zi8 zi9 ziA ziB ziC ziD ziE ziF ziG
section
variable {s:Sett} {st ck ni nd:Int} {a b c d e:AV} {w:Bool} {q1 q2 q3:Int} {q4 q5 q6:List UInt8}
theorem rct_0:splice (rc s st ck ni nd a b c d e w) 0 [AI q1,AI q2,AI q3,AS q4,AS q5,AS q6]=rc { s with e1:=⟨q1,q2,q3,q4,q5,q6⟩ } st ck ni nd a b c d e w:=(rfl)
theorem rct_6:splice (rc s st ck ni nd a b c d e w) 6 [AI q1,AI q2,AI q3,AS q4,AS q5,AS q6]=rc { s with e2:=⟨q1,q2,q3,q4,q5,q6⟩ } st ck ni nd a b c d e w:=(rfl)
theorem rct_12:splice (rc s st ck ni nd a b c d e w) 12 [AI q1,AI q2,AI q3,AS q4,AS q5,AS q6]=rc { s with h1:=⟨q1,q2,q3,q4,q5,q6⟩ } st ck ni nd a b c d e w:=(rfl)
theorem rct_18:splice (rc s st ck ni nd a b c d e w) 18 [AI q1,AI q2,AI q3,AS q4,AS q5,AS q6]=rc { s with t1:=⟨q1,q2,q3,q4,q5,q6⟩ } st ck ni nd a b c d e w:=(rfl)
theorem rct_24:splice (rc s st ck ni nd a b c d e w) 24 [AI q1,AI q2,AI q3,AS q4,AS q5,AS q6]=rc { s with h2:=⟨q1,q2,q3,q4,q5,q6⟩ } st ck ni nd a b c d e w:=(rfl)
theorem rct_30:splice (rc s st ck ni nd a b c d e w) 30 [AI q1,AI q2,AI q3,AS q4,AS q5,AS q6]=rc { s with t2:=⟨q1,q2,q3,q4,q5,q6⟩ } st ck ni nd a b c d e w:=(rfl)
end
attribute [local go_sem] rct_0 rct_6 rct_12 rct_18 rct_24 rct_30
def ofsK (k:Int):Nat:=if k=1 then 0 else if k=2 then 6 else if k=3 then 12 else if k=4 then 18 else if k=5 then 24 else 30
theorem s_ofK {id:Nat} (hid:id<h.length) (k:Int):z0c X zby [.ref id 0,AI k] h K=K (.ref id (ofsK k)) h []:=by
 refine rule ?_
 rw[c_q06o rfl]
 have e1:max h.length (id+1)=h.length:=by omega
 have e2:id+1≤h.length:=by omega
 unfold ofsK
 by_cases h1:k=1
 ·simp only[z7N,go_sem,h1,e1,e2]
 by_cases h2:k=2
 ·simp only[z7N,go_sem,h1,h2,e1,e2]
 by_cases h3:k=3
 ·simp only[z7N,go_sem,h1,h2,h3,e1,e2]
 by_cases h4:k=4
 ·simp only[z7N,go_sem,h1,h2,h3,h4,e1,e2]
 by_cases h5:k=5
 ·simp only[z7N,go_sem,h1,h2,h3,h4,h5,e1,e2]
 simp only[z7N,go_sem,h1,h2,h3,h4,h5,e1,e2]
set_option maxHeartbeats 2000000 in
theorem z6e {Kx:Ex→St→Prop} (hs:r.sts.length≤100000) (hf:r.frs.length≤100000) (f:Nat):z4y (z0c X) X.gl (.ref (h.length+5) 0) (AI f) (rh h r l) x Kx=Kx .normal ⟨[],rh h { r with sts:=r.sts++[r.st],frs:=r.frs++[f] } l,x⟩:=by
 obtain⟨se,st,ck,ni,nd,sts,frs,tms,tdi,want,wr⟩:=r
 dsimp only at *
 unfold rh
 have m1:sts.length+1≤z0J:=by unfold z0J;omega
 have m2:frs.length+1≤z0J:=by unfold z0J;omega
 have e2:∀ k n o m,k<5→z2J (h.length+5) (.own (h.length+k) n o m)=[]:=fun k n o m hk=>by unfold z2J;rw[zgX,if_neg (by omega)]
 have e3:=fun n o m=>e2 0 n o m (by decide)
 have e4:=fun n o m=>e2 1 n o m (by decide)
 simp only[Nat.add_zero] at e3
 simp only[z4y,go_sem,m1,m2,e3,e4,List.length_map]
 simp
attribute [local go_sem] zbD zfC zbC zbE z71 z7d zbB zfD
theorem ziT (c:Cmd):(r.scn z0f c).sts=r.sts∧(r.scn z0f c).frs=r.frs∧(r.scn z0f c).se=r.se:=by
 unfold Run.scn
 by_cases h7:c.k=7
 ·simp only[h7,if_true]
  obtain⟨a1,a2,a3,a4,_⟩:=z08 z0f ({ Run.clk { r.go z0f 11 with ni:=(r.go z0f 11).ni+(r.se.h1.b++c.b++r.se.t1.b).length } (z0S c r.se.h1.b (r.se.h1.b++c.b++r.se.t1.b)) with st:=12 }) r.se.e1.s.toNat
  obtain⟨b1,b2,b3,b4,_⟩:=z2c { r.go z0f 11 with ni:=(r.go z0f 11).ni+(r.se.h1.b++c.b++r.se.t1.b).length } (z0S c r.se.h1.b (r.se.h1.b++c.b++r.se.t1.b))
  obtain⟨d1,d2,d3,d4,_⟩:=z08 z0f r 11
  exact⟨a3.trans (b3.trans d3),a4.trans (b4.trans d4),a1.trans (b1.trans d1)⟩
 ·simp only[h7,if_false]
  obtain⟨a1,a2,a3,a4,_⟩:=z08 z0f ({ Run.clk { r.go z0f 4 with nd:=(r.go z0f 4).nd+(r.se.h2.b++c.b++r.se.t2.b).length } (z0S c r.se.h2.b (r.se.h2.b++c.b++r.se.t2.b)) with st:=5 }) r.se.e2.s.toNat
  obtain⟨b1,b2,b3,b4,_⟩:=z2c { r.go z0f 4 with nd:=(r.go z0f 4).nd+(r.se.h2.b++c.b++r.se.t2.b).length } (z0S c r.se.h2.b (r.se.h2.b++c.b++r.se.t2.b))
  obtain⟨d1,d2,d3,d4,_⟩:=z08 z0f r 4
  exact⟨a3.trans (b3.trans d3),a4.trans (b4.trans d4),a1.trans (b1.trans d1)⟩
set_option maxHeartbeats 4000000 in
theorem s_step (R:RunOk r) (N:RunN r) (hck:r.ck≤700000000) (hst:r.st∈stb) (S:SetR r.se) (hl1:r.sts.length≤100000) (hl2:r.frs.length≤100000) (c:Cmd) (hc:cmdF c=0) :
 z0c X zbw [.ref (h.length+5) 0,ACm c] (rh h r l) K=K (.tup []) (rh h (r.step z0f c) l) []:=by
 refine rule ?_
 rw[c_q06l rfl]
 have e0:(AI ((0:Nat):Int))=AI 0:=rfl
 have setf:∀ h1:1≤c.k∧c.k≤6,z3k (z0c X) X.gl z29 z4N (.ref (h.length+5) 0) (ACm c) (rh h r l) [] (finR [] false (rh h r l).length fun v1 h1 x1=>v1 = .tup []∧h1=rh h (r.step z0f c) l∧x1=[]):=by
  intro h1
  rw[z5u z0f h1]
  have k2:=fun (l:Heap) (x:Esc) (Kx:Ex→St→Prop)=>z6e (h:=h) (l:=l) (x:=x) (Kx:=Kx) (r:={ r with se:=r.se.put c }) hl1 hl2 0
  rw[e0] at k2
  have ho:=fun (l:Heap) (k:Int) (K':Post)=>s_ofK (h:=rh h r l) (K:=K') (id:=h.length+5) (by rw[zbD];omega) k
  obtain⟨k,s,cl,b,w,m⟩:=c
  dsimp only at h1
  have:k=1∨k=2∨k=3∨k=4∨k=5∨k=6:=by omega
  rcases this with rfl | rfl | rfl | rfl | rfl | rfl
  ·have ep:r.se.put ⟨1,s,cl,b,w,m⟩={ r.se with e1:=⟨1,s,cl,b,w,m⟩ }:=rfl
   rw[ep]
   simp only[ep] at k2
   simp only[z3k,go_sem,z1m,ho,ofsK,k2]
  ·have ep:r.se.put ⟨2,s,cl,b,w,m⟩={ r.se with e2:=⟨2,s,cl,b,w,m⟩ }:=rfl
   rw[ep]
   simp only[ep] at k2
   simp only[z3k,go_sem,z1m,ho,ofsK,k2]
  ·have ep:r.se.put ⟨3,s,cl,b,w,m⟩={ r.se with h1:=⟨3,s,cl,b,w,m⟩ }:=rfl
   rw[ep]
   simp only[ep] at k2
   simp only[z3k,go_sem,z1m,ho,ofsK,k2]
  ·have ep:r.se.put ⟨4,s,cl,b,w,m⟩={ r.se with t1:=⟨4,s,cl,b,w,m⟩ }:=rfl
   rw[ep]
   simp only[ep] at k2
   simp only[z3k,go_sem,z1m,ho,ofsK,k2]
  ·have ep:r.se.put ⟨5,s,cl,b,w,m⟩={ r.se with h2:=⟨5,s,cl,b,w,m⟩ }:=rfl
   rw[ep]
   simp only[ep] at k2
   simp only[z3k,go_sem,z1m,ho,ofsK,k2]
  ·have ep:r.se.put ⟨6,s,cl,b,w,m⟩={ r.se with t2:=⟨6,s,cl,b,w,m⟩ }:=rfl
   rw[ep]
   simp only[ep] at k2
   simp only[z3k,go_sem,z1m,ho,ofsK,k2]
 cases z1e hc with
 | set h hs e=>exact setf (by omega)
 | pad h0 h1 hb hl e=>exact setf ⟨by omega,h1⟩
 | go hk hs e=>
  rw[zcV z0f hk]
  obtain⟨g1,g2,g3,g4,g5,g6,_,_⟩:=z08 z0f r c.s.toNat
  obtain⟨n1,n2⟩:=z03 hs
  have k2:=fun (l:Heap) (x:Esc) (Kx:Ex→St→Prop)=>z6e (h:=h) (l:=l) (x:=x) (Kx:=Kx) (r:=r.go z0f c.s.toNat) (by rw[g3];exact hl1) (by rw[g4];exact hl2) 0
  rw[e0] at k2
  have hw:=fun (l:Heap) (K':Post)=>zbS (h:=h) (l:=l) (K:=K') R (by omega) (z1t hst) (z2h n1)
  obtain⟨k,s,cl,b,w,m⟩:=c
  dsimp only at hk n2 hw k2 ⊢
  subst hk
  rw[n2] at hw
  simp only[z3k,go_sem,z1m,z2a,hw,k2]
 | idle hk h0 h1 e=>
  rw[z4X z0f hk]
  obtain⟨g1,g2,g3,g4,g5,g6,_,_⟩:=z08 z0f r 1
  have hw:=fun (l:Heap) (K':Post)=>zbS (h:=h) (l:=l) (K:=K') R (by omega) (z1t hst) (show 1∈toS by decide)
  have R1:=z3Y (tov:=1) R
  have c1:(r.go z0f 1).ck≤700000008:=by have:=(z02 (z1t hst) (show 1∈toS by decide)).2.1;rw[zgA];omega
  simp only[show ((1:Nat):Int)=1 from rfl] at hw
  obtain⟨k,s,cl,b,w,m⟩:=c
  dsimp only at hk h0 h1 ⊢
  subst hk
  obtain⟨n,rfl⟩:∃ n:Nat,cl=n:=⟨cl.toNat,by omega⟩
  simp only[Int.toNat_natCast]
  generalize r.go z0f 1=r1 at *
  simp only[z3k,go_sem,z1m,z2a,hw]
  refine z0T (fun k:Nat=>⟨[(0,.ref (h.length+5) 0),(4,AI 0),(35,AI n),(36,AI k)],rh h (r1.clk (List.replicate k (48,48,120))) (l++[.box [AI 9,AI s,AI n,AS b,AS w,AS m]]),[]⟩) (fun k=>k≤n) (fun k=>n-k) 0 (by rw[List.replicate_zero,zck];rfl) (by omega) ?_
  intro k hk
  have R2:=z2C (L:=List.replicate k (48,48,120)) R1
  rcases Nat.lt_or_ge k n with hlt | hge
  ·have w2:IntKind.i64.wrap ((k:Int)+1)=((k+1:Nat):Int):=z0j _ (by omega) (by omega)
   have hc:=fun (l:Heap) (K':Post)=>zcN (h:=h) (l:=l) (K:=K') R2 (by rw[zdG,List.length_replicate];omega) 48 48 120
   simp only[show (((48:UInt8).toNat:Nat):Int)=48 from rfl,show (((120:UInt8).toNat:Nat):Int)=120 from rfl] at hc
   simp only[go_sem,hlt,w2,hc]
   exact⟨k+1,by rw[z8p,← List.replicate_succ'],by omega,by omega⟩
  ·obtain rfl:k=n:=by omega
   have q:=z2c r1 (List.replicate k (48,48,120))
   have k2:=fun (l:Heap) (x:Esc) (Kx:Ex→St→Prop)=>z6e (h:=h) (l:=l) (x:=x) (Kx:=Kx) (r:=r1.clk (List.replicate k (48,48,120))) (by rw[q.2.2.1,g3];exact hl1) (by rw[q.2.2.2.1,g4];exact hl2) 0
   rw[e0] at k2
   simp only[go_sem,Nat.lt_irrefl,k2]
 | scan hk hs e=>
  rw[z4Y z0f hk]
  obtain⟨g3,g4,_⟩:=ziT (r:=r) c
  have k2:=fun (l:Heap) (x:Esc) (Kx:Ex→St→Prop)=>z6e (h:=h) (l:=l) (x:=x) (Kx:=Kx) (r:=r.scn z0f c) (by rw[g3];exact hl1) (by rw[g4];exact hl2) (r.scnF z0f c)
  have hscan:∀ (l:Heap) (K':Post),z0c X z8e [.ref (h.length+5) 0,ACm c] (rh h r l) K'=K' (AI (r.scnF z0f c:Nat)) (rh h (r.scn z0f c) l) []:=fun l K'=>by
   rcases hk with h7 | h8
   ·exact zva R N (by omega) hst S c h7 hs
   ·exact zuY R N (by omega) hst S c h8 hs
  have f1:¬ c.k≤6:=by omega
  have f2:1≤c.k:=by omega
  have f3:(decide (c.k=7)||decide (c.k=8))=true:=by simpa using hk
  generalize r.scn z0f c=r9 at k2 hscan ⊢
  generalize r.scnF z0f c=f9 at k2 hscan ⊢
  simp only[z3k,go_sem,z1m,z2a,f1,f2,f3,hscan,k2]
end Go.Am
end
section
/- A command's fault,the reference. -/
open Go
set_option linter.all false
namespace Go.Am
variable {h:Heap} {K:Post} {Kx:Ex→St→Prop} {q q2:ACode} {k s cl k' s' cl' v9:Int} {b w m b' w' m':List UInt8} {x:Esc}
theorem eqa6 {k s cl k' s' cl':Int} {b w m b' w' m':List UInt8}:oEqa [0,0,0,2,2,2] true (.p (.agg [.int .i64 k,.int .i64 s,.int .i64 cl,.str b,.str w,.str m])) (.p (.agg [.int .i64 k',.int .i64 s',.int .i64 cl',.str b',.str w',.str m']))=some (AB (!decide ((⟨k,s,cl,b,w,m⟩:Cmd)=⟨k',s',cl',b',w',m'⟩))):=by
 unfold oEqa
 dsimp only
 rw[if_pos ⟨rfl,rfl,by simp⟩,eqs6]
 rfl
attribute [-go_sem] oEqa z2v z11 z0Q z3h
abbrev cfH (h:Heap) (k s cl:Int) (b w m:List UInt8) (k' s' cl':Int) (b' w' m':List UInt8):Heap:=h++[.box [AI k,AI s,AI cl,AS b,AS w,AS m],.box [AI k',AI s',AI cl',AS b',AS w',AS m']]
theorem z7r:z3h (z0c X) X.gl (.ref h.length 0) (.ref (h.length+1) 0) (cfH h k s cl b w m k' s' cl' b' w' m') x Kx=Kx .ret ⟨[(2,AI (if (⟨k,s,cl,b,w,m⟩:Cmd)=⟨k',s',cl',b',w',m'⟩ then 0 else 3:Nat))],cfH h k s cl b w m k' s' cl' b' w' m',x⟩:=by
 by_cases he:(⟨k,s,cl,b,w,m⟩:Cmd)=⟨k',s',cl',b',w',m'⟩
 ·simp only[z3h,go_sem,eqa6,he]
 ·simp only[z3h,go_sem,eqa6,he]
theorem zx4:z0Q (z0c X) X.gl q2 (.ref h.length 0) (.ref (h.length+1) 0) (AI v9) (AB true) (cfH h k s cl b w m k 0 0 [] [] []) [] Kx =
 if z07 s=true then Kx .normal ⟨[(1,.ref h.length 0),(3,.ref (h.length+1) 0),(20,AB false)],cfH h k s cl b w m k s 0 [] [] [],[]⟩ else Kx .ret ⟨[(2,AI 1)],cfH h k s cl b w m k s 0 [] [] [],[]⟩:=by
 rcases hs:z07 s with _ | _
 ·simp only[z0Q,go_sem,zfO,hs,splice]
 ·simp only[z0Q,go_sem,zfO,hs,splice]
theorem zto (hb:b.length≤100000):z11 (z0c X) X.gl q (.ref h.length 0) (.ref (h.length+1) 0) (AI v9) (AB true) (cfH h k s cl b w m k 0 0 [] [] []) [] Kx =
 if z0V b=true then (if 2000<b.length then Kx .ret ⟨[(2,AI 2)],cfH h k s cl b w m k 0 0 b [] [],[]⟩ else Kx .normal ⟨[(1,.ref h.length 0),(3,.ref (h.length+1) 0),(43,AB false)],cfH h k s cl b w m k 0 0 b [] [],[]⟩) else Kx .ret ⟨[(2,AI 9)],cfH h k s cl b w m k 0 0 b [] [],[]⟩:=by
 have k1:=fun (h':Heap) (K':Post)=>zcK (h:=h') (K:=K') b (by omega)
 rcases hs:z0V b with _ | _
 ·simp only[z11,go_sem,k1,hs,splice]
 ·by_cases g1:2000<b.length
  ·have g2:(2000:Int)<(b.length:Int):=by omega
   simp only[z11,go_sem,k1,hs,g1,g2,splice]
  ·have g2:¬ (2000:Int)<(b.length:Int):=by omega
   simp only[z11,go_sem,k1,hs,g1,g2,splice]
theorem cf_k1 (hc:CmdOk ⟨k,s,cl,b,w,m⟩):z2v (z0c X) X.gl (.ref h.length 0) (.ref (h.length+1) 0) (AB true) (cfH h k s cl b w m k 0 0 [] [] []) [] Kx =
 if z2K ⟨k,s,cl,b,w,m⟩=0 then Kx .normal ⟨[(1,.ref h.length 0),(3,.ref (h.length+1) 0),(4,AI 0),(63,AB false)],cfH h k s cl b w m k 0 0 b w m,[]⟩ else Kx .ret ⟨[(2,AI (z2K ⟨k,s,cl,b,w,m⟩:Nat))],cfH h k s cl b w m k 0 0 b w m,[]⟩:=by
 have k2:=fun (h':Heap) (K':Post)=>zuZ (h:=h') (K:=K') ⟨k,s,cl,b,w,m⟩ hc
 by_cases g1:z2K ⟨k,s,cl,b,w,m⟩=0
 ·simp only[z2v,go_sem,k2,g1,splice]
 ·have g2:¬ ((z2K ⟨k,s,cl,b,w,m⟩:Nat):Int)=0:=by omega
  simp only[z2v,go_sem,k2,g1,g2,splice]
set_option maxHeartbeats 4000000 in
theorem zaz (c:Cmd) (hc:CmdOk c):z0c X zba [ACm c] h K=K (AI (cmdF c:Nat)) h []:=by
 refine rule ?_
 rw[c_q03d rfl]
 have b1:=hc.b
 obtain⟨k,s,cl,b,w,m⟩:=c
 simp only at b1
 have st:∀ k,(k=1∨k=2∨k=10)→cmdF ⟨k,s,cl,b,w,m⟩=if z07 s=true then (if (⟨k,s,cl,b,w,m⟩:Cmd)=⟨k,s,0,[],[],[]⟩ then 0 else 3) else 1:=fun k hk=>by
  unfold cmdF;dsimp only;rw[if_pos hk];cases z07 s <;> simp
 have sc:∀ k,(k=7∨k=8)→cmdF ⟨k,s,cl,b,w,m⟩=if z2K ⟨k,s,cl,b,w,m⟩=0 then (if (⟨k,s,cl,b,w,m⟩:Cmd)=⟨k,0,0,b,w,m⟩ then 0 else 3) else z2K ⟨k,s,cl,b,w,m⟩:=fun k hk=>by
  unfold cmdF;dsimp only;rw[if_neg (by omega),if_neg (by omega),if_pos hk];split <;> simp_all
 have pd:∀ k,3≤k∧k≤6→cmdF ⟨k,s,cl,b,w,m⟩=if z0V b=true then (if 2000<b.length then 2 else if (⟨k,s,cl,b,w,m⟩:Cmd)=⟨k,0,0,b,[],[]⟩ then 0 else 3) else 9:=fun k hk=>by
  unfold cmdF;dsimp only;rw[if_neg (by omega),if_neg (by omega),if_neg (by omega),if_pos hk];cases z0V b <;> simp
 by_cases h1:k=1
 ·subst h1
  rw[st 1 (by omega)]
  simp only[z2l,go_sem,zx4,z7r,splice]
  split <;> simp only[go_sem,z7r] <;> rfl
 by_cases h2:k=2
 ·subst h2
  rw[st 2 (by omega)]
  simp only[z2l,go_sem,zx4,z7r,splice]
  split <;> simp only[go_sem,z7r] <;> rfl
 by_cases h10:k=10
 ·subst h10
  rw[st 10 (by omega)]
  simp only[z2l,go_sem,zx4,z7r,splice]
  split <;> simp only[go_sem,z7r] <;> rfl
 by_cases h9:k=9
 ·subst h9
  by_cases g1:0≤cl
  ·by_cases g2:cl≤20000
   ·have g3:¬ (cl<0∨20000<cl):=by omega
    rw[show cmdF ⟨9,s,cl,b,w,m⟩=if (⟨9,s,cl,b,w,m⟩:Cmd)=⟨9,0,cl,[],[],[]⟩ then 0 else 3 by simp only[cmdF,g3];simp]
    simp only[z2l,z0Q,go_sem,s_in,g1,g2,z7r,splice]
   ·have g3:cl<0∨20000<cl:=by omega
    rw[show cmdF ⟨9,s,cl,b,w,m⟩=1 by simp [cmdF,g3]]
    simp only[z2l,z0Q,go_sem,s_in,g1,g2,splice]
  ·have g3:cl<0∨20000<cl:=by omega
   rw[show cmdF ⟨9,s,cl,b,w,m⟩=1 by simp [cmdF,g3]]
   simp only[z2l,z0Q,go_sem,s_in,g1,splice]
 by_cases h3:k=3
 ·subst h3
  rw[pd 3 (by omega)]
  simp only[z2l,z0Q,go_sem,zto (show b.length≤100000 by omega),splice]
  split
  ·split <;> simp only[go_sem,z7r] <;> rfl
  ·simp only[go_sem] <;> rfl
 by_cases h4:k=4
 ·subst h4
  rw[pd 4 (by omega)]
  simp only[z2l,z0Q,go_sem,zto (show b.length≤100000 by omega),splice]
  split
  ·split <;> simp only[go_sem,z7r] <;> rfl
  ·simp only[go_sem] <;> rfl
 by_cases h5:k=5
 ·subst h5
  rw[pd 5 (by omega)]
  simp only[z2l,z0Q,go_sem,zto (show b.length≤100000 by omega),splice]
  split
  ·split <;> simp only[go_sem,z7r] <;> rfl
  ·simp only[go_sem] <;> rfl
 by_cases h6:k=6
 ·subst h6
  rw[pd 6 (by omega)]
  simp only[z2l,z0Q,go_sem,zto (show b.length≤100000 by omega),splice]
  split
  ·split <;> simp only[go_sem,z7r] <;> rfl
  ·simp only[go_sem] <;> rfl
 by_cases h7:k=7
 ·subst h7
  rw[sc 7 (by omega)]
  simp only[z2l,z0Q,z11,go_sem,cf_k1 hc,splice]
  split <;> simp only[go_sem,z7r] <;> rfl
 by_cases h8:k=8
 ·subst h8
  rw[sc 8 (by omega)]
  simp only[z2l,z0Q,z11,go_sem,cf_k1 hc,splice]
  split <;> simp only[go_sem,z7r] <;> rfl
 rw[show cmdF ⟨k,s,cl,b,w,m⟩=4 from zdI (by dsimp only;omega)]
 simp only[z2l,z0Q,z11,z2v,go_sem,h1,h2,h3,h4,h5,h6,h7,h8,h9,h10,splice]
end Go.Am
end
section
/- Sorting the middle of a row: printed by program. -/
open Go
set_option linter.unusedSimpArgs false
namespace Go.Am
attribute [-go_sem] PV.cells splice
variable {h:Heap} {K:Post}
end Go.Am
end
section
/- What is drawn: orders,tests. -/
open Go
set_option linter.all false
namespace Go.Am
variable {L:List Int} {a:Int} {h l:Heap} {id:Nat} {K:Post}
def GenK (f:Nat) (args:List AV) (L:List Int) (a:Int) (sh:Sh) (Q:List PV→Int→Prop):Prop:=∀ (h:Heap) (id:Nat),h[id]?=some (strm L a)→∃ xs a2,Q xs a2∧∀ K:Post,z0c X f (.ref id 0::args) h K=K (.own h.length xs.length 0 xs.length) (h.set id (strm L a2)++[.row sh xs 0]) []
theorem GenK.of {f:Nat} {args:List AV} {L:List Int} {a:Int} {sh:Sh} {Q:List PV→Int→Prop} (H:∀ (h:Heap) (id:Nat),id<h.length→z0c X f (.ref id 0::args) (h.set id (strm L a)) fun v1 h1 x1=>∃ xs a2,Q xs a2∧v1 = .own h.length xs.length 0 xs.length∧h1=h.set id (strm L a2)++[.row sh xs 0]∧x1=[]):GenK f args L a sh Q:=by
 intro h id hh
 have hid:=z6o hh
 have k:=H h id hid
 rw[zvg hh] at k
 obtain⟨v,h',x,⟨xs,a2,q,e0,e1,e2⟩,r⟩:=z0c.one zhc k
 subst e0;subst e1;subst e2
 exact⟨xs,a2,q,r⟩
theorem zcM (s:List UInt8) (c:Int) (h0:0≤c) (hc:s.length*c.toNat≤1000000) (h1:c≤1000000):z0c X z1q [AS s,AI c] h K=K (AS (repL s c.toNat)) h []:=by
 refine z3U (X:=X) (by kernel_rfl) ?_
 rw[zgq]
 exact z3o (vs:=[.str s,.int .i64 c]) (by kernel_rfl) (s:=z9Y) (by kernel_rfl) rfl (by simp only[z9Y];rw[if_pos ⟨h0,hc,h1⟩])
end Go.Am
end
section
/- The reference: what is expected,the part of a command. -/
open Go
set_option linter.all false
namespace Go.Am
variable {h:Heap} {K:Post}
theorem ziJ (c:UInt8):∀ n,repL [c] n=List.replicate n c
 | 0=>rfl
 | n+1=>by rw[repL,ziJ c n];rfl
theorem zsi (n:Int) (h0:0≤n) (h1:n≤1000000):z0c X z1q [AS [120],AI n] h K=K (AS (xsL n.toNat)) h []:=by
 rw[zcM [120] n h0 (by simp;omega) h1,ziJ];rfl
theorem zbO (n:Int) (h0:0≤n) (h1:n≤1000000):z0c X z1q [AS [48],AI n] h K=K (AS (zs n.toNat)) h []:=by
 rw[zcM [48] n h0 (by simp;omega) h1,ziJ];rfl
def expI (c:Cmd) (i:Nat):List UInt8:=(List.range c.b.length).map fun j=>if j<i then z3S c j else 120
theorem expI_0 (c:Cmd):expI c 0=xsL c.b.length:=by
 unfold expI xsL
 apply List.ext_getElem
 ·simp
 ·intro i h1 h2;simp
theorem zcu (c:Cmd) (i:Nat):(expI c i).length=c.b.length:=by simp [expI]
theorem zct (c:Cmd):expI c c.m.length=expC c:=by
 unfold expI expC
 apply List.map_congr_left
 intro j _
 split
 ·rfl
 ·rename_i h
  unfold z3S
  rw[List.getElem?_eq_none (by omega)];rfl
theorem zqd (c:Cmd) (i:Nat) (hi:i<c.b.length):expI c (i+1)=(expI c i).set i (z3S c i):=by
 apply List.ext_getElem
 ·simp [expI]
 ·intro j h1 h2
  simp only[expI,List.length_map,List.length_range] at h1
  rw[List.getElem_set]
  simp only[expI,List.getElem_map,List.getElem_range]
  by_cases hj:i=j
  ·subst hj;simp
  ·rw[if_neg hj]
   by_cases h3:j<i
   ·rw[if_pos h3,if_pos (by omega)]
   ·rw[if_neg h3,if_neg (by omega)]
theorem zqc (c:Cmd) (i:Nat) (hn:c.m[i]?≠some 49):expI c (i+1)=expI c i:=by
 unfold expI
 apply List.map_congr_left
 intro j _
 by_cases hj:j=i
 ·subst hj
  simp [z3S,hn]
 ·by_cases h3:j<i
  ·rw[if_pos h3,if_pos (by omega)]
  ·rw[if_neg h3,if_neg (by omega)]
theorem zkm (c:Cmd) (hl:c.b.length≤100000) (hm:c.m.length≤c.b.length) (hw:c.m.length≤c.w.length):z0c X zbd [ACm c] h K=K (AS (expC c)) h []:=by
 refine rule ?_
 rw[c_q03h rfl]
 have hmx:c.b.length≤z0J:=by unfold z0J;omega
 have hx:(xsL c.b.length).length=c.b.length:=by simp [xsL]
 have r1:=fun (h':Heap) (K':Post)=>zsi (h:=h') (K:=K') (c.b.length:Int) (by omega) (by omega)
 simp only[Int.toNat_natCast] at r1
 simp only[zhB,go_sem,r1,hx,hmx]
 refine z0T (fun i:Nat=>⟨[(1,.ref h.length 0),(3,.own (h.length+1) c.b.length 0 c.b.length),(12,AI c.m.length),(13,AI i)],h++[.box [AI c.k,AI c.s,AI c.cl,AS c.b,AS c.w,AS c.m],.row none (z0q (expI c i)) 0],[]⟩) (fun i=>i≤c.m.length) (fun i=>c.m.length-i) 0 (by rw[expI_0];rfl) (by omega) ?_
 intro i hi
 have hbl:(z0q (expI c i)).length=c.b.length:=by simp [z0q,zcu]
 rcases Nat.lt_or_ge i c.m.length with hlt | hge
 ·have hlt':(i:Int)<(c.m.length:Int):=by omega
  have hg:c.m[i]?=some c.m[i]:=List.getElem?_eq_getElem hlt
  have hgw:c.w[i]?=some (c.w[i]'(by omega)):=List.getElem?_eq_getElem (by omega)
  have w2:IntKind.i64.wrap ((i:Int)+1)=((i+1:Nat):Int):=z0j _ (by omega) (by omega)
  by_cases h49:c.m[i]=49
  ·have hb':i<c.b.length:=by omega
   have hgb:(z0q (expI c i))[i]?=some (.int .u8 ((expI c i)[i]'(by rw[zcu];omega)).toNat):=by
    unfold z0q;rw[List.getElem?_map,List.getElem?_eq_getElem (by rw[zcu];omega)];rfl
   have t1:=fun (y:Int) (h1:Heap)=>zsx (sh:=none) (x:=.int .u8 ((c.w[i]'(by omega)).toNat:Int)) (y:=.int .u8 y) rfl rfl (h.length+1) i 0 (z0q (expI c i)) h1
   have e49:((49:UInt8).toNat:Int)=49:=rfl
   simp only[go_sem,hlt,hlt',hg,h49,w2,hgw,hbl,hb',hgb,t1,e49]
   refine⟨i+1,?_,by omega,by omega⟩
   have e1:z3S c i=c.w[i]'(by omega):=by unfold z3S;rw[hg,h49,hgw];rfl
   have e2:z0q (expI c (i+1))=(z0q (expI c i)).set i (.int .u8 ((c.w[i]'(by omega)).toNat:Int)):=by
    rw[zqd c i hb',e1];unfold z0q;rw[List.map_set]
   rw[e2]
  ·have h49':¬ ((c.m[i].toNat:Int)=49):=fun e=>h49 (UInt8.toNat_inj.1 (by rw[show (49:UInt8).toNat=49 from rfl];omega))
   simp only[go_sem,hlt,hlt',hg,h49',w2]
   refine⟨i+1,?_,by omega,by omega⟩
   rw[zqc c i (by rw[hg];exact fun e=>h49 (Option.some.inj e))]
 ·obtain rfl:i=c.m.length:=by omega
  have hw0:win (z0q (expI c c.m.length)) 0 c.b.length=z0q (expI c c.m.length):=by
   unfold win;rw[List.drop_zero];exact List.take_of_length_le (by omega)
  have hbe:(z0q (expC c)).length=c.b.length:=by rw[← zct];exact hbl
  have hwe:win (z0q (expC c)) 0 c.b.length=z0q (expC c):=by rw[← zct];exact hw0
  simp only[go_sem,Nat.lt_irrefl,Int.lt_irrefl,hbl,hw0,z5C,zct,hbe,hwe]
abbrev z5y (p:Part):PV:=.agg [.str p.tms,.str p.tdi,.str p.want,.int .i64 (p.fr:Int),.int .i64 (p.st:Int)]
theorem zf0 (l:List Cmd) (k:Int):z2R (l.map cmdP) k=cmdP (setC l k):=by
 unfold z2R setC
 rw[← List.map_reverse,List.find?_map]
 have:((fun c=>zcl c==k) ∘ cmdP)=fun c:Cmd=>c.k==k:=rfl
 rw[this]
 cases (l.reverse.find? fun c=>c.k==k) with
 | none=>rfl
 | some c=>rfl
theorem zq1 (l:List Cmd):(l.map cmdP).all zgB=true:=by
 rw[List.all_map];exact List.all_eq_true.2 fun x _=>rfl
abbrev ACs (l:List Cmd):AV:=.p (.sl (some 6) (l.map cmdP))
theorem zai (l:List Cmd) (i:Nat) (k:Int) (hi:i≤l.length) (hl:l.length≤1000000):z0c X z7V [ACs l,AI i,AI k] h K=K (ACm (setC (l.take i) k)) h []:=by
 have e:z7k [.sl (some 6) (l.map cmdP),.int .i64 (i:Int),.int .i64 k]=some (ACm (setC (l.take i) k)):=by
  show (if 0≤(i:Int)∧(i:Int)≤((l.map cmdP).length:Int)∧(l.map cmdP).length≤1000000∧(l.map cmdP).all zgB=true then some (AV.p (z2R ((l.map cmdP).take (i:Int).toNat) k)) else none)=_
  rw[if_pos ⟨by omega,by simp;omega,by simpa using hl,zq1 l⟩,Int.toNat_natCast,← List.map_take,zf0]
 refine z3U (X:=X) (by kernel_rfl) ?_
 rw[zgq]
 exact z3o (vs:=[.sl (some 6) (l.map cmdP),.int .i64 (i:Int),.int .i64 k]) (by kernel_rfl) (s:=z7k) (by kernel_rfl) rfl e
structure SetOk (pre:List Cmd):Prop where
 s1:z07 (setC pre 1).s=true
 s2:z07 (setC pre 2).s=true
 b1:∀ k,3≤k→k≤6→z0V (setC pre k).b=true∧(setC pre k).b.length≤2000
attribute [-go_sem] oEqa z1O
variable {Kx:Ex→St→Prop}
theorem pk3 {T D W:List UInt8} {fr st:Int} {z1 z2 z3 z4 z5 c1 c2 c3 c4 c5 c6:AV} (hD:D.length≤T.length) (hW:W.length≤T.length) (hT:T.length≤1000000) :
 z1O (z0c X) X.gl (.ref h.length 0) (.ref (h.length+2) 0) (h++[.box [z1,z2,z3,z4,z5],.box [c1,c2,c3,c4,c5,c6],.box [AS T,AS D,AS W,AI fr,AI st]]) [] Kx =
  Kx .ret ⟨[(6,.ref h.length 0)],h++[.box [AS T,AS (D++zs (T.length-D.length)),AS (W++xsL (T.length-W.length)),AI fr,AI st],.box [c1,c2,c3,c4,c5,c6],.box [AS T,AS (D++zs (T.length-D.length)),AS (W++xsL (T.length-W.length)),AI fr,AI st]],[]⟩:=by
 have hz:∀ n,(zs n).length=n:=fun n=>by simp [zs]
 have hx:∀ n,(xsL n).length=n:=fun n=>by simp [xsL]
 have w3:IntKind.i64.wrap ((T.length:Int)-(D.length:Int))=((T.length-D.length:Nat):Int):=by
  rw[show (T.length:Int)-(D.length:Int)=((T.length-D.length:Nat):Int) by omega];exact z0j _ (by omega) (by omega)
 have w4:IntKind.i64.wrap ((T.length:Int)-(W.length:Int))=((T.length-W.length:Nat):Int):=by
  rw[show (T.length:Int)-(W.length:Int)=((T.length-W.length:Nat):Int) by omega];exact z0j _ (by omega) (by omega)
 have r4:=fun (h':Heap) (K':Post)=>zbO (h:=h') (K:=K') ((T.length-D.length:Nat):Int) (by omega) (by omega)
 have r5:=fun (h':Heap) (K':Post)=>zsi (h:=h') (K:=K') ((T.length-W.length:Nat):Int) (by omega) (by omega)
 simp only[Int.toNat_natCast] at r4 r5
 have lD2:D.length+(zs (T.length-D.length)).length≤z0o:=by rw[hz];unfold z0o;omega
 have lW2:W.length+(xsL (T.length-W.length)).length≤z0o:=by rw[hx];unfold z0o;omega
 generalize zs (T.length-D.length)=Z at r4 lD2 ⊢
 generalize xsL (T.length-W.length)=Z2 at r5 lW2 ⊢
 simp only[z1O,go_sem,splice,w3,w4,r4,r5,lD2,lW2]
set_option maxHeartbeats 4000000 in
theorem zuU (l:List Cmd) (i:Nat) (c:Cmd) (hi:l[i]?=some c) (h10:c.k=10) (hs:z07 c.s=true) (state:Nat) (hst:state∈stb) :
 z0c X z43 [ACs l,AI i,AI state] h K=K (.p (z5y (z0R z0f (l.take i) c state))) h []:=by
 refine rule ?_
 rw[zdB rfl]
 obtain⟨n1,n2⟩:=z03 hs
 have hg:(l.map cmdP)[i]?=some (cmdP c):=by rw[List.getElem?_map,hi];rfl
 have hilt:i<l.length:=by
  rcases Nat.lt_or_ge i l.length with h | h
  ·exact h
  ·rw[List.getElem?_eq_none h] at hi;cases hi
 rw[z9W z0f h10]
 obtain⟨k,s,cl,b,w,m⟩:=c
 dsimp only at h10 hs n1 n2 hg ⊢
 obtain⟨n,rfl⟩:∃ n:Nat,s=n:=⟨s.toNat,n2.symm⟩
 simp only[Int.toNat_natCast] at n1 ⊢
 have p1:=fun (h':Heap) (K':Post)=>zuQ (h:=h') (K:=K') (z1t hst) (z2h n1)
 have pl:=(z02 (z1t hst) (z2h n1)).2.1
 subst h10
 generalize z0f state n=w at p1 pl ⊢
 have e1:z5y ⟨w,zs w.length,xsL w.length,0,n⟩=z5y (padP ⟨w,[],[],0,n⟩):=by rw[zi1]
 rw[e1]
 unfold padP z5y
 dsimp only
 have P3:=fun (z1 z2 z3 z4 z5 c1 c2 c3 c4 c5 c6:AV) (Kx:Ex→St→Prop)=>pk3 (h:=h) (Kx:=Kx) (T:=w) (D:=[]) (W:=[]) (fr:=0) (st:=n) (z1:=z1) (z2:=z2) (z3:=z3) (z4:=z4) (z5:=z5) (c1:=c1) (c2:=c2) (c3:=c3) (c4:=c4) (c5:=c5) (c6:=c6) (Nat.zero_le _) (Nat.zero_le _) (by omega)
 simp only[z7M,go_sem,len2,hg,hilt,p1,P3]
end Go.Am
end
section
/- The reference: the part of a command that waits,or sets something. -/
open Go
set_option linter.all false
namespace Go.Am
variable {h:Heap} {K:Post}
attribute [-go_sem] oEqa z1O z2d
set_option maxHeartbeats 4000000 in
theorem zko (l:List Cmd) (i:Nat) (c:Cmd) (hi:l[i]?=some c) (h9:c.k=9) (h0:0≤c.cl) (h1:c.cl≤20000) (state:Nat) (hst:state∈stb) :
 z0c X z43 [ACs l,AI i,AI state] h K=K (.p (z5y (z0R z0f (l.take i) c state))) h []:=by
 refine rule ?_
 rw[zdB rfl]
 have hg:(l.map cmdP)[i]?=some (cmdP c):=by rw[List.getElem?_map,hi];rfl
 have hilt:i<l.length:=by
  rcases Nat.lt_or_ge i l.length with h | h
  ·exact h
  ·rw[List.getElem?_eq_none h] at hi;cases hi
 rw[z4O z0f h9]
 obtain⟨k,s,cl,b,w,m⟩:=c
 dsimp only at h9 h0 h1 hg ⊢
 obtain⟨n,rfl⟩:∃ n:Nat,cl=n:=⟨cl.toNat,by omega⟩
 simp only[Int.toNat_natCast]
 have ht:(1:Nat)∈toS:=by decide
 have p1:∀ (h':Heap) (K':Post),z0c X z2m [AI state,AI 1] h' K'=K' (AS (z0f state 1)) h' []:=fun h' K'=>zuQ (h:=h') (K:=K') (z1t hst) ht
 have pl:=(z02 (z1t hst) ht).2.1
 subst h9
 generalize z0f state 1=w1 at p1 pl ⊢
 have hz:∀ n,(zs n).length=n:=fun n=>by simp [zs]
 have r0:=fun (h':Heap) (K':Post)=>zbO (h:=h') (K:=K') (n:Int) (by omega) (by omega)
 simp only[Int.toNat_natCast] at r0
 have l0:w1.length+n≤z0o:=by simp [z0o];omega
 have l0':w1.length+(zs n).length≤z0o:=by rw[hz];exact l0
 have l3:(w1++zs n).length=w1.length+n:=by rw[List.length_append,hz]
 have P3:=fun (z1 z2 z3 z4 z5 c1 c2 c3 c4 c5 c6:AV) (Kx:Ex→St→Prop)=>pk3 (h:=h) (Kx:=Kx) (T:=w1++zs n) (D:=[]) (W:=[]) (fr:=0) (st:=1) (z1:=z1) (z2:=z2) (z3:=z3) (z4:=z4) (z5:=z5) (c1:=c1) (c2:=c2) (c3:=c3) (c4:=c4) (c5:=c5) (c6:=c6) (Nat.zero_le _) (Nat.zero_le _) (by omega)
 rw[← zgH]
 unfold padP z5y
 dsimp only
 generalize hT:w1++zs n=T at P3 ⊢
 simp only[z7M,go_sem,len2,hg,hilt,p1,r0,l0,l0',hT,P3]
end Go.Am
end
section
/- The reference: the part of a command that sets something. -/
open Go
set_option linter.all false
namespace Go.Am
variable {h:Heap} {K:Post}
attribute [-go_sem] oEqa z1O z2d
set_option maxHeartbeats 4000000 in
theorem zbR (l:List Cmd) (i:Nat) (c:Cmd) (hi:l[i]?=some c) (h6:c.k≤6) (state:Nat) :
 z0c X z43 [ACs l,AI i,AI state] h K=K (.p (z5y (z0R z0f (l.take i) c state))) h []:=by
 refine rule ?_
 rw[zdB rfl]
 have hg:(l.map cmdP)[i]?=some (cmdP c):=by rw[List.getElem?_map,hi];rfl
 have hilt:i<l.length:=by
  rcases Nat.lt_or_ge i l.length with h | h
  ·exact h
  ·rw[List.getElem?_eq_none h] at hi;cases hi
 rw[z2A z0f h6]
 obtain⟨k,s,cl,b,w,m⟩:=c
 dsimp only at h6 hg ⊢
 have k10:¬ k=10:=by omega
 have k9:¬ k=9:=by omega
 have k7:¬ k=7:=by omega
 have k8:¬ k=8:=by omega
 have P3:=fun (z1 z2 z3 z4 z5 c1 c2 c3 c4 c5 c6:AV) (Kx:Ex→St→Prop)=>pk3 (h:=h) (Kx:=Kx) (T:=[]) (D:=[]) (W:=[]) (fr:=0) (st:=state) (z1:=z1) (z2:=z2) (z3:=z3) (z4:=z4) (z5:=z5) (c1:=c1) (c2:=c2) (c3:=c3) (c4:=c4) (c5:=c5) (c6:=c6) (Nat.zero_le _) (Nat.zero_le _) (Nat.zero_le _)
 simp only[z7M,go_sem,len2,hg,hilt,k10,k9,k7,k8,P3]
 rfl
end Go.Am
end
section
/- The reference: the part of a scan. -/
open Go
set_option linter.all false
namespace Go.Am
variable {h:Heap} {K:Post} {Kx:Ex→St→Prop}
attribute [-go_sem] oEqa z1O z2d
set_option maxHeartbeats 8000000 in
theorem pk1 {z1 z2 z3 z4 z5:AV} (l:List Cmd) (i:Nat) (c:Cmd) (hi:i≤l.length) (hs:z2K c=0) (hl:l.length≤1000000) (state sh ex:Nat) (a b e:Int) (n1:z07 (setC (l.take i) e).s=true) (hst:state∈stb) (m1:sh∈toS) (m2:ex∈frS)
 (b1:(setC (l.take i) a).b.length≤2000) (b2:(setC (l.take i) b).b.length≤2000) :
 z2d (z0c X) X.gl (ACs l) (AI i) (AI state) (.ref h.length 0) (.ref (h.length+1) 0) (.ref (h.length+2) 0) (AI sh) (AI ex) (.p (.sl none [.int .i64 a,.int .i64 b,.int .i64 e]))
  (h++[.box [z1,z2,z3,z4,z5],.box [AI c.k,AI c.s,AI c.cl,AS c.b,AS c.w,AS c.m],.box [AS [],AS [],AS [],AI 0,AI state]]) [] Kx =
 Kx .normal ⟨[(6,.ref h.length 0),(8,.ref (h.length+2) 0)],h++[.box [z1,z2,z3,z4,z5],.box [AI c.k,AI c.s,AI c.cl,AS c.b,AS c.w,AS c.m],
  .box [AS (z1n z0f c state sh ex (setC (l.take i) a).b (setC (l.take i) b).b (setC (l.take i) e).s.toNat).tms,AS (z1n z0f c state sh ex (setC (l.take i) a).b (setC (l.take i) b).b (setC (l.take i) e).s.toNat).tdi,AS (z1n z0f c state sh ex (setC (l.take i) a).b (setC (l.take i) b).b (setC (l.take i) e).s.toNat).want,
   AI ((z1n z0f c state sh ex (setC (l.take i) a).b (setC (l.take i) b).b (setC (l.take i) e).s.toNat).fr:Nat),AI ((setC (l.take i) e).s.toNat:Nat)]],[]⟩:=by
 obtain⟨q1,q2,q3,q4,q5,q6⟩:=z1Q hs
 have hm:c.m.length≤c.b.length:=by rcases q6 with ⟨_,h⟩ | ⟨_,h⟩ <;> simp [h]
 have hw:c.m.length≤c.w.length:=by rcases q6 with ⟨h0,h⟩ | ⟨h0,h⟩ <;> simp [h0,h]
 obtain⟨n1,n2⟩:=z03 n1
 have x1:=fun (h':Heap) (K':Post)=>zai (h:=h') (K:=K') l i a hi hl
 have x2:=fun (h':Heap) (K':Post)=>zai (h:=h') (K:=K') l i b hi hl
 have x3:=fun (h':Heap) (K':Post)=>zai (h:=h') (K:=K') l i e hi hl
 generalize setC (l.take i) a=ca at x1 b1 ⊢
 generalize setC (l.take i) b=cb at x2 b2 ⊢
 generalize setC (l.take i) e=ce at x3 n1 n2 ⊢
 obtain⟨ak,as_,acl,hd,aw,am⟩:=ca
 obtain⟨bk,bs,bcl,tl,bw,bm⟩:=cb
 obtain⟨ek,es,ecl,eb,ew,em⟩:=ce
 have x4:=fun (h':Heap) (K':Post)=>zkm (h:=h') (K:=K') c (by omega) hm hw
 dsimp only at n1 n2 x1 x2 x3 b1 b2 ⊢
 obtain⟨n,rfl⟩:∃ n:Nat,es=n:=⟨es.toNat,n2.symm⟩
 simp only[Int.toNat_natCast] at n1 ⊢
 have p1:∀ (h':Heap) (K':Post),z0c X z2m [AI state,AI sh] h' K'=K' (AS (z0f state sh)) h' []:=fun h' K'=>zuQ (h:=h') (K:=K') (z1t hst) m1
 have p2:∀ (h':Heap) (K':Post),z0c X z2m [AI ex,AI n] h' K'=K' (AS (z0f ex n)) h' []:=fun h' K'=>zuQ (h:=h') (K:=K') m2 (z2h n1)
 have pl1:=(z02 (z1t hst) m1).2.1
 have pl2:=(z02 m2 (z2h n1)).2.1
 unfold z1n
 dsimp only
 generalize z0f state sh=P1 at p1 pl1 ⊢
 generalize z0f ex n=P2 at p2 pl2 ⊢
 obtain⟨k,s,cl,b',w,m⟩:=c
 dsimp only at q1 q3 hm hw x4 ⊢
 have hpos:=List.length_pos_iff.2 q1
 have hal:(hd++b'++tl).length=hd.length+b'.length+tl.length:=by simp only[List.length_append]
 generalize hale:hd++b'++tl=al at hal ⊢
 have hz:∀ n,(zs n).length=n:=fun n=>by simp [zs]
 have hx:∀ n,(xsL n).length=n:=fun n=>by simp [xsL]
 have hec:(expC ⟨k,s,cl,b',w,m⟩).length=b'.length:=by simp [expC]
 generalize expC ⟨k,s,cl,b',w,m⟩=ec at x4 hec ⊢
 have w1:IntKind.i64.wrap ((al.length:Int)-1)=((al.length-1:Nat):Int):=by
  rw[show (al.length:Int)-1=((al.length-1:Nat):Int) by omega];exact z0j _ (by omega) (by omega)
 have w2:IntKind.i64.wrap ((P1.length:Int)+(hd.length:Int))=((P1.length+hd.length:Nat):Int):=by
  rw[show (P1.length:Int)+(hd.length:Int)=((P1.length+hd.length:Nat):Int) by omega];exact z0j _ (by omega) (by omega)
 have r1:=fun (h':Heap) (K':Post)=>zbO (h:=h') (K:=K') ((al.length-1:Nat):Int) (by omega) (by omega)
 have r2:=fun (h':Heap) (K':Post)=>zbO (h:=h') (K:=K') (P1.length:Int) (by omega) (by omega)
 have r3:=fun (h':Heap) (K':Post)=>zsi (h:=h') (K:=K') ((P1.length+hd.length:Nat):Int) (by omega) (by omega)
 simp only[Int.toNat_natCast] at r1 r2 r3
 have lT2b:P1.length+(zs (al.length-1)).length+1≤z0o:=by rw[hz];unfold z0o;omega
 have lT1:P1.length+(zs (al.length-1)).length≤z0o:=by rw[hz];unfold z0o;omega
 have lT2:(P1++zs (al.length-1)).length+1≤z0o:=by rw[List.length_append,hz];unfold z0o;omega
 have lT3:(P1++zs (al.length-1)++[49]).length+P2.length≤z0o:=by simp only[List.length_append,hz,List.length_singleton];unfold z0o;omega
 have lT3b:P1.length+((zs (al.length-1)).length+1)+P2.length≤z0o:=by rw[hz];unfold z0o;omega
 have lD:(zs P1.length).length+al.length≤z0o:=by rw[hz];unfold z0o;omega
 have lW:(xsL (P1.length+hd.length)).length+ec.length≤z0o:=by rw[hx,hec];unfold z0o;omega
 have la:hd.length+b'.length≤z0o:=by unfold z0o;omega
 have lbn:hd.length+b'.length+tl.length≤z0o:=by unfold z0o;omega
 have lb:(hd++b').length+tl.length≤z0o:=by rw[List.length_append];unfold z0o;omega
 have hTn:P1++(zs (al.length-1)++49::P2)=P1++zs (al.length-1)++[49]++P2:=by simp
 generalize hTe:P1++zs (al.length-1)++[49]++P2=T at hTn ⊢
 clear hTe
 simp (config:={maxSteps:=4000000}) only[z2d,go_sem,splice,x1,x2,x3,x4,p1,p2,w1,w2,r1,r2,r3,hale,hTn,lT2b,lT3b,lbn,lT1,lT2,lT3,lD,lW,la,lb]
end Go.Am
end
section
/- The reference: the part of a scan. -/
open Go
set_option linter.all false
namespace Go.Am
variable {h:Heap} {K:Post}
attribute [-go_sem] oEqa z1O z2d
set_option maxHeartbeats 4000000 in
theorem zuV (l:List Cmd) (i:Nat) (c:Cmd) (hi:l[i]?=some c) (h7:c.k=7) (hs:z2K c=0) (hl:l.length≤1000000) (S:SetOk (l.take i)) (state:Nat) (hst:state∈stb) :
 z0c X z43 [ACs l,AI i,AI state] h K=K (.p (z5y (z0R z0f (l.take i) c state))) h []:=by
 refine rule ?_
 rw[zdB rfl]
 have hg:(l.map cmdP)[i]?=some (cmdP c):=by rw[List.getElem?_map,hi];rfl
 have hilt:i<l.length:=by
  rcases Nat.lt_or_ge i l.length with h | h
  ·exact h
  ·rw[List.getElem?_eq_none h] at hi;cases hi
 obtain⟨q1,q2,q3,q4,q5,q6⟩:=z1Q hs
 have ep:z0R z0f (l.take i) c state=padP (z1n z0f c state 11 12 (setC (l.take i) 3).b (setC (l.take i) 4).b (setC (l.take i) 1).s.toNat):=by
  unfold z0R
  rw[if_neg (by omega),if_neg (by omega),if_pos h7]
 rw[ep]
 obtain⟨_,b1⟩:=S.b1 3 (by omega) (by omega)
 obtain⟨_,b2⟩:=S.b1 4 (by omega) (by omega)
 obtain⟨n1,n2⟩:=z03 S.s1
 have P1:=fun (z1 z2 z3 z4 z5:AV) (Kx:Ex→St→Prop)=>pk1 (h:=h) (z1:=z1) (z2:=z2) (z3:=z3) (z4:=z4) (z5:=z5) (Kx:=Kx) l i c (by omega) hs hl state 11 12 3 4 1 S.s1 hst (by decide) (by decide) b1 b2
 have pl1:=(z02 (z1t hst) (show 11∈toS by decide)).2.1
 have pl2:=(z02 (show 12∈frS by decide) (z2h n1)).2.1
 have hz:∀ n,(zs n).length=n:=fun n=>by simp [zs]
 have hx:∀ n,(xsL n).length=n:=fun n=>by simp [xsL]
 have hec:(expC c).length=c.b.length:=by simp [expC]
 have hpos:=List.length_pos_iff.2 q1
 have lens:(z1n z0f c state 11 12 (setC (l.take i) 3).b (setC (l.take i) 4).b (setC (l.take i) 1).s.toNat).tdi.length≤(z1n z0f c state 11 12 (setC (l.take i) 3).b (setC (l.take i) 4).b (setC (l.take i) 1).s.toNat).tms.length ∧
  (z1n z0f c state 11 12 (setC (l.take i) 3).b (setC (l.take i) 4).b (setC (l.take i) 1).s.toNat).want.length≤(z1n z0f c state 11 12 (setC (l.take i) 3).b (setC (l.take i) 4).b (setC (l.take i) 1).s.toNat).tms.length ∧
  (z1n z0f c state 11 12 (setC (l.take i) 3).b (setC (l.take i) 4).b (setC (l.take i) 1).s.toNat).tms.length≤1000000:=by
  unfold z1n
  simp only[List.length_append,hz,hx,hec,List.length_singleton]
  omega
 have est:(z1n z0f c state 11 12 (setC (l.take i) 3).b (setC (l.take i) 4).b (setC (l.take i) 1).s.toNat).st=(setC (l.take i) 1).s.toNat:=rfl
 generalize z1n z0f c state 11 12 (setC (l.take i) 3).b (setC (l.take i) 4).b (setC (l.take i) 1).s.toNat=p at P1 lens est ⊢
 rw[← est] at P1
 obtain⟨l1,l2,l3⟩:=lens
 have P3:=fun (z1 z2 z3 z4 z5 c1 c2 c3 c4 c5 c6:AV) (Kx:Ex→St→Prop)=>pk3 (h:=h) (Kx:=Kx) (T:=p.tms) (D:=p.tdi) (W:=p.want) (fr:=(p.fr:Nat)) (st:=(p.st:Nat)) (z1:=z1) (z2:=z2) (z3:=z3) (z4:=z4) (z5:=z5) (c1:=c1) (c2:=c2) (c3:=c3) (c4:=c4) (c5:=c5) (c6:=c6) l1 l2 l3
 obtain⟨k,s,cl,b',w,m⟩:=c
 dsimp only at h7 hg P1 ⊢
 subst h7
 simp only[show ((11:Nat):Int)=11 from rfl,show ((12:Nat):Int)=12 from rfl] at P1
 unfold padP z5y
 dsimp only
 simp only[z7M,go_sem,len2,hg,hilt,P1,P3]
set_option maxHeartbeats 4000000 in
theorem zuT (l:List Cmd) (i:Nat) (c:Cmd) (hi:l[i]?=some c) (h7:c.k=8) (hs:z2K c=0) (hl:l.length≤1000000) (S:SetOk (l.take i)) (state:Nat) (hst:state∈stb) :
 z0c X z43 [ACs l,AI i,AI state] h K=K (.p (z5y (z0R z0f (l.take i) c state))) h []:=by
 refine rule ?_
 rw[zdB rfl]
 have hg:(l.map cmdP)[i]?=some (cmdP c):=by rw[List.getElem?_map,hi];rfl
 have hilt:i<l.length:=by
  rcases Nat.lt_or_ge i l.length with h | h
  ·exact h
  ·rw[List.getElem?_eq_none h] at hi;cases hi
 obtain⟨q1,q2,q3,q4,q5,q6⟩:=z1Q hs
 have ep:z0R z0f (l.take i) c state=padP (z1n z0f c state 4 5 (setC (l.take i) 5).b (setC (l.take i) 6).b (setC (l.take i) 2).s.toNat):=by
  unfold z0R
  rw[if_neg (by omega),if_neg (by omega),if_neg (by omega),if_pos h7]
 rw[ep]
 obtain⟨_,b1⟩:=S.b1 5 (by omega) (by omega)
 obtain⟨_,b2⟩:=S.b1 6 (by omega) (by omega)
 obtain⟨n1,n2⟩:=z03 S.s2
 have P1:=fun (z1 z2 z3 z4 z5:AV) (Kx:Ex→St→Prop)=>pk1 (h:=h) (z1:=z1) (z2:=z2) (z3:=z3) (z4:=z4) (z5:=z5) (Kx:=Kx) l i c (by omega) hs hl state 4 5 5 6 2 S.s2 hst (by decide) (by decide) b1 b2
 have pl1:=(z02 (z1t hst) (show 4∈toS by decide)).2.1
 have pl2:=(z02 (show 5∈frS by decide) (z2h n1)).2.1
 have hz:∀ n,(zs n).length=n:=fun n=>by simp [zs]
 have hx:∀ n,(xsL n).length=n:=fun n=>by simp [xsL]
 have hec:(expC c).length=c.b.length:=by simp [expC]
 have hpos:=List.length_pos_iff.2 q1
 have lens:(z1n z0f c state 4 5 (setC (l.take i) 5).b (setC (l.take i) 6).b (setC (l.take i) 2).s.toNat).tdi.length≤(z1n z0f c state 4 5 (setC (l.take i) 5).b (setC (l.take i) 6).b (setC (l.take i) 2).s.toNat).tms.length ∧
  (z1n z0f c state 4 5 (setC (l.take i) 5).b (setC (l.take i) 6).b (setC (l.take i) 2).s.toNat).want.length≤(z1n z0f c state 4 5 (setC (l.take i) 5).b (setC (l.take i) 6).b (setC (l.take i) 2).s.toNat).tms.length ∧
  (z1n z0f c state 4 5 (setC (l.take i) 5).b (setC (l.take i) 6).b (setC (l.take i) 2).s.toNat).tms.length≤1000000:=by
  unfold z1n
  simp only[List.length_append,hz,hx,hec,List.length_singleton]
  omega
 have est:(z1n z0f c state 4 5 (setC (l.take i) 5).b (setC (l.take i) 6).b (setC (l.take i) 2).s.toNat).st=(setC (l.take i) 2).s.toNat:=rfl
 generalize z1n z0f c state 4 5 (setC (l.take i) 5).b (setC (l.take i) 6).b (setC (l.take i) 2).s.toNat=p at P1 lens est ⊢
 rw[← est] at P1
 obtain⟨l1,l2,l3⟩:=lens
 have P3:=fun (z1 z2 z3 z4 z5 c1 c2 c3 c4 c5 c6:AV) (Kx:Ex→St→Prop)=>pk3 (h:=h) (Kx:=Kx) (T:=p.tms) (D:=p.tdi) (W:=p.want) (fr:=(p.fr:Nat)) (st:=(p.st:Nat)) (z1:=z1) (z2:=z2) (z3:=z3) (z4:=z4) (z5:=z5) (c1:=c1) (c2:=c2) (c3:=c3) (c4:=c4) (c5:=c5) (c6:=c6) l1 l2 l3
 obtain⟨k,s,cl,b',w,m⟩:=c
 dsimp only at h7 hg P1 ⊢
 subst h7
 simp only[show ((4:Nat):Int)=4 from rfl,show ((5:Nat):Int)=5 from rfl] at P1
 unfold padP z5y
 dsimp only
 simp only[z7M,go_sem,len2,hg,hilt,P1,P3]
end Go.Am
end
section
/- The reference: the parts of a program. -/
open Go
set_option linter.all false
namespace Go.Am
variable {h:Heap} {K:Post}
attribute [-go_sem] oEqa
theorem zuW (l:List Cmd) (i:Nat) (c:Cmd) (hi:l[i]?=some c) (hc:cmdF c=0) (hl:l.length≤1000000) (S:SetOk (l.take i)) (state:Nat) (hst:state∈stb) :
 z0c X z43 [ACs l,AI i,AI state] h K=K (.p (z5y (z0R z0f (l.take i) c state))) h []:=by
 cases z1e hc with
 | set h hs e=>exact zbR l i c hi (by omega) state
 | pad h0 h1 hb hl e=>exact zbR l i c hi h1 state
 | go h hs e=>exact zuU l i c hi h hs state hst
 | idle h h0 h1 e=>exact zko l i c hi h h0 h1 state hst
 | scan h hs e=>
  rcases h with h | h
  ·exact zuV l i c hi h hs hl S state hst
  ·exact zuT l i c hi h hs hl S state hst
theorem zks {pre:List Cmd} {c:Cmd} (S:SetOk pre) (hc:cmdF c=0):SetOk (pre++[c]):=by
 have K:=z1e hc
 refine⟨?_,?_,fun k h1 h2=>?_⟩
 ·rw[z0A];split
  ·cases K with
   | set h hs e=>exact hs
   | pad h0 h1 hb hl e=>omega
   | go h hs e=>omega
   | idle h h0 h1 e=>omega
   | scan h hs e=>omega
  ·exact S.s1
 ·rw[z0A];split
  ·cases K with
   | set h hs e=>exact hs
   | pad h0 h1 hb hl e=>omega
   | go h hs e=>omega
   | idle h h0 h1 e=>omega
   | scan h hs e=>omega
  ·exact S.s2
 ·rw[z0A];split
  ·cases K with
   | set h hs e=>omega
   | pad h0 h1 hb hl e=>exact⟨hb,hl⟩
   | go h hs e=>omega
   | idle h h0 h1 e=>omega
   | scan h hs e=>omega
  ·exact S.b1 k h1 h2
theorem zsu:SetOk []:=⟨rfl,rfl,fun k _ _=>⟨rfl,Nat.zero_le _⟩⟩
end Go.Am
end
section
/- The reference: the parts of a program,one by one. -/
open Go
set_option linter.all false
namespace Go.Am
variable {h:Heap} {K:Post}
def stAt (pre:List Cmd) (state:Nat):List Cmd→Nat
 | []=>state
 | c::r=>stAt (pre++[c]) (z0R z0f pre c state).st r
theorem z3V (c:Cmd):∀ (l pre:List Cmd) (state:Nat),z0u z0f pre state (l++[c])=z0u z0f pre state l++[z0R z0f (pre++l) c (stAt pre state l)]∧stAt pre state (l++[c])=(z0R z0f (pre++l) c (stAt pre state l)).st
 | [],pre,state=>by simp [z0u,stAt]
 | d::l,pre,state=>by
  obtain⟨a,b⟩:=z3V c l (pre++[d]) (z0R z0f pre d state).st
  have e:pre++[d]++l=pre++d::l:=by rw[List.append_assoc];rfl
  rw[e] at a b
  constructor
  ·simp only[List.cons_append,z0u];rw[a];rfl
  ·exact b
theorem zdJ:∀ {l:List Cmd},z5H l=0→∀ c∈l,cmdF c=0
 | [],_,c,hc=>by cases hc
 | d::l,h,c,hc=>by
  unfold z5H at h
  split at h
  ·rename_i h1;exact absurd h h1
  ·rename_i h1
   rcases List.mem_cons.1 hc with rfl | hc
   ·omega
   ·exact zdJ h c hc
theorem zc9 {l:List Cmd} (hc:∀ c∈l,cmdF c=0):∀ k,k≤l.length→SetOk (l.take k)∧stAt [] 0 (l.take k)∈stb
 | 0,_=>⟨zsu,by show 0∈stb;decide⟩
 | k+1,hk=>by
  obtain⟨S,T⟩:=zc9 hc k (by omega)
  have hlt:k<l.length:=by omega
  have h0:=hc _ (List.getElem_mem hlt)
  rw[List.take_succ_eq_append_getElem hlt]
  refine⟨zks S h0,?_⟩
  rw[(z3V l[k] (l.take k) [] 0).2,List.nil_append]
  cases z1e h0 with
  | set h hs e=>rw[z2A z0f (by omega)];exact T
  | pad h0 h1 hb hl e=>rw[z2A z0f h1];exact T
  | go h hs e=>rw[z9W z0f h];exact (z03 hs).1
  | idle h h0 h1 e=>rw[z4O z0f h];show 1∈stb;decide
  | scan h hs e=>
   unfold z0R
   rcases h with h | h
   ·rw[if_neg (by omega),if_neg (by omega),if_pos h];exact (z03 S.s1).1
   ·rw[if_neg (by omega),if_neg (by omega),if_neg (by omega),if_pos h];exact (z03 S.s2).1
abbrev APs (l:List Part):AV:=.p (.sl (some 5) (l.map z5y))
set_option maxHeartbeats 2000000 in
theorem zsj (l:List Cmd) (hc:∀ c∈l,cmdF c=0) (hl:l.length≤1000):z0c X zbe [ACs l] h K=K (APs (z0u z0f [] 0 l)) h []:=by
 refine rule ?_
 rw[c_q03m rfl]
 simp only[zhD,go_sem]
 refine z0T (fun k:Nat=>⟨[(0,ACs l),(3,.own h.length k 0 k),(4,AI (stAt [] 0 (l.take k))),(8,AI l.length),(9,AI k)],h++[.row (some 5) ((z0u z0f [] 0 (l.take k)).map z5y) 0],[]⟩) (fun k=>k≤l.length) (fun k=>l.length-k) 0 rfl (by omega) ?_
 intro k hk
 have hpl:∀ j,j≤l.length→(z0u z0f [] 0 (l.take j)).length=j:=by
  intro j hj
  have:∀ (l:List Cmd) (pre:List Cmd) (s:Nat),(z0u z0f pre s l).length=l.length:=by
   intro l
   induction l with
   | nil=>intro pre s;rfl
   | cons c l ih=>intro pre s;simp [z0u,ih]
  rw[this];simp;omega
 have hlen:((z0u z0f [] 0 (l.take k)).map z5y).length=k:=by rw[List.length_map,hpl k hk]
 rcases Nat.lt_or_ge k l.length with hlt | hge
 ·obtain⟨S,T⟩:=zc9 hc k hk
  have hi:l[k]?=some l[k]:=List.getElem?_eq_getElem hlt
  have h0:=hc _ (List.getElem_mem hlt)
  have w2:IntKind.i64.wrap ((k:Int)+1)=((k+1:Nat):Int):=z0j _ (by omega) (by omega)
  have hmx:k+1≤z0J:=by unfold z0J;omega
  have hp:=fun (h':Heap) (K':Post)=>zuW (h:=h') (K:=K') l k l[k] hi h0 (by omega) S _ T
  simp only[go_sem,hlt,hp,w2,hmx,hlen]
  refine⟨k+1,?_,by omega,by omega⟩
  obtain⟨e1,e2⟩:=z3V l[k] (l.take k) [] 0
  rw[List.take_succ_eq_append_getElem hlt,e1,e2,List.nil_append,List.map_append]
  rfl
 ·obtain rfl:k=l.length:=by omega
  have hpe:(z0u z0f [] 0 l).length=l.length:=by have:=hpl l.length (Nat.le_refl _);rwa [List.take_length] at this
  simp only[go_sem,Nat.lt_irrefl,hlen,List.take_length,hpe]
  exact congrArg (fun x=>AV.p (PV.sl (some 5) x)) (List.take_of_length_le (by simp [hpe]))
end Go.Am
end
section
/- The reference: the signals of a program: three builders. -/
open Go
set_option linter.all false
namespace Go.Am
variable {h:Heap} {K:Post}
def b3 (h:Heap) (u1:Bool) (s1:List UInt8) (u2:Bool) (s2:List UInt8) (u3:Bool) (s3:List UInt8) (l:Heap):Heap:=
 h++bldB u1 h.length s1.length :: .row none (z0q s1) 0::bldB u2 (h.length+2) s2.length :: .row none (z0q s2) 0::bldB u3 (h.length+4) s3.length :: .row none (z0q s3) 0::l
variable {u1 u2 u3:Bool} {s1 s2 s3 t:List UInt8} {l:Heap}
theorem zgu {n:Nat}:(b3 h u1 s1 u2 s2 u3 s3 l)[h.length+n]?=(bldB u1 h.length s1.length::Obj.row none (z0q s1) 0::bldB u2 (h.length+2) s2.length::Obj.row none (z0q s2) 0::bldB u3 (h.length+4) s3.length::Obj.row none (z0q s3) 0::l)[n]?:=by
 unfold b3
 rw[List.getElem?_append_right (by omega),show h.length+n-h.length=n by omega]
theorem b3_h1:zcc (b3 h u1 s1 u2 s2 u3 s3 l) u1 h.length s1:=⟨zgu (n:=0),zgu (n:=1)⟩
theorem b3_h2:zcc (b3 h u1 s1 u2 s2 u3 s3 l) u2 (h.length+2) s2:=⟨zgu (n:=2),zgu (n:=3)⟩
theorem b3_h3:zcc (b3 h u1 s1 u2 s2 u3 s3 l) u3 (h.length+4) s3:=⟨zgu (n:=4),zgu (n:=5)⟩
theorem b3_e1:held (b3 h u1 s1 u2 s2 u3 s3 l) h.length t=b3 h true t u2 s2 u3 s3 l:=by
 unfold held b3
 rw[List.set_append_right _ _ (by omega),List.set_append_right _ _ (by omega),Nat.sub_self,show h.length+1-h.length=1 by omega]
 rfl
theorem b3_e2:held (b3 h u1 s1 u2 s2 u3 s3 l) (h.length+2) t=b3 h u1 s1 true t u3 s3 l:=by
 unfold held b3
 rw[List.set_append_right _ _ (by omega),List.set_append_right _ _ (by omega),show h.length+2-h.length=2 by omega,show h.length+2+1-h.length=3 by omega]
 rfl
theorem b3_e3:held (b3 h u1 s1 u2 s2 u3 s3 l) (h.length+4) t=b3 h u1 s1 u2 s2 true t l:=by
 unfold held b3
 rw[List.set_append_right _ _ (by omega),List.set_append_right _ _ (by omega),show h.length+4-h.length=4 by omega,show h.length+4+1-h.length=5 by omega]
 rfl
theorem b3_ws1 (hm:s1.length+t.length≤200000000000):z0c X z2n [.ref h.length 0,AS t] (b3 h u1 s1 u2 s2 u3 s3 l) K=K (.tup [AI t.length,.nili]) (b3 h true (s1++t) u2 s2 u3 s3 l) []:=by
 rw[z2p b3_h1 hm,b3_e1]
theorem b3_ws2 (hm:s2.length+t.length≤200000000000):z0c X z2n [.ref (h.length+2) 0,AS t] (b3 h u1 s1 u2 s2 u3 s3 l) K=K (.tup [AI t.length,.nili]) (b3 h u1 s1 true (s2++t) u3 s3 l) []:=by
 rw[z2p b3_h2 hm,b3_e2]
theorem b3_ws3 (hm:s3.length+t.length≤200000000000):z0c X z2n [.ref (h.length+4) 0,AS t] (b3 h u1 s1 u2 s2 u3 s3 l) K=K (.tup [AI t.length,.nili]) (b3 h u1 s1 u2 s2 true (s3++t) l) []:=by
 rw[z2p b3_h3 hm,b3_e3]
theorem zwn:(b3 h u1 s1 u2 s2 u3 s3 l).length=h.length+(l.length+6):=by unfold b3;simp
theorem b3_app {l2:Heap}:b3 h u1 s1 u2 s2 u3 s3 l++l2=b3 h u1 s1 u2 s2 u3 s3 (l++l2):=by unfold b3;simp
theorem b3_get {n:Nat}:(b3 h u1 s1 u2 s2 u3 s3 l)[h.length+(n+6)]?=l[n]?:=zgu
theorem b3_set {n:Nat} {o:Obj}:(b3 h u1 s1 u2 s2 u3 s3 l).set (h.length+(n+6)) o=b3 h u1 s1 u2 s2 u3 s3 (l.set n o):=by
 unfold b3
 rw[List.set_append_right _ _ (by omega),show h.length+(n+6)-h.length=n+6 by omega]
 rfl
theorem zxk {n:Nat}:(b3 h u1 s1 u2 s2 u3 s3 l).take (h.length+(n+6))=b3 h u1 s1 u2 s2 u3 s3 (l.take n):=by
 unfold b3
 rw[List.take_length_add_append]
 rfl
theorem zth:(b3 h u1 s1 u2 s2 u3 s3 l).take h.length=h:=by unfold b3;exact List.take_left
theorem z78 {hp:Heap} {id id':Nat} {u:Bool} {s s':List UInt8} (H:zcc hp u id' s') (h1:id'≠id+1) (h2:id'+1≠id+1):zcc (z2D hp id s) u id' s':=by
 unfold z2D
 split
 ·exact H
 ·exact⟨by rw[List.getElem?_set_ne (by omega)];exact H.1,by rw[List.getElem?_set_ne (by omega)];exact H.2⟩
theorem zak {hp:Heap} {id n:Nat} {s:List UInt8} (hn:n≤id+1):(z2D hp id s).take n=hp.take n:=by
 unfold z2D
 split
 ·rfl
 ·exact List.take_set_of_le (by omega)
end Go.Am
end
section
/- The reference: the signals of a program. -/
open Go
set_option linter.all false
namespace Go.Am
variable {h:Heap} {K:Post}
attribute [-go_sem] oEqa
section
variable {u1 u2 u3:Bool} {s1 s2 s3:List UInt8} {l:Heap} {o:Obj}
theorem zxi:(b3 h u1 s1 u2 s2 u3 s3 l)[h.length+6]?=l[0]?:=b3_get (n:=0)
theorem zxj:(b3 h u1 s1 u2 s2 u3 s3 l).set (h.length+6) o=b3 h u1 s1 u2 s2 u3 s3 (l.set 0 o):=b3_set (n:=0)
theorem zhi:(b3 h u1 s1 u2 s2 u3 s3 l).take (h.length+6)=b3 h u1 s1 u2 s2 u3 s3 (l.take 0):=zxk (n:=0)
end
theorem z9v {β:Type} (f:Part→List β) (ps:List Part) {k:Nat} (hk:k<ps.length):((ps.take k).flatMap f).length+(f ps[k]).length≤(ps.flatMap f).length:=by
 have e:ps.flatMap f=(ps.take (k+1)).flatMap f++(ps.drop (k+1)).flatMap f:=by rw[← List.flatMap_append,List.take_append_drop]
 rw[e,List.take_succ_eq_append_getElem hk,List.flatMap_append,List.length_append,List.length_append]
 simp
theorem zb8:∀ (l pre:List Cmd) (s:Nat),(z0u z0f pre s l).length=l.length
 | [],_,_=>rfl
 | c::l,pre,s=>by simp [z0u,zb8 l]
set_option maxHeartbeats 2000000 in
theorem zgM (l:List Cmd) (hc:∀ c∈l,cmdF c=0) (hl:l.length≤1000) (hT:(sigT (z0u z0f [] 0 l)).length≤1000000000) (hI:(sigI (z0u z0f [] 0 l)).length≤1000000000) (hW:(sigW (z0u z0f [] 0 l)).length≤1000000000):z0c X z9o [ACs l] h K=K (.tup [AS (sigT (z0u z0f [] 0 l)),AS (sigI (z0u z0f [] 0 l)),AS (sigW (z0u z0f [] 0 l))]) h []:=by
 refine rule ?_
 rw[c_q03a rfl]
 have hp:=fun (h':Heap) (K':Post)=>zsj (h:=h') (K:=K') l hc hl
 simp only[zhA,go_sem,hp]
 have hpl:=zb8 l [] 0
 generalize z0u z0f [] 0 l=ps at hT hI hW hpl ⊢
 refine z0T (fun k:Nat=>⟨[(5,.ref h.length 0),(6,.ref (h.length+2) 0),(7,.ref (h.length+4) 0),(11,APs ps),(12,AI ps.length),(13,AI k)],b3 h (decide (0<k)) (sigT (ps.take k)) (decide (0<k)) (sigI (ps.take k)) (decide (0<k)) (sigW (ps.take k)) [],[(h.length+4,h.length+6),(h.length+2,h.length+4),(h.length,h.length+2)]⟩) (fun k=>k≤ps.length) (fun k=>ps.length-k) 0 rfl (by omega) ?_
 intro k hk
 rcases Nat.lt_or_ge k ps.length with hlt | hge
 ·have hg:=z1B z5y hlt
  have w2:IntKind.i64.wrap ((k:Int)+1)=((k+1:Nat):Int):=z0j _ (by omega) (by omega)
  have m1:(sigT (ps.take k)).length+(ps[k].tms).length≤200000000000:=by have:=z9v Part.tms ps hlt;unfold sigT at *;omega
  have m2:(sigI (ps.take k)).length+(ps[k].tdi).length≤200000000000:=by have:=z9v Part.tdi ps hlt;unfold sigI at *;omega
  have m3:(sigW (ps.take k)).length+(ps[k].want).length≤200000000000:=by have:=z9v Part.want ps hlt;unfold sigW at *;omega
  simp only[go_sem,hlt,hg,w2,b3_app,zwn,zxi,zxj,zhi,b3_ws1 m1,b3_ws2 m2,b3_ws3 m3]
  refine⟨k+1,?_,by omega,by omega⟩
  obtain⟨e1,e2,e3⟩:=z8y (ps.take k) ps[k]
  rw[List.take_succ_eq_append_getElem hlt,e1,e2,e3]
  simp
 ·obtain rfl:k=ps.length:=by omega
  have H1:=fun (u:Bool) (s1 s2 s3:List UInt8)=>b3_h1 (h:=h) (u1:=u) (s1:=s1) (u2:=u) (s2:=s2) (u3:=u) (s3:=s3) (l:=[])
  have H2:=fun (u:Bool) (s1 s2 s3:List UInt8)=>b3_h2 (h:=h) (u1:=u) (s1:=s1) (u2:=u) (s2:=s2) (u3:=u) (s3:=s3) (l:=[])
  have H3:=fun (u:Bool) (s1 s2 s3:List UInt8)=>b3_h3 (h:=h) (u1:=u) (s1:=s1) (u2:=u) (s2:=s2) (u3:=u) (s3:=s3) (l:=[])
  have d1:h.length+1≤h.length+6:=by omega
  have d2:h.length+2+1≤h.length+6:=by omega
  have d3:h.length+4+1≤h.length+6:=by omega
  simp only[go_sem,Nat.lt_irrefl,List.take_length,zwn,List.length_nil,Nat.zero_add,d1,d2,d3,zhi,List.take_nil]
  rw[z7i (H1 _ _ _ _) (by omega)]
  rw[z7i (z78 (H2 _ _ _ _) (by omega) (by omega)) (by omega)]
  rw[z7i (z78 (z78 (H3 _ _ _ _) (by omega) (by omega)) (by omega) (by omega)) (by omega)]
  simp only[go_sem]
  have ht:(z2D (z2D (z2D (b3 h (decide (0<ps.length)) (sigT ps) (decide (0<ps.length)) (sigI ps) (decide (0<ps.length)) (sigW ps) []) h.length (sigT ps)) (h.length+2) (sigI ps)) (h.length+4) (sigW ps)).take h.length=h:=by
   rw[zak (by omega),zak (by omega),zak (by omega),zth]
  revert ht
  generalize z2D _ (h.length+4) (sigW ps)=hp1
  intro ht
  have n4:¬ (h.length+4<h.length):=by omega
  have n2:¬ (h.length+2<h.length):=by omega
  have n0:¬ (h.length<h.length):=by omega
  have e3:z2I 3 [(h.length+4,h.length+6),(h.length+2,h.length+4),(h.length,h.length+2)] h.length=h.length:=by simp only[z2I,bump,List.foldl_cons,List.foldl_nil,n4,n2,n0,if_false];try simp [n4,n2]
  have e4:z19 [(h.length+4,h.length+6),(h.length+2,h.length+4),(h.length,h.length+2)] h.length=true:=by simp [z19]
  simp only[retK,go_sem,e3,e4,ht]
  simp
end Go.Am
end
