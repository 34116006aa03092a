/- Texts of the proof, laid together: SpVRd2, SpVTxt3, SpEqC, SpReady, SpKeep, SpLawPB, Bridge, AmL2, AmL6, AmL3. -/
import Derived.KernelRfl
import Derived.ProofKit
import Derived.Shelf.Strconv.Itoa3
import Derived.Lib.LaidTab
import Derived.Shelf.Strconv.AtoiAll
import Derived.Test.YtojjldhoodnjiaaGreatDoorlawPB9
set_option linter.all false
section
/- Programs read: all lines. -/
open Go
set_option linter.all false
set_option maxRecDepth 100000
namespace Go.Am
variable {h:Heap} {K:Post}
def HC (h:Heap) (cs:List Cmd):Heap:=h++[.row (some 6) (cs.map cmdP) 0,.box [.own h.length cs.length 0 cs.length]]
theorem HC_len (h:Heap) (cs:List Cmd):(HC h cs).length=h.length+2:=by simp [HC]
theorem s_VR1 (cs:List Cmd) (s:List UInt8) (hs:s.length≤900000) (hf:cs.length≤1000000):z0c X z8N [AS s,.ref (h.length+1) 0] (HC h cs) K=K (AB (tkP cs s).1) (HC h (tkP cs s).2) []:=by
 refine rule ?_
 rw[c_q065 rfl]
 have q:=fun h K=>zgp (h:=h) (K:=K) s hs
 have hm:cs.length+1≤z0J:=by unfold z0J;omega
 have hl:(cs.map cmdP).length=cs.length:=List.length_map ..
 have hz:∀ c:Cmd,PV.shp (some 6) (cmdP c)=true:=fun _=>rfl
 unfold HC tkP
 have hz':=hz (rdPC (z0q 32 s)).1
 generalize (rdPC (z0q 32 s)).1=c at *
 generalize (rdPC (z0q 32 s)).2=ok at *
 obtain⟨k,st,cl,b,w,m⟩:=c
 simp only[znz,go_sem,↓q,q,hm,hl,hz',z3c,AV.top,Nat.lt_irrefl,Nat.not_lt_zero,List.map_append,splice]
def tkG (g:List UInt8→Cmd × Bool) (cs:List Cmd) (s:List UInt8):Bool × List Cmd:=((g s).2,cs++[(g s).1])
theorem ztD (g:List UInt8→Cmd × Bool) (P:Cmd→Prop) (tail:Bool):∀ (ls:List (List UInt8)) (i:Nat) (cs:List Cmd),(∀ l∈ls,P (g l).1)→(∀ c∈cs,P c) →
 (∀ c∈(lnsF (tkG g) tail i ls cs).2,P c)∧(lnsF (tkG g) tail i ls cs).2.length≤cs.length+ls.length
 | [],i,cs,_,h=>by
  rw[zbZ]
  cases tail <;> exact⟨h,by simp⟩
 | l::r,i,cs,hl,h=>by
  rw[z8Z]
  have h1:∀ c∈(tkG g cs l).2,P c:=fun c hc=>by
   rcases List.mem_append.1 hc with hc | hc
   ·exact h c hc
   ·rw[List.mem_singleton.1 hc];exact hl l (by simp)
  have h2:(tkG g cs l).2.length=cs.length+1:=by simp [tkG]
  cases (tkG g cs l).1 with
  | true=>
   obtain⟨q1,q2⟩:=ztD g P tail r (i+1) (tkG g cs l).2 (fun x hx=>hl x (by simp [hx])) h1
   refine⟨q1,?_⟩
   simp only[cond_true,List.length_cons]
   omega
  | false=>
   refine⟨h1,?_⟩
   simp only[cond_false,List.length_cons]
   omega
theorem ztQ (s:List UInt8) (i:Nat):(wd (z0q 32 s) i).length≤s.length:=by
 unfold wd
 cases hx:(z0q 32 s)[i]? with
 | none=>simp
 | some x=>exact z2x (List.mem_of_getElem? hx)
theorem y0v {s:List UInt8} (hs:s.length≤100000):CmdOk (rdPC (z0q 32 s)).1:=by
 have a1:=ztQ s 1
 have a2:=ztQ s 2
 have a3:=ztQ s 3
 unfold rdPC
 have z:CmdOk cmd0:=⟨Nat.zero_le _,Nat.zero_le _,Nat.zero_le _⟩
 have z1:∀ a b c,CmdOk ⟨a,b,c,[],[],[]⟩:=fun a b c=>⟨Nat.zero_le _,Nat.zero_le _,Nat.zero_le _⟩
 split
 ·exact z
 split
 ·exact⟨by dsimp only;omega,by dsimp only;omega,by dsimp only;omega⟩
 split
 ·exact z
 split
 ·split
  ·exact z1 _ _ _
  ·exact z
 split
 ·exact z1 _ _ _
 split
 ·exact⟨by dsimp only;omega,Nat.zero_le _,Nat.zero_le _⟩
 ·exact z1 _ _ _
abbrev rdTC (tk:List Cmd→List UInt8→Bool × List Cmd) (s:List UInt8):(Nat × Bool) × List Cmd:=lnsF tk (lnsT s) 0 (lnsD s) []
def rdVC (tk:List Cmd→List UInt8→Bool × List Cmd) (s:List UInt8):List Cmd × Int × Int:=
 if (rdTC tk s).1.2=false then ([],((rdTC tk s).1.1:Nat),9) else if z1F z0f (rdTC tk s).2≠0 then ([],0,(z1F z0f (rdTC tk s).2:Nat)) else ((rdTC tk s).2,0,0)
theorem zv3 {f:Nat} {F:AFun} {h:Heap} {o:Obj} {xs:List PV} {K:Post} (hf:X.fn f=some F) (hr:F.byref=false) (hl:F.nparams=1):z0c X f [.own h.length xs.length 0 xs.length] (h++[.row (some 6) xs 0,o]) K=z0c X f [.p (.sl (some 6) xs)] (h++[.row (some 6) xs xs.length,o]) K:=by
 have:=zv2 (K:=K) (f:=f) (F:=F) (id:=h.length) (fz:=0) (sh:=some 6) (xs:=xs) (h:=h++[.row (some 6) xs 0,o]) hf hr hl (by simp)
 rw[this,frzA]
set_option maxHeartbeats 4000000 in
theorem y05 (s:List UInt8) (hs:s.length≤100000):z0c X zaK [AS s] h K=K (.tup [ACs (rdVC tkP s).1,AI (rdVC tkP s).2.1,AI (rdVC tkP s).2.2]) h []:=by
 refine rule ?_
 rw[c_q064 rfl]
 have h2':¬ (200000:Int)<(s.length:Int):=by omega
 have hL:=fun K=>s_Each (K:=K) z8N [.ref (h.length+1) 0] tkP (HC h) (fun k cs=>cs.length=k) s (by omega) (h.length+2) (HC_len h)
  (fun k t l K hi hk hll=>s_VR1 t l (by omega) (by omega)) (fun k t l hi hll _=>by simp [tkP,hi]) [] rfl
 obtain⟨i1,i2⟩:=ztD (fun s=>rdPC (z0q 32 s)) CmdOk (lnsT s) (lnsD s) 0 [] (fun l hl=>y0v (Nat.le_trans (zhW hl) hs)) (by simp)
 have hD:=zhV s
 have ee:tkG (fun s=>rdPC (z0q 32 s))=tkP:=rfl
 rw[ee] at i1 i2
 unfold rdVC rdTC
 generalize lnsF tkP (lnsT s) 0 (lnsD s) []=R at *
 obtain⟨⟨i,ok⟩,cs⟩:=R
 dsimp only at i1 i2 hL ⊢
 rw[List.length_nil,Nat.zero_add] at i2
 have q3:=fun o K=>(zv3 (f:=z4e) (F:=zcS) (h:=h) (o:=o) (xs:=cs.map cmdP) (K:=K) zyD rfl rfl).trans (z4g cs i1 (by omega))
 simp only[List.length_map] at q3
 simp only[HC,List.map_nil,List.length_nil] at hL
 have hw:win (cs.map cmdP) 0 cs.length=cs.map cmdP:=ziQ (by simp)
 have hll:(cs.map cmdP).length=cs.length:=List.length_map ..
 cases ok with
 | false=>
  simp only[zef,go_sem,↓hL,hL,h2']
  first | done | rfl
 | true=>
  by_cases h4:z1F z0f cs=0
  ·have h4':((z1F z0f cs:Nat):Int)=0:=by omega
   simp only[zef,go_sem,↓hL,hL,h2',↓q3,q3,h4,h4',hw,hll]
   first | done | rfl
  ·have h4':¬ ((z1F z0f cs:Nat):Int)=0:=by omega
   simp only[zef,go_sem,↓hL,hL,h2',↓q3,q3,h4,h4']
   first | done | rfl
end Go.Am
end
section
/- A program's text,with the builder;texts drawn. -/
open Go
set_option linter.all false
set_option maxRecDepth 100000
namespace Go.Am
variable {L:List Int} {a:Int} {h l:Heap} {id:Nat} {K:Post}
theorem vloop {K':Ex→St→Prop} {x:Esc} (cs:List Cmd) (hc:∀ c∈cs,cmdF c=0) (hl:cs.length≤1000)
 (hK:∀ u,K' (.exit 0) ⟨[(5,.ref h.length 0),(13,ACs cs),(14,AI cs.length),(15,AI cs.length),(16,AB false)],bh h u (z1g cs) [],x⟩) :
 z1a (z0c X) X.gl (.scope z2D) K' [(5,.ref h.length 0),(13,ACs cs),(14,AI cs.length),(15,AI 0)] (bh h false [] []) x:=by
 refine z0Y (fun k:Nat=>⟨[(5,.ref h.length 0),(13,ACs cs),(14,AI cs.length),(15,AI k)],bh h (decide (0<k)) (z1g (cs.take k)) [],x⟩) (fun k=>k≤cs.length) (fun k=>cs.length-k) 0 (by simp [z1g]) (by omega) ?_
 intro k hk
 rcases Nat.lt_or_ge k cs.length with hlt | hge
 ·have hg:=z1E cmdP hlt
  have wk:IntKind.i64.wrap ((k:Int)+1)=((k+1:Nat):Int):=z0j _ (by omega) (by omega)
  have h0:=hc _ (List.getElem_mem hlt)
  have fl:=fun (h':Heap) (K':Post)=>s_line (h:=h') (K:=K') cs[k] h0
  have b1:=zeS h0
  have b2:=z7f (l:=cs.take k) (fun c hc'=>hc c (List.mem_of_mem_take hc'))
  rw[List.length_take] at b2
  have b3:min k cs.length*6101≤1000*6101:=Nat.mul_le_mul_right _ (by omega)
  have es:=zgg hlt
  have mx:100000000≤z0n:=by unfold z0n;omega
  have m1:(z1R cs[k]).length+1≤z0n:=by omega
  have q1:=fun l K=>s_WS (h:=h) (K:=K) (u:=decide (0<k)) (s:=z1g (cs.take k)) (t:=z1R cs[k]++[10]) (l:=l) (by rw[List.length_append,List.length_singleton];omega)
  generalize z1R cs[k]=ln at *
  generalize z1g (cs.take k)=acc at *
  simp only[go_sem,hlt,hg,zxi,bh_app,bh_get,bh_set,zmC,↓fl,fl,↓q1,q1,wk,m1,splice]
  refine⟨k+1,?_,by omega,by omega⟩
  rw[es,show decide (0<k+1)=true by simp]
 ·have hk':k=cs.length:=by omega
  subst hk'
  rw[List.take_length]
  have:=hK (decide (0<cs.length))
  simp only[go_sem,Nat.lt_irrefl,decide_false,zxi,zmC,this]
set_option maxHeartbeats 4000000 in
theorem y06 (cs:List Cmd) (hok:∀ c∈cs,CmdOk c) (hl:cs.length≤30):z0c X zaL [ACs cs] h K=K (.tup [AS (if z1F z0f cs=0 then z1g cs else []),AI (z1F z0f cs:Nat)]) h []:=by
 refine rule ?_
 rw[c_q069 rfl]
 have hk:=fun (h':Heap) (K':Post)=>z9C (h:=h') (K:=K') cs hok (by omega)
 by_cases h0:z1F z0f cs=0
 ·rw[h0] at hk
  rw[h0,if_pos rfl]
  obtain⟨hc,_,_⟩:=zsG h0
  have lb:=z7f hc
  have lb2:cs.length*6101≤30*6101:=Nat.mul_le_mul_right _ hl
  simp only[zeg,go_sem,hk,show ((0:Nat):Int)=0 from rfl]
  refine vloop cs hc (by omega) (fun u=>?_)
  have q1:=fun K=>s_BL (h:=h) (K:=K) (u:=u) (s:=z1g cs) (l:=[])
  have q2:=fun K=>z6N (K:=K) (zb8 (h:=h) (u:=u) (s:=z1g cs) (l:=[])) (by omega)
  have h3':¬ (200000:Int)<((z1g cs).length:Int):=by omega
  simp only[go_sem,↓q1,q1,↓q2,q2,h3']
  refine y00 ?_
  refine⟨rfl,?_,rfl⟩
  unfold z2K bh
  split
  ·simp
  ·rw[List.set_append_right _ _ (by omega)];simp
 ·have h0':¬ ((z1F z0f cs:Nat):Int)=0:=by omega
  rw[if_neg h0]
  simp only[zeg,go_sem,hk,h0']
end Go.Am
end
section
/- Lists of commands that are equal. -/
open Go
set_option linter.all false
namespace Go.Am
variable {h:Heap} {K:Post}
attribute [-go_sem] oEqa
theorem eqa6n (c d:Cmd):oEqa [0,0,0,2,2,2] true (ACm c) (ACm d)=some (AB (!decide (c=d))):=by
 obtain⟨k,s,cl,b,w,m⟩:=c
 obtain⟨k',s',cl',b',w',m'⟩:=d
 exact eqa6
theorem zvR (l m:List Cmd) (hl:l.length≤1000000000):z0c X zaB [ACs l,ACs m] h K=K (AB (decide (l=m))) h []:=by
 refine rule ?_
 rw[c_q03z rfl]
 by_cases he:l.length=m.length
 ·have he':(l.length:Int)=(m.length:Int):=by omega
  simp only[zdN,go_sem,he']
  refine z0Y (fun k:Nat=>⟨[(0,ACs l),(1,ACs m),(12,AI m.length),(13,AI k)],h,[]⟩) (fun k=>k≤l.length∧l.take k=m.take k) (fun k=>l.length-k) 0 rfl (by simp) ?_
  rintro k ⟨hk,hp⟩
  rcases Nat.lt_or_ge k l.length with hlt | hge
  ·have hlt2:k<m.length:=by omega
   have hlt3:(k:Int)<(m.length:Int):=by omega
   have g1:=z1E cmdP hlt
   have g2:=z1E cmdP hlt2
   have w2:IntKind.i64.wrap ((k:Int)+1)=((k+1:Nat):Int):=z0j _ (by omega) (by omega)
   have hq:=eqa6n l[k] m[k]
   by_cases h1:l[k]=m[k]
   ·rw[decide_eq_true h1] at hq
    simp only[go_sem,hlt,hlt2,hlt3,g1,g2,↓hq,hq,w2]
    refine⟨k+1,rfl,⟨by omega,?_⟩,by omega⟩
    rw[List.take_succ_eq_append_getElem hlt,List.take_succ_eq_append_getElem hlt2,hp,h1]
   ·rw[decide_eq_false h1] at hq
    have hne:¬ l=m:=fun e=>h1 (by subst e;rfl)
    simp only[go_sem,hlt,hlt2,hlt3,g1,g2,↓hq,hq,hne]
  ·obtain rfl:k=l.length:=by omega
   rw[List.take_length,he,List.take_length] at hp
   subst hp
   simp only[go_sem,Nat.lt_irrefl,Int.lt_irrefl,decide_true]
 ·have he':¬ (l.length:Int)=(m.length:Int):=by omega
  have hne:¬ l=m:=fun e=>he (by rw[e])
  simp only[zdN,go_sem,he',hne]
end Go.Am
end
section
/- ready: a z1p call,computed. -/
open Go
set_option linter.all false
namespace Go.Am
def orcP (f:Nat) (a:List AV):Option AV:=bif Nat.beq f z4t then match a with
 | [.p (.int .i64 x),.p (.int .i64 y)]=>bif decide (0≤x)&&decide (x<16)&&decide (0≤y)&&decide (y<16) then some (.p (.str (z0f x.toNat y.toNat))) else none
 | _=>none else none
theorem y0t:∀ f a v,orcP f a=some v→∀ h (K:Post),K v h []→z0c X0 f a h K:=by
 intro f a v hv h K hK
 unfold orcP at hv
 cases hf:Nat.beq f z4t with
 | false=>rw[hf] at hv;cases hv
 | true=>
  have hf':=Nat.eq_of_beq_eq_true hf
  rw[hf] at hv
  subst hf'
  simp only[cond_true] at hv
  split at hv
  ·rename_i x y
   cases hc:(decide (0≤x)&&decide (x<16)&&decide (0≤y)&&decide (y<16)) with
   | false=>rw[hc] at hv;cases hv
   | true=>
    rw[hc] at hv
    simp only[cond_true,Option.some.injEq] at hv
    simp only[Bool.and_eq_true,decide_eq_true_eq] at hc
    obtain⟨a,rfl⟩:=Int.eq_ofNat_of_zero_le hc.1.1.1
    obtain⟨b,rfl⟩:=Int.eq_ofNat_of_zero_le hc.1.2
    have:=zyy (h:=h) (K:=K) zg1 zg0 a b (by omega) (by omega)
    rw[this]
    subst hv
    exact hK
  ·cases hv
theorem zvG:z8F X0 orcP 1000 60 z8G [] []=some (AB true,[],[]):=by kernel_rfl
theorem y1n:z0c X0 z8G [] [] fun v h x=>v=AB true∧h=[]∧x=[]:=(zkq y0t 1000 60 zvG _).2 ⟨rfl,rfl,rfl⟩
theorem y09 {h:Heap} {K:Post}:z0c X z8G [] h K=K (AB true) h []:=z3P (by kernel_rfl) rfl
end Go.Am
end
section
/- What all laws of the keep package use. -/
open Go
set_option linter.all false
namespace Go.Am
variable {h:Heap} {K:Post}
theorem y08 (l:List Int) (hl:l.length≤1000):z0c X z71 [AL l] h K=K (AI (z4Z l)) h []:=by
 refine rule ?_
 rw[c_q02f rfl]
 simp only[zhf,go_sem]
 refine z0Y (fun k:Nat=>⟨[(5,AL l),(6,AI l.length),(7,AI k)],h,[]⟩) (fun k=>k≤l.length∧z4Z (l.drop k)=z4Z l) (fun k=>l.length-k) 0 rfl (by simp) ?_
 rintro k ⟨hk,hp⟩
 rcases Nat.lt_or_ge k l.length with hlt | hge
 ·have hg:=z1E eI hlt
  have w2:IntKind.i64.wrap ((k:Int)+1)=((k+1:Nat):Int):=z0j _ (by omega) (by omega)
  rw[List.drop_eq_getElem_cons hlt,z4Z] at hp
  by_cases he:l[k]=0
  ·rw[if_pos he] at hp
   simp only[go_sem,hlt,hg,w2,he]
   exact⟨k+1,rfl,⟨by omega,hp⟩,by omega⟩
  ·rw[if_neg he] at hp
   simp only[go_sem,hlt,hg,w2,he]
   rw[hp]
 ·have e1:k=l.length:=by omega
  subst e1
  simp only[go_sem,Nat.lt_irrefl]
  rw[List.drop_length] at hp
  rw[← hp];rfl
end Go.Am
end
section
/- ProgramsComeBack returns true. -/
open Go
set_option linter.all false
set_option maxRecDepth 100000
namespace Go.Am
variable {h:Heap} {K:Post}
set_option maxHeartbeats 4000000 in
theorem law_PB (L:List Int) {K:Post}:z0c X zhB [AL L] [] K=K (AB true) [] []:=by
 refine rule ?_
 rw[c_q02c rfl]
 have p0:posN 100000 0:=by unfold posN;omega
 have p00:posN 0 0:=by unfold posN;omega
 have rb:0≤z2Y 0 8 L 0∧z2Y 0 8 L 0≤8:=z96 L 0 (by omega) (by omega)
 obtain⟨n,hn⟩:∃ n:Nat,z2Y 0 8 L 0=n:=⟨(z2Y 0 8 L 0).toNat,by omega⟩
 obtain⟨_,a2,⟨d1,d2,l,hl,hb,h0,rfl⟩,V⟩:=(z8X (L:=L) (a:=1) n (by omega) (z10 p0 (by omega) (by omega))).hd (l:=[])
 have hok:∀ c∈l,CmdOk c:=fun c hc=>(hb c hc).ok (by omega)
 obtain⟨hc,hT,h1⟩:=zsG h0
 have lb:=z7f hc
 have lb2:l.length*6101≤8*6101:=Nat.mul_le_mul_right _ (by omega)
 have C1:=fun h K=>y06 (h:=h) (K:=K) l hok (by omega)
 simp only[h0,if_true] at C1
 have C4:=fun h K=>y05 (h:=h) (K:=K) (z1g l) (by omega)
 have eR:rdVC tkP (z1g l)=(l,0,0):=by
  unfold rdVC
  have e:rdTC tkP (z1g l)=((0,true),l):=zjJ hc
  rw[e,if_neg (by simp),if_neg (by simp [h0])]
 rw[eR] at C4
 dsimp only at C4
 have E1:=fun h K=>zvR (h:=h) (K:=K) l l (by omega)
 simp only[decide_true] at E1
 have sc:=fun h K=>ztl (h:=h) (K:=K) (z1g l) 10
 rw[zfY hc] at sc
 have ke:=fun h K=>y08 (h:=h) (K:=K) [0,0] (by simp)
 simp only[AL,List.map_cons,List.map_nil] at ke
 have k0:z4Z [0,0]=0:=rfl
 rw[k0] at ke
 generalize z1g l=t at *
 simp only[zne,go_sem,p00,hn,V,C1,C4,E1,sc,ke,show ((0:Nat):Int)=0 from rfl,List.length_map,y09]
end Go.Am
end
section
/- From a law that is true here tov the model's calls at what came in. -/
open Go
namespace Go.Am
variable {P:Program}
theorem law_nil {X:Ctx} (HX:Fits P X) {f:Nat} {F:AFun} (hF:X.fn f=some F) (H:∀ L:List Int,z0c X f [zv6 L] [] fun v _ _=>v = .p (.bool true)) (W:World) (hG:GInv X.gl (imm [] [] W)) :
 Calls P f #[.slice none 0 0] W fun e W'=>e = .returned (.bool true)∧RowKit.Below W.heap.size W W':=by
 refine (zgT HX hF (H []) (W:=W) (vs:=[.slice none 0 0]) hG rfl (fun j y v hy hv=>?_)).mono fun e W' he=>?_
 ·cases j with
  | zero=>cases hy;cases hv;exact zuv W
  | succ j=>cases hy
 ·cases e with
  | returned r=>
   obtain⟨⟨v,h,x,μ,hk,hr⟩,hb⟩:=he
   subst hk
   exact⟨by rw[hr.p_bool],hb⟩
  | panicked _=>exact he.elim
  | outgrown=>exact he.elim
theorem law_ints {X:Ctx} (HX:Fits P X) {f:Nat} {F:AFun} (hF:X.fn f=some F) (H:∀ L:List Int,z0c X f [zv6 L] [] fun v _ _=>v = .p (.bool true)) {W:World} (hG:GInv X.gl (imm [] [] W)) {a:Addr} {len cap:Nat} {zs:List Int}
 (hl:len≤cap) (hz:len≤zs.length) (hc:∀ i,i<zs.length→W.cell? (a.add i)=some (.int .i64 (zs.getD i 0))) :
 Calls P f #[.slice (some a) len cap] W fun e W'=>e = .returned (.bool true)∧RowKit.Below W.heap.size W W':=by
 refine (zgT HX hF (H (zs.take len)) (W:=W) (vs:=[.slice (some a) len cap]) hG rfl (fun j y v hy hv=>?_)).mono fun e W' he=>?_
 ·cases j with
  | zero=>
   cases hy;cases hv
   rcases Nat.eq_zero_or_pos len with h0 | h0
   ·subst h0
    exact .p _ _ (.nils _ _ _)
   ·exact zmI (by simpa [Addr.add] using World.cell?_spot (hc 0 (by omega))) hl hz hc
  | succ j=>cases hy
 ·cases e with
  | returned r=>
   obtain⟨⟨v,h,x,μ,hk,hr⟩,hb⟩:=he
   subst hk
   exact⟨by rw[hr.p_bool],hb⟩
  | panicked _=>exact he.elim
  | outgrown=>exact he.elim
end Go.Am
namespace Go.ChangeShapes
open Go.RowKit Go.WideShapes
section
variable {H:Type} {enc:TypeId × Value→H} {P:Program}
end
end Go.ChangeShapes
end
section
/- The abstract machine,part L2: the kit's contracts asv rows. -/
set_option linter.unusedSimpArgs false
set_option linter.unusedVariables false
namespace Go.Am
variable {P:Program} {gl:Nat→Option PV}
open Go.Shelf
theorem zq6:∀ n:Nat,Go.Lib.decDigits n=decN n:=by
 intro n
 induction n using Nat.strongRecOn with
 | _ n ih=>
  rw[Go.Lib.decDigits,decN]
  split
  ·rfl
  ·rw[ih _ (by omega)];rfl
theorem zvp (n:Int):Go.Lib.itoa n=itoa n:=by
 unfold Go.Lib.itoa itoa
 split
 ·rw[zq6]
 ·rw[zq6];congr 1;omega
theorem tab_of {M:Mem} {w:World} {g:Nat} {name:String} {k:IntKind} {zs:List Int} (hn:P.globalNamed name=some g) (hg:gl g=some (.agg (zs.map (PV.int k)))) (hc:∀ b o v,M.c b o=some v→w.cell? ⟨b,o,none⟩=some v) (hb:∀ b o,M.b b=some o→w.heap[b]?=some o) (hG:GInv gl M) :
 Go.Lib.TabIs P w name k zs:=by
 obtain⟨hv,cs,t,x,h2,h3⟩:=hG g _ hg
 have h4:=hb _ _ h2
 unfold Go.Lib.TabIs World.var?
 rw[hn]
 simp only[Option.bind_some,h4,Option.some.injEq]
 simp only[PV.cells,List.length_map] at h3
 apply Array.ext
 ·simpa using h3
 ·intro i hi1 hi2
  have hi:i<zs.length:=by omega
  cases hv with
  | vp _ _ _ f hm hr=>
   have hy:(PV.agg (zs.map (PV.int k))).cells[i]?=some (.int k zs[i]):=by simp [PV.cells,hi]
   have q1:=hc _ _ _ (hm i _ hy)
   have q2:=hr i _ hy
   have q3:f i = .int k zs[i]:=by
    generalize f i=u at q2
    cases q2;rfl
   rw[q3] at q1
   have q4:cs[i]?=some (.int k zs[i]):=by simpa [World.cell?,h4] using q1
   rw[Array.getElem?_eq_getElem hi1] at q4
   simpa using q4
theorem ginv_tab {W:World} {g:Nat} {name:String} {k:IntKind} {zs:List Int} {v:PV} (hn:P.globalNamed name=some g) (ht:Go.Lib.TabIs P W name k zs) (hv:v = .agg (zs.map (PV.int k))):GInv (glOf [(g,v)]) (imm [] [] W):=by
 intro n v' hv'
 unfold glOf at hv'
 cases hq:Nat.beq n g with
 | false=>rw[hq] at hv';cases hv'
 | true=>
  rw[hq] at hv'
  have e:=Nat.eq_of_beq_eq_true hq
  subst e
  simp only[cond_true,Option.some.injEq] at hv'
  subst hv'
  subst hv
  unfold Go.Lib.TabIs World.var? at ht
  rw[hn] at ht
  simp only[Option.bind_some] at ht
  cases hb:W.heap[n]? with
  | none=>rw[hb] at ht;cases ht
  | some o=>
   rw[hb] at ht
   cases o with
   | cells cs t x=>
    simp only[Option.some.injEq] at ht
    refine⟨.vp _ n 0 (fun j=>(zs.map fun z=>Value.int k z).getD j undef) (fun j y hy=>?_) (fun j y hy=>?_),cs,t,x,zhQ hb,by rw[ht];simp [PV.cells]⟩
    ·have hj:j<zs.length:=by have:=z0g hy;simpa [PV.cells] using this
     refine zeP ?_
     simp [World.cell?,hb,ht,hj,List.getD_eq_getElem?_getD]
    ·have hj:j<zs.length:=by have:=z0g hy;simpa [PV.cells] using this
     have e1:y = .int k zs[j]:=by simpa [PV.cells,hj] using hy.symm
     have e2:(zs.map fun z=>Value.int k z).getD j undef = .int k zs[j]:=by simp [List.getD_eq_getElem?_getD,hj]
     rw[e1,e2]
     exact .int k _
   | _=>cases ht
theorem zvd (w:World) (k:Nat) (os:Array Go.Obj):WExt w (Go.Sort.grow (w.drewN k) os):=by
 refine⟨?_,fun b hb=>?_,rfl⟩
 ·show w.heap.size≤(w.heap++os).size
  simp
 ·show (w.heap++os)[b]?=_
  rw[Array.getElem?_append_left hb]
theorem itoaRow {ρ:Ren} (L:Go.Proofs.LaysM.n171 P ρ) (g:Nat) (hn:P.globalNamed "internal/strconv.uint64pow10" = some g) (hg:gl g=some zck) (he:∀ us w,(callFunc (ρ.f 171) us).run P w = .ok (.enter (ρ.f 171) us) w):PureRow P gl (ρ.f 171) zjH where
 enter:=he
 run M w vs r us hc hb hG hl hr hs:=by
  unfold zjH at hs
  split at hs
  ·rename_i n
   match us,hl with
   | [u],_=>
    have q:=hr 0 _ u rfl rfl
    cases q
    cases hbd:(decide (-9223372036854775808≤n)&&decide (n≤9223372036854775807)) with
    | false=>rw[hbd] at hs;cases hs
    | true=>
     rw[hbd] at hs
     simp only[cond_true,Option.some.injEq] at hs
     subst hs
     simp only[Bool.and_eq_true,decide_eq_true_eq] at hbd
     have hpw:zck = .agg (Go.Lib.pow10Tab.map (PV.int .u64)):=by unfold zck Go.Lib.pow10Tab;rw[List.map_map];rfl
     rw[hpw] at hg
     refine (Go.Proofs.Any.strconv_Itoa L n hbd.1 hbd.2 w (tab_of hn hg hc hb hG)).mono fun e w' h=>?_
     obtain⟨rfl,k,os,rfl⟩:=h
     exact⟨_,rfl,zvd w k os,by rw[zvp];exact .p _ _ (.str _)⟩
  ·cases hs
end Go.Am
end
section
/- The abstract machine,part L6: scanref2.setting (a range over slices.Backward with a return inside) asv a row,out of what the walk says of it. -/
set_option linter.all false
namespace Go.Am
variable {P:Program} {gl:Nat→Option PV}
theorem zhS {y:PV} (h:zgd y=true):∃ a b c s t u,y = .agg [.int .i64 a,.int .i64 b,.int .i64 c,.str s,.str t,.str u]:=by
 unfold zgd at h
 split at h
 ·exact⟨_,_,_,_,_,_,rfl⟩
 ·cases h
def cmdW (a b c:Int) (s t u:List UInt8):Value:=.agg #[.int .i64 a,.int .i64 b,.int .i64 c,.string ⟨s.toArray⟩,.string ⟨t.toArray⟩,.string ⟨u.toArray⟩]
theorem zgV (M:Mem) (a b c:Int) (s t u:List UInt8):RPV M (.agg [.int .i64 a,.int .i64 b,.int .i64 c,.str s,.str t,.str u]) (cmdW a b c s t u):=by
 refine .agg _ [_,_,_,_,_,_] rfl fun j y v h1 h2=>?_
 match j with
 | 0=>cases h1;cases h2;exact .int _ _
 | 1=>cases h1;cases h2;exact .int _ _
 | 2=>cases h1;cases h2;exact .int _ _
 | 3=>cases h1;cases h2;exact .str _
 | 4=>cases h1;cases h2;exact .str _
 | 5=>cases h1;cases h2;exact .str _
 | j+6=>simp at h1
def z54 (xs:List PV) (j q:Nat):Value:=match xs[j]? with
 | some (.agg [.int .i64 a,.int .i64 b,.int .i64 c,.str s,.str t,.str u])=>match q with
  | 0=>.int .i64 a | 1=>.int .i64 b | 2=>.int .i64 c | 3=>.string ⟨s.toArray⟩ | 4=>.string ⟨t.toArray⟩ | _=>.string ⟨u.toArray⟩
 | _=>match q with
  | 0=>.int .i64 0 | 1=>.int .i64 1 | 2=>.int .i64 0 | _=>.string ⟨#[]⟩
theorem z4m {xs:List PV} {j:Nat} {a b c:Int} {s t u:List UInt8} (h:xs[j]?=some (.agg [.int .i64 a,.int .i64 b,.int .i64 c,.str s,.str t,.str u])) (q:Nat) :
 z54 xs j q=match q with
 | 0=>.int .i64 a | 1=>.int .i64 b | 2=>.int .i64 c | 3=>.string ⟨s.toArray⟩ | 4=>.string ⟨t.toArray⟩ | _=>.string ⟨u.toArray⟩:=by
 unfold z54;rw[h]
theorem zdg {xs:List PV} {j:Nat} (h:xs[j]?=none) (q:Nat) :
 z54 xs j q=match q with
 | 0=>.int .i64 0 | 1=>.int .i64 1 | 2=>.int .i64 0 | _=>.string ⟨#[]⟩:=by
 unfold z54;rw[h]
def Cmds (f:Nat→Nat→Value) (kd:Nat→Int):Prop:=∀ j,∃ b c s t u,f j 0 = .int .i64 (kd j)∧f j 1 = .int .i64 b∧f j 2 = .int .i64 c∧f j 3 = .string s∧f j 4 = .string t∧f j 5 = .string u
def zyM (P:Program) (fn:Nat):Prop:=
 (∀ (b off len cap i:Nat) (k:Int) (f:Nat→Nat→Value) (kd:Nat→Int) (w:World),i≤len→len≤cap→Cmds f kd→len*200≤140737488351232 →
  (b<w.heap.size∧∀ j q,j<len→q<6→w.cell? ⟨b,off+(6*j+q),none⟩=some (f j q)) →
  Calls P fn #[.slice (some ⟨b,off,none⟩) len cap,.int .i64 i,.int .i64 k] w fun e W'=>
   ((∃ j,j<i∧e = .returned (.agg #[f j 0,f j 1,f j 2,f j 3,f j 4,f j 5])∧kd j=k∧∀ j',j<j'→j'<i→kd j'≠k) ∨
    (e = .returned (.agg #[.int .i64 0,.int .i64 1,.int .i64 0,.string ⟨#[]⟩,.string ⟨#[]⟩,.string ⟨#[]⟩])∧∀ j,j<i→kd j≠k))∧Go.RowKit.Below w.heap.size w W') ∧
 (∀ (a:Option Addr) (cap:Nat) (k:Int) (w:World),Calls P fn #[.slice a 0 cap,.int .i64 0,.int .i64 k] w fun e W'=>
  e = .returned (.agg #[.int .i64 0,.int .i64 1,.int .i64 0,.string ⟨#[]⟩,.string ⟨#[]⟩,.string ⟨#[]⟩])∧Go.RowKit.Below w.heap.size w W')
theorem z8o {xs:List PV} (h:xs.all zgd=true) (j:Nat) :
 (xs.length≤j∧xs[j]?=none)∨(j<xs.length∧∃ a b c s t u,xs[j]?=some (.agg [.int .i64 a,.int .i64 b,.int .i64 c,.str s,.str t,.str u])):=by
 rcases Nat.lt_or_ge j xs.length with h1 | h1
 ·obtain⟨a,b,c,s,t,u,e⟩:=zhS (List.all_eq_true.1 h _ (List.getElem_mem h1))
  exact .inr ⟨h1,a,b,c,s,t,u,by rw[List.getElem?_eq_getElem h1,e]⟩
 ·exact .inl ⟨h1,List.getElem?_eq_none h1⟩
theorem zmS {xs:List PV} (h:xs.all zgd=true):Cmds (z54 xs) fun j=>zbF ((xs[j]?).getD zpN):=fun j=>by
 rcases z8o h j with ⟨_,e⟩ | ⟨_,a,b,c,s,t,u,e⟩
 ·simp only[zdg e,e]
  exact⟨_,_,_,_,_,rfl,rfl,rfl,rfl,rfl,rfl⟩
 ·simp only[z4m e,e]
  exact⟨_,_,_,_,_,rfl,rfl,rfl,rfl,rfl,rfl⟩
theorem zbU {p:PV→Bool}:∀ {l:List PV} {j:Nat} {y:PV},l[j]?=some y→p y=true→(∀ j' z,j<j'→l[j']?=some z→p z=false)→l.reverse.find? p=some y:=by
 intro l
 induction l with
 | nil=>intro j y h;simp at h
 | cons a r ih=>
  intro j y h hp hn
  rw[List.reverse_cons,List.find?_append]
  cases j with
  | succ j=>
   rw[ih (j:=j) (by simpa using h) hp (fun j' z h1 h2=>hn (j'+1) z (by omega) (by simpa using h2))]
   rfl
  | zero=>
   simp only[List.getElem?_cons_zero,Option.some.injEq] at h
   subst h
   have:r.reverse.find? p=none:=by
    rw[List.find?_eq_none]
    intro z hz
    obtain⟨j',h1⟩:=List.mem_iff_getElem?.1 (List.mem_reverse.1 hz)
    simp [hn (j'+1) z (by omega) (by simpa using h1)]
   rw[this]
   simp [hp]
theorem y1o {fn:Nat} (H:zyM P fn) (he:∀ us w,(callFunc fn us).run P w = .ok (.enter fn us) w):PureRow P gl fn z5g where
 enter:=he
 run M w vs r us hc hb hG hl hr hs:=by
  unfold z5g at hs
  split at hs
  ·rename_i xs i k
   split at hs
   ·rename_i hcd
    obtain⟨h0,hi,hlen,hall⟩:=hcd
    simp only[Option.some.injEq] at hs
    subst hs
    match us,hl with
    | [u0,u1,u2],_=>
     have q0:=hr 0 _ u0 rfl rfl
     have q1:=hr 1 _ u1 rfl rfl
     cases q1
     have q2:=hr 2 _ u2 rfl rfl
     cases q2
     obtain⟨n,rfl⟩:∃ n:Nat,i=n:=⟨i.toNat,by omega⟩
     simp only[Int.toNat_natCast]
     have hidle:∀ M',RAV M' [] [] (.p zpN) (.agg #[.int .i64 0,.int .i64 1,.int .i64 0,.string ⟨#[]⟩,.string ⟨#[]⟩,.string ⟨#[]⟩]):=fun M'=>.p _ _ (zgV M' 0 1 0 [] [] [])
     generalize hsh:(some 6:Sh)=sh at q0
     cases q0 with
     | nils _ a cap=>
      obtain rfl:n=0:=by simpa using hi
      refine (H.2 a cap k w).mono fun e w' h=>?_
      obtain⟨rfl,h⟩:=h
      exact⟨_,rfl,z4k h,hidle _⟩
     | sl _ _ b o cap f hne hcap hshp hm hrr=>
      have hn6:∀ x∈xs,x.cells.length=6:=fun x hx=>by
       obtain⟨a,b,c,s,t,u,e⟩:=zhS (List.all_eq_true.1 hall x hx)
       rw[e];rfl
      have hcell:∀ j q,j<xs.length→q<6→w.cell? ⟨b,o+(6*j+q),none⟩=some (z54 xs j q):=by
       intro j q hj hq
       rcases z8o hall j with ⟨h1,_⟩ | ⟨_,a,b',c,s,t,u,e⟩
       ·omega
       ·have hf:=z2T hn6 j q hq
        rw[e] at hf
        rw[Nat.mul_comm 6 j]
        rw[z4m e]
        have hq':q=0∨q=1∨q=2∨q=3∨q=4∨q=5:=by omega
        rcases hq' with rfl | rfl | rfl | rfl | rfl | rfl <;>
        ·have h1:=hc _ _ _ (hm _ _ hf)
         have h2:=hrr _ _ hf
         revert h1 h2
         generalize f _=fj
         intro h1 h2
         cases h2
         exact h1
      have hb0:b<w.heap.size:=z8d (hcell 0 0 (List.length_pos_iff.2 hne) (by omega))
      refine (H.1 b o xs.length cap n k (z54 xs) (fun j=>zbF ((xs[j]?).getD zpN)) w (by omega) hcap (zmS hall) (by omega) ⟨hb0,hcell⟩).mono fun e w' h=>?_
      obtain⟨h,hB⟩:=h
      rcases h with ⟨j,hj,rfl,hk,hlast⟩ | ⟨rfl,hnone⟩
      ·rcases z8o hall j with ⟨h1,_⟩ | ⟨_,a,b',c,s,t,u,e⟩
       ·omega
       ·have hfd:z2U (xs.take n) k = .agg [.int .i64 a,.int .i64 b',.int .i64 c,.str s,.str t,.str u]:=by
         unfold z2U
         rw[zbU (j:=j) (y:=.agg [.int .i64 a,.int .i64 b',.int .i64 c,.str s,.str t,.str u]) (by rw[List.getElem?_take,if_pos hj];exact e) (by rw[e] at hk;simpa using hk) (fun j' z h1 h2=>by
          rw[List.getElem?_take] at h2
          split at h2
          ·rename_i h3
           have:=hlast j' h1 h3
           rw[h2] at this
           simpa using this
          ·cases h2)]
         rfl
        refine⟨_,rfl,z4k hB,?_⟩
        rw[hfd]
        simp only[z4m e]
        exact .p _ _ (zgV _ a b' c s t u)
      ·have hfd:z2U (xs.take n) k=zpN:=by
        unfold z2U
        rw[List.find?_eq_none.2]
        ·rfl
        ·intro z hz
         obtain⟨j',h1⟩:=List.mem_iff_getElem?.1 (List.mem_reverse.1 hz)
         rw[List.getElem?_take] at h1
         split at h1
         ·rename_i h3
          have:=hnone j' h3
          rw[h1] at this
          simpa using this
         ·cases h1
       refine⟨_,rfl,z4k hB,?_⟩
       rw[hfd]
       exact hidle _
   ·cases hs
  ·cases hs
end Go.Am
end
section
/- The abstract machine,part L3: strconv.Atoi asv a row. -/
set_option linter.all false
namespace Go.Am
variable {P:Program} {gl:Nat→Option PV}
open Go.Shelf
theorem zbX:∀ (l:List UInt8) (acc n k:Nat),digN acc l=some n→acc<10^k→l.length+k≤18→Go.Lib.parseUint10 acc l = .ok n∧n<10^(k+l.length)
 | [],acc,n,k,h,ha,hl=>by
  simp only[digN,Option.some.injEq] at h
  subst h
  exact⟨rfl,by simpa using ha⟩
 | c::r,acc,n,k,h,ha,hl=>by
  simp only[digN] at h
  split at h
  ·rename_i hc
   simp only[List.length_cons] at hl ⊢
   have h18:10^(k+1)≤10^18:=Nat.pow_le_pow_right (by omega) (by omega)
   have e18:(10:Nat)^18=1000000000000000000:=rfl
   have hp:acc*10+(c.toNat-48)<10^(k+1):=by rw[Nat.pow_succ];omega
   obtain⟨q1,q2⟩:=zbX r _ n (k+1) h hp (by omega)
   refine⟨?_,by rw[show k+(r.length+1)=k+1+r.length by omega];exact q2⟩
   unfold Go.Lib.parseUint10
   rw[if_pos hc,if_neg (by omega),if_neg (by omega)]
   exact q1
  ·cases h
theorem zvo {s:List UInt8} {n:Nat} (h1:1≤s.length) (h2:s.length≤18) (h:digN 0 s=some n):Go.Lib.atoiAll s = .ok (n:Int):=by
 obtain⟨q1,q2⟩:=zbX s 0 n 0 h (by simp) (by omega)
 have h18:10^(0+s.length)≤10^18:=Nat.pow_le_pow_right (by omega) (by omega)
 have e18:(10:Nat)^18=1000000000000000000:=rfl
 cases s with
 | nil=>simp at h1
 | cons c r=>
  have hc:48≤c.toNat∧c.toNat≤57:=by
   simp only[digN] at h
   split at h
   ·assumption
   ·cases h
  unfold Go.Lib.atoiAll
  dsimp only
  rw[if_neg (by omega)]
  have hm:Go.Lib.parseMag (c::r) = .ok n:=by unfold Go.Lib.parseMag;rw[if_neg (by simp)];exact q1
  rw[hm]
  dsimp only
  rw[if_neg (by omega),if_neg (by omega),if_neg (by omega)]
theorem zq5 {s:List UInt8} {n:Nat} (h1:2≤s.length) (h2:s.length≤18) (h0:s.head?=some 45) (h:digN 0 s.tail=some n):Go.Lib.atoiAll s = .ok (-(n:Int)):=by
 cases s with
 | nil=>simp at h1
 | cons c r=>
  simp only[List.head?_cons,Option.some.injEq] at h0
  subst h0
  simp only[List.tail_cons,List.length_cons] at h h1 h2
  obtain⟨q1,q2⟩:=zbX r 0 n 0 h (by simp) (by omega)
  have h18:10^(0+r.length)≤10^18:=Nat.pow_le_pow_right (by omega) (by omega)
  have e18:(10:Nat)^18=1000000000000000000:=rfl
  have hm:Go.Lib.parseMag r = .ok n:=by
   unfold Go.Lib.parseMag
   rw[if_neg (by intro e;subst e;simp at h1)]
   exact q1
  have e45:(45:UInt8).toNat=45:=rfl
  unfold Go.Lib.atoiAll
  dsimp only
  rw[if_pos (Or.inr e45),hm]
  dsimp only
  rw[if_neg (by simp [e45]),if_neg (by omega),if_pos e45]
theorem zmF (w:World) (e:TypeId) (t:ByteArray):WExt w (Go.Lib.bytesWorld w e t):=
 ⟨by rw[Go.Lib.bytesWorld_size];omega,fun b hb=>Go.Lib.bytesWorld_at_old w e t b hb,by unfold zed Go.Lib.bytesWorld World.freeze;split <;> rfl⟩
theorem atoiRow {ρ:Ren} (L:Go.Proofs.LaysC.n172 P ρ) (he:∀ us w,(callFunc (ρ.f 172) us).run P w = .ok (.enter (ρ.f 172) us) w):PureRow P gl (ρ.f 172) zfL where
 enter:=he
 run M w vs r us hc hb hG hl hr hs:=by
  unfold zfL at hs
  split at hs
  ·rename_i s
   match us,hl with
   | [u],_=>
    have q:=hr 0 _ u rfl rfl
    cases q
    split at hs
    ·rename_i hbd
     have hv:∃ v:Int,Go.Lib.atoiAll s = .ok v∧r = .tup [.p (.int .i64 v),.nili]:=by
      split at hs
      ·rename_i n hn
       simp only[Option.some.injEq] at hs
       exact⟨_,zvo hbd.1 hbd.2 hn,hs.symm⟩
      ·split at hs
       ·rename_i h45
        obtain⟨n,hn,rfl⟩:=Option.map_eq_some_iff.1 hs
        exact⟨_,zq5 h45.2 hbd.2 h45.1 hn,rfl⟩
       ·cases hs
     obtain⟨n,hn,rfl⟩:=hv
     have hsz:(⟨s.toArray⟩:ByteArray).size=s.length:=by simp [ByteArray.size]
     refine (Go.Proofs.Any.strconv_Atoi_ok L ⟨s.toArray⟩ (by rw[hsz];omega) n hn w).mono fun e w' h=>?_
     obtain⟨rfl,h⟩:=h
     refine⟨_,rfl,?_,?_⟩
     ·rcases h with h | ⟨t,h⟩
      ·rw[h];exact WExt.refl _
      ·rw[h];exact zmF _ _ t
     ·refine .tup _ [.int .i64 n,.nilIface] rfl (fun j y v h1 h2=>?_)
      match j with
      | 0=>simp at h1 h2;subst h1;subst h2;exact .p _ _ (.int _ _)
      | 1=>simp at h1 h2;subst h1;subst h2;exact .nili
      | j+2=>simp at h1
    ·cases hs
  ·cases hs
end Go.Am
end
