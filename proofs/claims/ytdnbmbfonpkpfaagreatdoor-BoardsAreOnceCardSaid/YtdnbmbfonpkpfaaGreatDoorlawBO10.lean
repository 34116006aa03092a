/- Texts of the proof, laid together: SpReady, SpLawUN, SpKeep, SpLawBO, Bridge, AmL2. -/
import Derived.KernelRfl
import Derived.ProofKit
import Derived.Shelf.Strconv.Itoa3
import Derived.Lib.LaidTab
import Derived.Test.YtdnbmbfonpkpfaaGreatDoorlawBO9
set_option linter.all false
section
/- ready: a z0I call,computed. -/
open Go
set_option linter.all false
namespace Go.Am
def orcP (f:Nat) (a:List AV):Option AV:=bif Nat.beq f z9t then match a with
 | [.p (.int .i64 x),.p (.int .i64 y)]=>bif decide (0≤x)&&decide (x<16)&&decide (0≤y)&&decide (y<16) then some (.p (.str (zzb x.toNat y.toNat))) else none
 | _=>none else none
theorem zza:∀ f a v,orcP f a=some v→∀ h (K:Post),K v h []→z0c X0 f a h K:=by
 intro f a v hv h K hK
 unfold orcP at hv
 cases hf:Nat.beq f z9t with
 | false=>rw[hf] at hv;cases hv
 | true=>
  have hf':=Nat.eq_of_beq_eq_true hf
  rw[hf] at hv
  subst hf'
  simp only[cond_true] at hv
  split at hv
  ·rename_i x y
   cases hc:(decide (0≤x)&&decide (x<16)&&decide (0≤y)&&decide (y<16)) with
   | false=>rw[hc] at hv;cases hv
   | true=>
    rw[hc] at hv
    simp only[cond_true,Option.some.injEq] at hv
    simp only[Bool.and_eq_true,decide_eq_true_eq] at hc
    obtain⟨a,rfl⟩:=Int.eq_ofNat_of_zero_le hc.1.1.1
    obtain⟨b,rfl⟩:=Int.eq_ofNat_of_zero_le hc.1.2
    have:=g_path (h:=h) (K:=K) zgo zgn a b (by omega) (by omega)
    rw[this]
    subst hv
    exact hK
  ·cases hv
theorem zuG:z9b X0 orcP 1000 60 z9f [] []=some (AB true,[],[]):=by kernel_rfl
theorem zzO:z0c X0 z9f [] [] fun v h x=>v=AB true∧h=[]∧x=[]:=(zjX zza 1000 60 zuG _).2 ⟨rfl,rfl,rfl⟩
theorem zzm {h:Heap} {K:Post}:z0c X z9f [] h K=K (AB true) h []:=zbZ (by kernel_rfl) rfl
end Go.Am
end
section
/- UndoneIsNothing returns true. -/
open Go
set_option linter.all false
set_option maxRecDepth 100000
namespace Go.Am
variable {L:List Int} {a:Int} {h:Heap} {K:Post}
attribute [-go_sem] oEqa
def ze8:List Nm:=[[115,99,97,110],[102,108,97,115,104],[98,117,114,110]]
theorem zyr {n:Nat} {tries:Int} (h1:1≤n) (h2:n≤3) (t1:1≤tries) (t2:tries≤3):zfK (ze8.take n) tries=0∧(∀ s∈ze8.take n,s.length≤1000000)∧(ze8.take n).length≤1000:=by
 have hi:inB 1 tries 10=true:=by unfold inB;simp;omega
 refine⟨?_,fun s hs=>?_,by rw[List.length_take];show min n 3≤1000;omega⟩
 ·unfold zfK
  have:n=1∨n=2∨n=3:=by omega
  rcases this with e | e | e <;> subst e
  ·rw[if_neg (by decide),if_neg (by decide),if_neg (by decide),hi];rfl
  ·rw[if_neg (by decide),if_neg (by decide),if_neg (by decide),hi];rfl
  ·rw[if_neg (by decide),if_neg (by decide),if_neg (by decide),hi];rfl
 ·have:=List.mem_of_mem_take hs
  simp only[ze8,List.mem_cons,List.not_mem_nil,or_false] at this
  rcases this with e | e | e <;> rw[e] <;> simp
theorem zfM (hp:posN 10 a):GenE zaI [] L a (fun v a2=>a2=a+1+1∧∃ (n:Nat) (tries:Int),1≤n∧n≤3∧1≤tries∧tries≤3∧v=z5v (ze8.take n) tries):=by
 refine GenE.of fun h id hid=>?_
 rw[c_q02n rfl]
 have p0:posN 0 a:=z0O hp (by omega) (by omega)
 have p1:posN 0 (a+1):=z0O hp (by omega) (by omega)
 have r1:1≤z1f 1 3 L a∧z1f 1 3 L a≤3:=z2o L a (by omega) (by omega)
 have r2:1≤z1f 1 3 L (a+1)∧z1f 1 3 L (a+1)≤3:=z2o L (a+1) (by omega) (by omega)
 obtain⟨n,hn⟩:∃ n:Nat,z1f 1 3 L a=n:=⟨(z1f 1 3 L a).toNat,by omega⟩
 generalize ht:z1f 1 3 L (a+1)=tries at *
 have n3:n≤3:=by omega
 have hw:win [PV.str [115,99,97,110],.str [102,108,97,115,104],.str [98,117,114,110]] 0 n=(ze8.take n).map PV.str:=by simp [win,ze8,List.map_take]
 simp only[zmI,go_sem,hid,p0,p1,hn,ht,n3,hw,splice]
 first
 | exact⟨a+1+1,⟨rfl,n,tries,by omega,n3,by omega,by omega,rfl⟩,rfl⟩
 | trace_state
end Go.Am
end
section
/- What all laws of the keep package use. -/
open Go
set_option linter.all false
namespace Go.Am
variable {h:Heap} {K:Post}
theorem zzl (l:List Int) (hl:l.length≤1000):z0c X z7w [AL l] h K=K (AI (z4L l)) h []:=by
 refine rule ?_
 rw[c_q023 rfl]
 simp only[zhe,go_sem]
 refine z08 (fun k:Nat=>⟨[(5,AL l),(6,AI l.length),(7,AI k)],h,[]⟩) (fun k=>k≤l.length∧z4L (l.drop k)=z4L l) (fun k=>l.length-k) 0 rfl (by simp) ?_
 rintro k ⟨hk,hp⟩
 rcases Nat.lt_or_ge k l.length with hlt | hge
 ·have hg:=z0K eI hlt
  have w2:IntKind.i64.wrap ((k:Int)+1)=((k+1:Nat):Int):=z0l _ (by omega) (by omega)
  rw[List.drop_eq_getElem_cons hlt,z4L] at hp
  by_cases he:l[k]=0
  ·rw[if_pos he] at hp
   simp only[go_sem,hlt,hg,w2,he]
   exact⟨k+1,rfl,⟨by omega,hp⟩,by omega⟩
  ·rw[if_neg he] at hp
   simp only[go_sem,hlt,hg,w2,he]
   rw[hp]
 ·have e1:k=l.length:=by omega
  subst e1
  simp only[go_sem,Nat.lt_irrefl]
  rw[List.drop_length] at hp
  rw[← hp];rfl
end Go.Am
end
section
/- BoardsAreOnce returns true. -/
open Go
set_option linter.all false
set_option maxRecDepth 100000
namespace Go.Am
variable {L:List Int} {a:Int} {h:Heap} {K:Post}
attribute [-go_sem] oEqa
def z0W (bs:Brds) (k:Nat) (s:Int):Int:=(((b4N.take k).filter (z9x bs s)).length:Nat)
theorem zqf {F:Flo} {steps:List Nm} (B:Boo F steps) (s:Int):z0W F.bs 4 s=cntS F.bs s:=by
 unfold z0W
 rw[show b4N.take 4=b4N from rfl,B.cnt]
theorem zj0 {bs:Brds} {k:Nat} (hk:k<4) (s:Int):z0W bs (k+1) s=z0W bs k s+if z9x bs s (b4N[k]'(by show k<4;exact hk))=true then 1 else 0:=by
 unfold z0W
 rw[List.take_succ_eq_append_getElem (by show k<4;exact hk),List.filter_append,List.length_append,List.filter_cons]
 split <;> simp
theorem zpZ:∀ a b:Nm,Op.bytesLess a b=decide (a<b)
 | [],[]=>by simp [Op.bytesLess]
 | [],_::_=>by simp [Op.bytesLess]
 | _::_,[]=>by simp [Op.bytesLess]
 | a::x,b::y=>by
  have ih:=zpZ x y
  unfold Op.bytesLess
  rw[ih,Bool.eq_iff_iff]
  simp [List.cons_lt_cons_iff]
theorem zpY {a b:Nm} (h:a<b):(Op.bytesLess b a||decide (b=a))=false:=by
 rw[zpZ,Bool.or_eq_false_iff,decide_eq_false_iff_not,decide_eq_false_iff_not]
 exact⟨List.lt_asymm h,fun e=>by subst e;exact List.lt_irrefl _ h⟩
attribute [-go_sem] z8T z8U z8V
theorem bo_k6 {H:Heap} {K:Ex→St→Prop} (P:List (Nm × Nm)) (hP:P.Pairwise fun a b=>a.1<b.1) (hl:P.length≤100000) (fin:K .ret ⟨[(2,AB true)],H,[]⟩) :
 NW (z0c X) X.gl z6i ⟨[(7,z2I P)],H,[]⟩ K:=by
 rw[z8U]
 simp only[z5D,go_sem]
 refine z08 (fun k:Nat=>⟨[(7,z2I P),(20,AI ((k+1:Nat):Int))],H,[]⟩) (fun _=>True) (fun k=>P.length-k) 0 rfl trivial ?_
 intro k _
 have pl:(P.map z1d).length=P.length:=List.length_map ..
 rcases Nat.lt_or_ge (k+1) P.length with hlt | hge
 ·have hk:k<P.length:=by omega
  have g1:(P.map z1d)[k+1]?=some (.agg [.str (P[k+1]).1,.str (P[k+1]).2]):=z0K z1d hlt
  have g2:(P.map z1d)[k]?=some (.agg [.str (P[k]).1,.str (P[k]).2]):=z0K z1d hk
  have w1:IntKind.i64.wrap (((k+1:Nat):Int)-1)=((k:Nat):Int):=by rw[z0l _ (by omega) (by omega)];omega
  have w2:IntKind.i64.wrap (((k+1:Nat):Int)+1)=((k+1+1:Nat):Int):=z0l _ (by omega) (by omega)
  have hc:((k+1:Nat):Int)<(P.length:Int):=by omega
  have hp:=zpY (List.pairwise_iff_getElem.1 hP k (k+1) hk hlt (by omega))
  simp only[go_sem,pl,hc,hlt,hk,g1,g2,w1,w2,hp]
  exact⟨k+1,rfl,by omega⟩
 ·have hc:¬ ((k+1:Nat):Int)<(P.length:Int):=by omega
  simp only[go_sem,pl,hc]
  rw[z8T]
  simp only[z8A,go_sem,zzm]
  exact fin
theorem bo_k7 {o0 o1:Obj} {K:Ex→St→Prop} {bs:Brds} (P:List (Nm × Nm)) (hP:P.Pairwise fun a b=>a.1<b.1) (hl:P.length≤100000) (hb:bs.length≤4) (hm:∀ s,z0W bs 4 s=cntS bs s)
 (fin:K .ret ⟨[(2,AB true)],[o0,o1,.box [AI (z0W bs 4 0),AI (z0W bs 4 1),AI (z0W bs 4 2),AI (z0W bs 4 3),AI (z0W bs 4 4),AI (z0W bs 4 5)]],[]⟩) :
 NW (z0c X) X.gl z4p ⟨[(7,z2I P),(9,z2I (z31 bs)),(11,.ref 2 0)],[o0,o1,.box [AI (z0W bs 4 0),AI (z0W bs 4 1),AI (z0W bs 4 2),AI (z0W bs 4 3),AI (z0W bs 4 4),AI (z0W bs 4 5)]],[]⟩ K:=by
 rw[z8V]
 have cl:(z31 bs).length=5:=rfl
 have pl:((z31 bs).map z1d).length=5:=rfl
 simp only[z5E,go_sem,pl]
 refine z08 (fun k:Nat=>⟨[(7,z2I P),(11,.ref 2 0),(123,z2I (z31 bs)),(124,AI 5),(125,AI k)],[o0,o1,.box [AI (z0W bs 4 0),AI (z0W bs 4 1),AI (z0W bs 4 2),AI (z0W bs 4 3),AI (z0W bs 4 4),AI (z0W bs 4 5)]],[]⟩) (fun k=>k≤5) (fun k=>5-k) 0 rfl (by omega) ?_
 intro k hk
 rcases Nat.lt_or_ge k 5 with hlt | hge
 ·have hc:(k:Int)<5:=by omega
  have hkl:k<(z31 bs).length:=by omega
  have g1:((z31 bs).map z1d)[k]?=some (.agg [.str (zcy.getD k []),.str (itoa (cntS bs ((k+1:Nat):Int)))]):=by
   match k,hlt with
   | 0,_=>rfl
   | 1,_=>rfl
   | 2,_=>rfl
   | 3,_=>rfl
   | 4,_=>rfl
  have w2:IntKind.i64.wrap ((k:Int)+1)=((k+1:Nat):Int):=z0l _ (by omega) (by omega)
  have gm:([AI (z0W bs 4 0),AI (z0W bs 4 1),AI (z0W bs 4 2),AI (z0W bs 4 3),AI (z0W bs 4 4),AI (z0W bs 4 5)]:List AV)[k+1]?=some (AI (cntS bs ((k+1:Nat):Int))):=by
   rw[← hm]
   match k,hlt with
   | 0,_=>rfl
   | 1,_=>rfl
   | 2,_=>rfl
   | 3,_=>rfl
   | 4,_=>rfl
  have hk1:k+1<6:=by omega
  have hcn:0≤cntS bs ((k+1:Nat):Int)∧cntS bs ((k+1:Nat):Int)≤4:=⟨by omega,by have:cntS bs ((k+1:Nat):Int)≤bs.length:=List.length_filter_le ..;omega⟩
  have IT:=fun h K=>zsr (h:=h) (K:=K) (cntS bs ((k+1:Nat):Int)) (by omega) (by omega)
  simp only[go_sem,hc,hlt,hkl,hk1,g1,Nat.mul_one,gm,w2,↓IT,IT]
  exact⟨k+1,rfl,by omega,by omega⟩
 ·have ek:k=5:=by omega
  subst ek
  have c3:¬ ((5:Nat):Int)<5:=by omega
  simp only[go_sem,c3]
  exact bo_k6 P hP hl fin
set_option maxHeartbeats 8000000 in
theorem law_BO (L:List Int) {K:Post}:z0c X zhD [AL L] [] K=K (AB true) [] []:=by
 refine rule ?_
 rw[c_q022 rfl]
 have pp:posN 100000 0:=by unfold posN;omega
 obtain⟨_,a1,⟨d1,n,tries,n1,n3,t1,t3,rfl⟩,V1⟩:=(zfM (L:=L) (a:=0) (z0O pp (by omega) (by omega))).hd (l:=[])
 have pr:posN 0 a1:=z0O pp (by omega) (by omega)
 have rb:0≤z1f 0 20 L a1∧z1f 0 20 L a1≤20:=z2o L a1 (by omega) (by omega)
 obtain⟨m,hm⟩:∃ m:Nat,z1f 0 20 L a1=m:=⟨(z1f 0 20 L a1).toNat,by omega⟩
 obtain⟨_,a2,⟨e1,e2,x,xl,xv,xf,rfl⟩,V2⟩:=(zam (L:=L) (a:=a1+1) (z0O pp (by omega) (by omega)) m (by omega)).hd (l:=[])
 have p2:posN 0 a2:=z0O pp (by omega) (by omega)
 have rA:0≤z1f 0 150 L a2∧z1f 0 150 L a2≤150:=z2o L a2 (by omega) (by omega)
 generalize hA:z1f 0 150 L a2=at_ at *
 obtain⟨f1,f2,f3⟩:=zyr n1 n3 t1 t3
 generalize ze8.take n=steps at *
 have Ox:StOk steps x:=⟨f3,f2,fun y hy=>(xv y hy).ok,by omega⟩
 have ea:=early xv xf
 have mo:momF at_=0:=by
  unfold momF z1L inB
  rw[if_pos (by simp;omega)]
 have fx:z3S steps tries x at_=0:=by unfold z3S;rw[f1,xf,mo];rfl
 have h0s:steps≠[]:=z1U fx
 have sub:(upL x at_).Sublist x:=List.take_sublist _ _
 have B:Boo (z1j steps tries (upL x at_)) steps:=zxU steps tries h0s (zoG sub xf) (fun y hy=>(xv y (sub.subset hy)).w) (fun y hy=>by have:=(xv y (sub.subset hy)).s;omega) (fun y hy=>(ea y (sub.subset hy)).1) (by omega)
 have RU:=fun h K=>zss (h:=h) (K:=K) steps tries x Ox at_
 have CO:=fun h K=>zuR (h:=h) (K:=K) steps tries x Ox at_
 have OF:=fun h K k hk=>s_Of (h:=h) (K:=K) steps tries x Ox k hk at_
 have WA:=fun h K step=>zst (h:=h) (K:=K) steps tries x Ox step at_ (by have:=B.len;omega)
 have eR:z6K steps tries x at_=(z6L (z1j steps tries (upL x at_)),0):=by unfold z6K;rw[if_neg (by simp [fx])]
 have eC:z86 steps tries x at_=(z31 (z1j steps tries (upL x at_)).bs,0):=by unfold z86;rw[if_neg (by simp [fx])]
 rw[eR] at RU
 rw[eC] at CO
 have ER:=fun h K=>zzl (h:=h) (K:=K) [0,0] (by simp)
 have e0:z4L [0,0]=0:=rfl
 rw[e0] at ER
 simp only[AL,List.map_cons,List.map_nil] at ER
 dsimp only at RU CO
 have cl:(z31 (z1j steps tries (upL x at_)).bs).length=5:=rfl
 simp only[zhd,go_sem,V1,V2,pr,p2,hm,hA,splice,↓RU,RU,↓CO,CO,↓ER,ER,cl,List.length_map]
 generalize hF:z1j steps tries (upL x at_)=F at *
 have rl:(z6L F).length≤1000:=by
  have h1:=(zpa tries h0s (l:=upL x at_) (fun y hy=>((z4C Ox at_).e y hy).s)).2.ln
  have h2:=(z4C Ox at_).l
  rw[hF] at h1
  unfold z6L
  rw[List.length_map,zfl,List.length_map]
  omega
 have rs:(z6L F).Pairwise fun a b=>a.1<b.1:=by
  obtain⟨_,I⟩:=B.fl
  have h1:=zfm I.ns
  unfold z6L
  rw[List.pairwise_map]
  exact h1
 have hm4:=zqf B
 have bl4:=B.len
 refine z08 (fun k:Nat=>⟨[(4,.ref 1 0),(5,z1t x),(6,AI at_),(7,z2I (z6L F)),(9,z2I (z31 F.bs)),(11,.ref 2 0),(56,AStr b4N),(57,AI 4),(58,AI k)],
  [strm L (a2+1),.box [AStr steps,AI tries],.box [AI (z0W F.bs k 0),AI (z0W F.bs k 1),AI (z0W F.bs k 2),AI (z0W F.bs k 3),AI (z0W F.bs k 4),AI (z0W F.bs k 5)]],[]⟩) (fun k=>k≤4) (fun k=>4-k) 0 rfl (by omega) ?_
 intro k hk
 rcases Nat.lt_or_ge k 4 with hlt | hge
 ·have hc:(k:Int)<4:=by omega
  have hk4:k<b4N.length:=hlt
  have g:=z0K PV.str hk4
  have wk:IntKind.i64.wrap ((k:Int)+1)=((k+1:Nat):Int):=z0l _ (by omega) (by omega)
  have sc:=fun s=>zj0 (bs:=F.bs) hlt s
  have bn:b4N[k]≠[]∧keyB b4N[k]=true∧(b4N[k]).length≤1000000:=by
   have:∀ b∈b4N,b≠[]∧keyB b=true∧b.length≤1000000:=by decide
   exact this _ (List.getElem_mem hk4)
  have mb:∀ s,0≤z0W F.bs k s∧z0W F.bs k s≤4:=fun s=>⟨by unfold z0W;omega,by
   have h1:=List.length_filter_le (z9x F.bs s) (b4N.take k)
   have h2:(b4N.take k).length≤4:=by rw[List.length_take];show min k 4≤4;omega
   unfold z0W;omega⟩
  have w6:∀ s,IntKind.i64.wrap (z0W F.bs k s+1)=z0W F.bs k s+1:=fun s=>z0l _ (by have:=mb s;omega) (by have:=mb s;omega)
  generalize b4N[k]=b at *
  obtain⟨b1,b2,b3⟩:=bn
  have cw:cutP none 0 (PV.str b)=some (PV.str b):=rfl
  have OFb:=fun h K=>OF h K b b3
  have oe:ofP steps tries x b at_=match getA (asA F.bs) b with
   | none=>(sta0,8)
   | some s=>(s,0):=by
   unfold ofP
   rw[if_neg (by simp [fx]),if_neg (by simp [b2]),hF]
   cases getA (asA F.bs) b <;> rfl
  rw[oe] at OFb
  have PR:=fun q h K=>zeV (h:=h) (K:=K) (z6L F) q (by omega)
  cases hg:getA (asA F.bs) b with
  | none=>
   rw[hg] at OFb
   dsimp only[Sta.pv,sta0] at OFb
   have hs:∀ s,z9x F.bs s b=false:=fun s=>by unfold z9x;rw[hg]
   simp only[go_sem,hc,hlt,hk4,g,cw,↓OFb,OFb,splice,wk]
   refine⟨k+1,?_,by omega,by omega⟩
   simp only[sc,hs,Bool.false_eq_true,if_false,Int.add_zero]
  | some st=>
   rw[hg] at OFb
   have bd:=B.st hg
   have br:=B.runs b1 hg
   have bw:=B.step hg
   have wm:=zvw hg
   have hs:∀ s,z9x F.bs s b=decide (st.state=s):=fun s=>by unfold z9x;rw[hg]
   obtain⟨s1,s2,s3,s4,s5⟩:=st
   dsimp only[Sta.pv] at OFb bd br bw wm hs
   have PRb:=PR (s4,b)
   rw[show decide ((s4,b)∈z6L F)=decide (s1=2) from by rw[decide_eq_decide];exact br] at PRb
   simp only[z1d] at PRb
   have v5:s1=1∨s1=2∨s1=3∨s1=4∨s1=5:=by omega
   have eqB:∀ b:Bool,oEqa [] true (AV.p (PV.bool b)) (AB b)=some (AB false):=fun b=>by simp [oEqa,pbool]
   rcases v5 with e | e | e | e | e
   ·subst e
    have hst:=bw rfl
    have se:zcs steps tries x s3 at_=0:=by
     unfold zcs
     rw[if_pos fx,List.contains_iff_mem.2 hst]
     rfl
    have we:z6N steps tries x s3 at_=(z5u F.bs s3,0):=by unfold z6N;rw[if_neg (by simp [se]),hF]
    have WAb:=fun h K=>WA h K s3
    rw[we] at WAb
    have wl:(z5u F.bs s3).length≤1000000:=by
     have:(z5u F.bs s3).length=(z6b F.bs s3).length:=z90 _ _
     have h2:(z6b F.bs s3).length≤F.bs.length:=by unfold z6b;rw[List.length_map];exact List.length_filter_le ..
     omega
    have CO:=fun h K=>z7W (h:=h) (K:=K) (v:=AStr (z5u F.bs s3)) (z5u F.bs s3) (fun _ _=>zco zi2) b wl
    rw[List.contains_iff_mem.2 (wm rfl)] at CO
    simp only[go_sem,hc,hlt,hk4,g,cw,↓OFb,OFb,splice,wk,↓PRb,PRb,eqB,w6,↓WAb,WAb,↓CO,CO]
    refine⟨k+1,?_,by omega,by omega⟩
    simp [sc,hs]
   all_goals
    subst e
    simp only[go_sem,hc,hlt,hk4,g,cw,↓OFb,OFb,splice,wk,↓PRb,PRb,eqB,w6]
    refine⟨k+1,?_,by omega,by omega⟩
    simp [sc,hs]
 ·have ek:k=4:=by omega
  subst ek
  have c3:¬ ((4:Nat):Int)<4:=by omega
  simp only[go_sem,c3]
  refine bo_k7 (z6L F) rs (by omega) bl4 hm4 ?_
  simp only[go_sem]
end Go.Am
end
section
/- From a law that is true here tov the model's calls at what came in. -/
open Go
namespace Go.Am
variable {P:Program}
theorem law_nil {X:Ctx} (HX:Fits P X) {f:Nat} {F:AFun} (hF:X.fn f=some F) (H:∀ L:List Int,z0c X f [zuC L] [] fun v _ _=>v = .p (.bool true)) (W:World) (hG:GInv X.gl (imm [] [] W)) :
 Calls P f #[.slice none 0 0] W fun e W'=>e = .returned (.bool true)∧RowKit.Below W.heap.size W W':=by
 refine (zgU HX hF (H []) (W:=W) (vs:=[.slice none 0 0]) hG rfl (fun j y v hy hv=>?_)).mono fun e W' he=>?_
 ·cases j with
  | zero=>cases hy;cases hv;exact zt0 W
  | succ j=>cases hy
 ·cases e with
  | returned r=>
   obtain⟨⟨v,h,x,μ,hk,hr⟩,hb⟩:=he
   subst hk
   exact⟨by rw[hr.p_bool],hb⟩
  | panicked _=>exact he.elim
  | outgrown=>exact he.elim
theorem law_ints {X:Ctx} (HX:Fits P X) {f:Nat} {F:AFun} (hF:X.fn f=some F) (H:∀ L:List Int,z0c X f [zuC L] [] fun v _ _=>v = .p (.bool true)) {W:World} (hG:GInv X.gl (imm [] [] W)) {a:Addr} {len cap:Nat} {zs:List Int}
 (hl:len≤cap) (hz:len≤zs.length) (hc:∀ i,i<zs.length→W.cell? (a.add i)=some (.int .i64 (zs.getD i 0))) :
 Calls P f #[.slice (some a) len cap] W fun e W'=>e = .returned (.bool true)∧RowKit.Below W.heap.size W W':=by
 refine (zgU HX hF (H (zs.take len)) (W:=W) (vs:=[.slice (some a) len cap]) hG rfl (fun j y v hy hv=>?_)).mono fun e W' he=>?_
 ·cases j with
  | zero=>
   cases hy;cases hv
   rcases Nat.eq_zero_or_pos len with h0 | h0
   ·subst h0
    exact .p _ _ (.nils _ _ _)
   ·exact zmp (by simpa [Addr.add] using World.cell?_spot (hc 0 (by omega))) hl hz hc
  | succ j=>cases hy
 ·cases e with
  | returned r=>
   obtain⟨⟨v,h,x,μ,hk,hr⟩,hb⟩:=he
   subst hk
   exact⟨by rw[hr.p_bool],hb⟩
  | panicked _=>exact he.elim
  | outgrown=>exact he.elim
end Go.Am
namespace Go.ChangeShapes
open Go.RowKit Go.WideShapes
section
variable {H:Type} {enc:TypeId × Value→H} {P:Program}
end
end Go.ChangeShapes
end
section
/- The abstract machine,part L2: the kit's contracts asv rows. -/
set_option linter.unusedSimpArgs false
set_option linter.unusedVariables false
namespace Go.Am
variable {P:Program} {gl:Nat→Option PV}
open Go.Shelf
theorem zqc:∀ n:Nat,Go.Lib.decDigits n=decN n:=by
 intro n
 induction n using Nat.strongRecOn with
 | _ n ih=>
  rw[Go.Lib.decDigits,decN]
  split
  ·rfl
  ·rw[ih _ (by omega)];rfl
theorem zuz (n:Int):Go.Lib.itoa n=itoa n:=by
 unfold Go.Lib.itoa itoa
 split
 ·rw[zqc]
 ·rw[zqc];congr 1;omega
theorem tab_of {M:Mem} {w:World} {g:Nat} {name:String} {k:IntKind} {zs:List Int} (hn:P.globalNamed name=some g) (hg:gl g=some (.agg (zs.map (PV.int k)))) (hc:∀ b o v,M.c b o=some v→w.cell? ⟨b,o,none⟩=some v) (hb:∀ b o,M.b b=some o→w.heap[b]?=some o) (hG:GInv gl M) :
 Go.Lib.TabIs P w name k zs:=by
 obtain⟨hv,cs,t,x,h2,h3⟩:=hG g _ hg
 have h4:=hb _ _ h2
 unfold Go.Lib.TabIs World.var?
 rw[hn]
 simp only[Option.bind_some,h4,Option.some.injEq]
 simp only[PV.cells,List.length_map] at h3
 apply Array.ext
 ·simpa using h3
 ·intro i hi1 hi2
  have hi:i<zs.length:=by omega
  cases hv with
  | vp _ _ _ f hm hr=>
   have hy:(PV.agg (zs.map (PV.int k))).cells[i]?=some (.int k zs[i]):=by simp [PV.cells,hi]
   have q1:=hc _ _ _ (hm i _ hy)
   have q2:=hr i _ hy
   have q3:f i = .int k zs[i]:=by
    generalize f i=u at q2
    cases q2;rfl
   rw[q3] at q1
   have q4:cs[i]?=some (.int k zs[i]):=by simpa [World.cell?,h4] using q1
   rw[Array.getElem?_eq_getElem hi1] at q4
   simpa using q4
theorem ginv_tab {W:World} {g:Nat} {name:String} {k:IntKind} {zs:List Int} {v:PV} (hn:P.globalNamed name=some g) (ht:Go.Lib.TabIs P W name k zs) (hv:v = .agg (zs.map (PV.int k))):GInv (glOf [(g,v)]) (imm [] [] W):=by
 intro n v' hv'
 unfold glOf at hv'
 cases hq:Nat.beq n g with
 | false=>rw[hq] at hv';cases hv'
 | true=>
  rw[hq] at hv'
  have e:=Nat.eq_of_beq_eq_true hq
  subst e
  simp only[cond_true,Option.some.injEq] at hv'
  subst hv'
  subst hv
  unfold Go.Lib.TabIs World.var? at ht
  rw[hn] at ht
  simp only[Option.bind_some] at ht
  cases hb:W.heap[n]? with
  | none=>rw[hb] at ht;cases ht
  | some o=>
   rw[hb] at ht
   cases o with
   | cells cs t x=>
    simp only[Option.some.injEq] at ht
    refine⟨.vp _ n 0 (fun j=>(zs.map fun z=>Value.int k z).getD j undef) (fun j y hy=>?_) (fun j y hy=>?_),cs,t,x,zhU hb,by rw[ht];simp [PV.cells]⟩
    ·have hj:j<zs.length:=by have:=z0f hy;simpa [PV.cells] using this
     refine zeB ?_
     simp [World.cell?,hb,ht,hj,List.getD_eq_getElem?_getD]
    ·have hj:j<zs.length:=by have:=z0f hy;simpa [PV.cells] using this
     have e1:y = .int k zs[j]:=by simpa [PV.cells,hj] using hy.symm
     have e2:(zs.map fun z=>Value.int k z).getD j undef = .int k zs[j]:=by simp [List.getD_eq_getElem?_getD,hj]
     rw[e1,e2]
     exact .int k _
   | _=>cases ht
theorem zul (w:World) (k:Nat) (os:Array Go.Obj):WExt w (Go.Sort.grow (w.drewN k) os):=by
 refine⟨?_,fun b hb=>?_,rfl⟩
 ·show w.heap.size≤(w.heap++os).size
  simp
 ·show (w.heap++os)[b]?=_
  rw[Array.getElem?_append_left hb]
theorem itoaRow {ρ:Ren} (L:Go.Proofs.LaysM.n171 P ρ) (g:Nat) (hn:P.globalNamed "internal/strconv.uint64pow10" = some g) (hg:gl g=some zcf) (he:∀ us w,(callFunc (ρ.f 171) us).run P w = .ok (.enter (ρ.f 171) us) w):PureRow P gl (ρ.f 171) zjx where
 enter:=he
 run M w vs r us hc hb hG hl hr hs:=by
  unfold zjx at hs
  split at hs
  ·rename_i n
   match us,hl with
   | [u],_=>
    have q:=hr 0 _ u rfl rfl
    cases q
    cases hbd:(decide (-9223372036854775808≤n)&&decide (n≤9223372036854775807)) with
    | false=>rw[hbd] at hs;cases hs
    | true=>
     rw[hbd] at hs
     simp only[cond_true,Option.some.injEq] at hs
     subst hs
     simp only[Bool.and_eq_true,decide_eq_true_eq] at hbd
     have hpw:zcf = .agg (Go.Lib.pow10Tab.map (PV.int .u64)):=by unfold zcf Go.Lib.pow10Tab;rw[List.map_map];rfl
     rw[hpw] at hg
     refine (Go.Proofs.Any.strconv_Itoa L n hbd.1 hbd.2 w (tab_of hn hg hc hb hG)).mono fun e w' h=>?_
     obtain⟨rfl,k,os,rfl⟩:=h
     exact⟨_,rfl,zul w k os,by rw[zuz];exact .p _ _ (.str _)⟩
  ·cases hs
end Go.Am
end
