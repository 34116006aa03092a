import Derived.Shelf.Strings.Repeat
import Derived.Shelf.Strings.SlTrimAscii
import Derived.Shelf.Spec.TrailingZeros
import Derived.Shelf.Strings.Count
import Derived.Shelf.Strings.OnBuilder
import Derived.Test.YthlhdniejglcnaaGreatDoorlawPY8
set_option linter.all false
set_option maxRecDepth 100000
set_option maxHeartbeats 0
namespace Go.Am
section
variable {h l l2:aA} {K:jA} {r:Run} {n:Nat} {o:Obj}
attribute [-go_sem] SA splice
attribute [local go_sem] ZV YV rc_1 rc_7 TV UV VV WV GF JI RM TM UM VM WM XM YM XV aW bW cW dW eW fW gW iW jW
attribute [local go_sem] mG NI vH wH LG fK mF sQ
def yK (r:Run):Prop:=r.ni<=r.ck/\r.nd<=r.ck
theorem gN {tov:Nat}(N:yK r):yK (r.go kA tov):=by
 obtain⟨_,_,_,_,_,c,a,b⟩:=EB kA r tov;obtain⟨x,y⟩:=N;exact⟨by rw[a,c];omega,by rw[b,c];omega⟩
structure SetR (s:Sett):Prop where
 s1:JB s.e1.s=true
 s2:JB s.e2.s=true
 h1:s.h1.b.length<=2000
 t1:s.t1.b.length<=2000
 h2:s.h2.b.length<=2000
 t2:s.t2.b.length<=2000
theorem zaB {c:Cmd}{hd al:List UInt8}{k:Nat}(hk:k<al.length):(YA c hd al)[k]?=some (if k=al.length-1 then 49 else 48,al[k],if hd.length<=k then(if k-hd.length<c.m.length then SC c (k-hd.length) else 120) else 120):=by
 unfold YA;rw[List.getElem?_map,List.getElem?_range hk,Option.map_some,List.getElem?_eq_getElem hk];rfl
theorem IW {c:Cmd}(h7:c.k=7):r.scn kA c=Run.go kA { Run.clk { r.go kA 11 with ni:=(r.go kA 11).ni+(r.se.h1.b++c.b++r.se.t1.b).length } (YA c r.se.h1.b (r.se.h1.b++c.b++r.se.t1.b)) with st:=12 } r.se.e1.s.toNat/\r.scnF kA c=(r.go kA 11).ck+r.se.h1.b.length:=by
 unfold Run.scn Run.scnF;simp [h7]
theorem zpD (R:RunOk r)(N:yK r)(hck:r.ck<=800000000)(hst:r.st∈stb)(S:SetR r.se)(c:Cmd)(h7:c.k=7)(hs:IC c=0):bA X lH [.ref (h.length+5) 0,ACm c] (rh h r l) K=K (AI (r.scnF kA c:Nat)) (rh h (r.scn kA c) l) []:=by
 refine sA ?_;rw[z5y rfl,(IW h7).1,(IW h7).2];have hw1:=λ(l:aA) (K':jA)=>mN (h:=h) (l:=l) (K:=K') R (by omega) (RB hst) (show 11∈toS by decide)
 simp only[show(((11:Nat)):Int)=11 from rfl]at hw1
 have R1:=kK (tov:=11) R
 have c1:(r.go kA 11).ck<=800000008:=by have:=(QB (RB hst) (show 11∈toS by decide)).2.1;rw[FJ];omega
 have N1:=gN (tov:=11) N
 generalize r.go kA 11=r1 at *;obtain⟨q1,q2,q3,q4,q5,q6⟩:=qF hs;obtain⟨n1,n2⟩:=vC S.s1;have hh:=S.h1;have ht:=S.t1
 generalize hhd:r.se.h1.b=hd at *;generalize htl:r.se.t1.b=tl at *;generalize hen:r.se.e1.s=en at *;obtain⟨en',rfl⟩:∃n:Nat,en=n:=⟨en.toNat,n2.symm⟩;simp only[Int.toNat_natCast]at n1 n2 ⊢;obtain⟨k,s,cl,b,w,m⟩:=c;dsimp only at h7 q1 q3 q6 ⊢;subst h7;have hbp:=List.length_pos_iff.2 q1
 have x1:hd.length+b.length<=QA:=by unfold QA;omega
 have x2:hd.length+(b.length+tl.length)<=QA:=by unfold QA;omega
 have x3:hd.length+b.length+tl.length<=QA:=by unfold QA;omega
 obtain⟨hn,hd'⟩:=N1;obtain⟨al,hal⟩:∃al,al=hd++b++tl:=⟨_,rfl⟩;have hall:al.length=hd.length+b.length+tl.length:=by rw[hal];simp;omega
 have hal2:=hal
 rw[List.append_assoc]at hal2;have w1:IntKind.i64.wrap ((r1.ni:Int)+(al.length:Int))=((r1.ni+al.length:Nat):Int):=BA _ (by omega) (by omega)
 have w2:IntKind.i64.wrap ((r1.ck:Int)+(hd.length:Int))=((r1.ck+hd.length:Nat):Int):=BA _ (by omega) (by omega)
 simp only[sO,go_sem,hw1,hhd,htl,hen,x1,x2,x3,<-hal,<-hal2,w1,w2];have R2:RunOk { r1 with ni:=r1.ni+al.length }:=⟨R1.t,R1.i,R1.w⟩
 have c2:{ r1 with ni:=r1.ni+al.length:Run }.ck=r1.ck:=rfl
 show UA (bA X) X.gl _ _ _ (rh h { r1 with ni:=r1.ni+al.length } _) []
 generalize { r1 with ni:=r1.ni+al.length:Run }=r2 at R2 c2 ⊢
 generalize hq:(⟨7,s,cl,b,w,m⟩:Cmd)=c at *;have hcm:c.m=m:=by rw[<-hq]
 have hcw:c.w=w:=by rw[<-hq]
 have hml:m.length<=b.length/\m.length<=w.length:=by
  rcases q6 with⟨e1,e2⟩|⟨e1,e2⟩
  ·rw[e2];exact⟨Nat.zero_le _,Nat.zero_le _⟩
  ·omega
 have hal0:0<al.length:=by omega
 refine bB (λk:Nat=>⟨[(0,.ref (h.length+5) 0),(3,.ref (h.length+(l.length+6)) 0),(5,AS hd),(7,AI en'),(9,AI 12),(10,AS al),(11,AI (r1.ck+hd.length:Nat)),(93,AI al.length),(94,AI k)],
  rh h (r2.clk ((YA c hd al).take k)) (l++[.box [AI 7,AI s,AI cl,AS b,AS w,AS m]]),[]⟩) (λk=>k<=al.length) (λk=>al.length-k) 0 (by rw[List.take_zero,oR];rfl) (by omega) ?_
 intro k hk;have hlen:(YA c hd al).length=al.length:=yQ c hd al
 have R3:=jK (L:=(YA c hd al).take k) R2
 have c3:(r2.clk ((YA c hd al).take k)).ck<=900000000:=by rw[NN,c2,List.length_take];omega
 rcases Nat.lt_or_ge k al.length with hlt|hge
 ·have w3:IntKind.i64.wrap ((k:Int)+1)=((k+1:Nat):Int):=BA _ (by omega) (by omega)
  have w4:IntKind.i64.wrap ((al.length:Int)-1)=((al.length-1:Nat):Int):=by
   rw[show(al.length:Int)-1=((al.length-1:Nat):Int) by omega];exact BA _ (by omega) (by omega)
  have hlt':(k:Int)<(al.length:Int):=by omega
  have hg:al[k]?=some al[k]:=List.getElem?_eq_getElem hlt
  have hcl:=λ(t v:UInt8) (K':jA)=>EW (h:=h) (l:=l++[.box [AI 7,AI s,AI cl,AS b,AS w,AS m]]) (K:=K') R3 (by omega) t al[k] v
  have hsg:=zaB (c:=c) (hd:=hd) hlt
  have hstep:∀t v:UInt8,(YA c hd al)[k]?=some (t,al[k],v)->(r2.clk ((YA c hd al).take k)).clk [(t,al[k],v)]=r2.clk ((YA c hd al).take (k+1)):=λt v e=>by
   rw[pR,List.take_succ,e];rfl
  have e48:(((48:UInt8).toNat:Nat):Int)=48:=rfl
  have e49:(((49:UInt8).toNat:Nat):Int)=49:=rfl
  have e120:(((120:UInt8).toNat:Nat):Int)=120:=rfl
  generalize r2.clk ((YA c hd al).take k)=r3 at R3 c3 hcl hstep ⊢
  -- what is expected
  by_cases hk0:hd.length<=k
  ·have w5:IntKind.i64.wrap ((k:Int)-(hd.length:Int))=((k-hd.length:Nat):Int):=by
    rw[show(k:Int)-(hd.length:Int)=((k-hd.length:Nat):Int) by omega];exact BA _ (by omega) (by omega)
   have z0:(0:Int)<=((k-hd.length:Nat):Int):=by omega
   rw[if_pos hk0]at hsg;by_cases hm:k-hd.length<m.length
   ·have hm':((k-hd.length:Nat):Int)<(m.length:Int):=by omega
    rw[hcm,if_pos hm]at hsg;have hgm:m[k-hd.length]?=some m[k-hd.length]:=List.getElem?_eq_getElem hm
    have hgw:w[k-hd.length]?=some (w[k-hd.length]'(by omega)):=List.getElem?_eq_getElem (by omega)
    by_cases h49:m[k-hd.length]=49
    ·have hx:SC c (k-hd.length)=w[k-hd.length]'(by omega):=by unfold SC;rw[hcm,hgm,h49,if_pos rfl,hcw,hgw];rfl
     rw[hx]at hsg;by_cases hl1:k=al.length-1
     ·have hl2:((k:Int)=((al.length-1:Nat):Int))=True:=eq_true (by omega)
      have hcl1:=λK'=>hcl 49 (w[k-hd.length]'(by omega)) K'
      rw[if_pos hl1]at hsg;rw[e49]at hcl1;simp only[go_sem,hlt,hlt',hg,w3,w4,w5,z0,hm,hm',hgm,hgw,h49,e49,hl2,hcl1];exact⟨k+1,by rw[hstep _ _ hsg],by omega,by omega⟩
     ·have hl2:((k:Int)=((al.length-1:Nat):Int))=False:=eq_false (by omega)
      have hcl1:=λK'=>hcl 48 (w[k-hd.length]'(by omega)) K'
      rw[if_neg hl1]at hsg;rw[e48]at hcl1;simp only[go_sem,hlt,hlt',hg,w3,w4,w5,z0,hm,hm',hgm,hgw,h49,e49,hl2,hcl1];exact⟨k+1,by rw[hstep _ _ hsg],by omega,by omega⟩
    ·have hx:SC c (k-hd.length)=120:=by unfold SC;rw[hcm,hgm,if_neg (λe=>h49 (Option.some.inj e))]
     rw[hx]at hsg;have h49':¬((m[k-hd.length].toNat:Int)=49):=λe=>h49 (UInt8.toNat_inj.1 (by rw[show(49:UInt8).toNat=49 from rfl];omega))
     by_cases hl1:k=al.length-1
     ·have hl2:((k:Int)=((al.length-1:Nat):Int))=True:=eq_true (by omega)
      have hcl1:=λK'=>hcl 49 120 K'
      rw[if_pos hl1]at hsg;rw[e49]at hcl1;rw[e120]at hcl1;simp only[go_sem,hlt,hlt',hg,w3,w4,w5,z0,hm,hm',hgm,h49',hl2,hcl1];exact⟨k+1,by rw[hstep _ _ hsg],by omega,by omega⟩
     ·have hl2:((k:Int)=((al.length-1:Nat):Int))=False:=eq_false (by omega)
      have hcl1:=λK'=>hcl 48 120 K'
      rw[if_neg hl1]at hsg;rw[e48]at hcl1;rw[e120]at hcl1;simp only[go_sem,hlt,hlt',hg,w3,w4,w5,z0,hm,hm',hgm,h49',hl2,hcl1];exact⟨k+1,by rw[hstep _ _ hsg],by omega,by omega⟩
   ·have hm':¬((k-hd.length:Nat):Int)<(m.length:Int):=by omega
    rw[hcm,if_neg hm]at hsg;by_cases hl1:k=al.length-1
    ·have hl2:((k:Int)=((al.length-1:Nat):Int))=True:=eq_true (by omega)
     have hcl1:=λK'=>hcl 49 120 K'
     rw[if_pos hl1]at hsg;rw[e49]at hcl1;rw[e120]at hcl1;simp only[go_sem,hlt,hlt',hg,w3,w4,w5,z0,hm,hm',hl2,hcl1];exact⟨k+1,by rw[hstep _ _ hsg],by omega,by omega⟩
    ·have hl2:((k:Int)=((al.length-1:Nat):Int))=False:=eq_false (by omega)
     have hcl1:=λK'=>hcl 48 120 K'
     rw[if_neg hl1]at hsg;rw[e48]at hcl1;rw[e120]at hcl1;simp only[go_sem,hlt,hlt',hg,w3,w4,w5,z0,hm,hm',hl2,hcl1];exact⟨k+1,by rw[hstep _ _ hsg],by omega,by omega⟩
  ·have w5:IntKind.i64.wrap ((k:Int)-(hd.length:Int))=(k:Int)-(hd.length:Int):=BA _ (by omega) (by omega)
   have z0:¬(0:Int)<=(k:Int)-(hd.length:Int):=by omega
   rw[if_neg hk0]at hsg;by_cases hl1:k=al.length-1
   ·have hl2:((k:Int)=((al.length-1:Nat):Int))=True:=eq_true (by omega)
    have hcl1:=λK'=>hcl 49 120 K'
    rw[if_pos hl1]at hsg;rw[e49]at hcl1;rw[e120]at hcl1;simp only[go_sem,hlt,hlt',hg,w3,w4,w5,z0,hl2,hcl1];exact⟨k+1,by rw[hstep _ _ hsg],by omega,by omega⟩
   ·have hl2:((k:Int)=((al.length-1:Nat):Int))=False:=eq_false (by omega)
    have hcl1:=λK'=>hcl 48 120 K'
    rw[if_neg hl1]at hsg;rw[e48]at hcl1;rw[e120]at hcl1;simp only[go_sem,hlt,hlt',hg,w3,w4,w5,z0,hl2,hcl1];exact⟨k+1,by rw[hstep _ _ hsg],by omega,by omega⟩
 ·obtain rfl:k=al.length:=by omega
  have e1:(YA c hd al).take al.length=YA c hd al:=by rw[<-hlen];exact List.take_length
  rw[e1]at R3 c3;simp only[go_sem,Nat.lt_irrefl,Int.lt_irrefl,e1];generalize r2.clk (YA c hd al)=r3 at R3 c3 ⊢;have hw2:=λ(l:aA) (K':jA)=>mN (h:=h) (l:=l) (K:=K') (r:={ r3 with st:=12 }) ⟨R3.t,R3.i,R3.w⟩ c3 (show 12∈frS by decide) (fD n1)
  have hp:=λl=>sQ (h:=h) (l:=l) (r:=r3) (s:=r3.se) (x:=12) (y:=r3.ni) (z:=r3.nd)
  simp only[show((12:Nat):Int)=12 from rfl]at hp
  simp only[go_sem,hp,hw2]
theorem HW {c:Cmd}(h7:c.k=8):r.scn kA c=Run.go kA { Run.clk { r.go kA 4 with nd:=(r.go kA 4).nd+(r.se.h2.b++c.b++r.se.t2.b).length } (YA c r.se.h2.b (r.se.h2.b++c.b++r.se.t2.b)) with st:=5 } r.se.e2.s.toNat/\r.scnF kA c=(r.go kA 4).ck+r.se.h2.b.length:=by
 unfold Run.scn Run.scnF;simp [h7]
theorem zpA (R:RunOk r)(N:yK r)(hck:r.ck<=800000000)(hst:r.st∈stb)(S:SetR r.se)(c:Cmd)(h7:c.k=8)(hs:IC c=0):bA X lH [.ref (h.length+5) 0,ACm c] (rh h r l) K=K (AI (r.scnF kA c:Nat)) (rh h (r.scn kA c) l) []:=by
 refine sA ?_;rw[z5y rfl,(HW h7).1,(HW h7).2];have hw1:=λ(l:aA) (K':jA)=>mN (h:=h) (l:=l) (K:=K') R (by omega) (RB hst) (show 4∈toS by decide)
 simp only[show(((4:Nat)):Int)=4 from rfl]at hw1
 have R1:=kK (tov:=4) R
 have c1:(r.go kA 4).ck<=800000008:=by have:=(QB (RB hst) (show 4∈toS by decide)).2.1;rw[FJ];omega
 have N1:=gN (tov:=4) N
 generalize r.go kA 4=r1 at *;obtain⟨q1,q2,q3,q4,q5,q6⟩:=qF hs;obtain⟨n1,n2⟩:=vC S.s2;have hh:=S.h2;have ht:=S.t2
 generalize hhd:r.se.h2.b=hd at *;generalize htl:r.se.t2.b=tl at *;generalize hen:r.se.e2.s=en at *;obtain⟨en',rfl⟩:∃n:Nat,en=n:=⟨en.toNat,n2.symm⟩;simp only[Int.toNat_natCast]at n1 n2 ⊢;obtain⟨k,s,cl,b,w,m⟩:=c;dsimp only at h7 q1 q3 q6 ⊢;subst h7;have hbp:=List.length_pos_iff.2 q1
 have x1:hd.length+b.length<=QA:=by unfold QA;omega
 have x2:hd.length+(b.length+tl.length)<=QA:=by unfold QA;omega
 have x3:hd.length+b.length+tl.length<=QA:=by unfold QA;omega
 obtain⟨hn,hd'⟩:=N1;obtain⟨al,hal⟩:∃al,al=hd++b++tl:=⟨_,rfl⟩;have hall:al.length=hd.length+b.length+tl.length:=by rw[hal];simp;omega
 have hal2:=hal
 rw[List.append_assoc]at hal2;have w1:IntKind.i64.wrap ((r1.nd:Int)+(al.length:Int))=((r1.nd+al.length:Nat):Int):=BA _ (by omega) (by omega)
 have w2:IntKind.i64.wrap ((r1.ck:Int)+(hd.length:Int))=((r1.ck+hd.length:Nat):Int):=BA _ (by omega) (by omega)
 simp only[sO,go_sem,hw1,hhd,htl,hen,x1,x2,x3,<-hal,<-hal2,w1,w2];have R2:RunOk { r1 with nd:=r1.nd+al.length }:=⟨R1.t,R1.i,R1.w⟩
 have c2:{ r1 with nd:=r1.nd+al.length:Run }.ck=r1.ck:=rfl
 show UA (bA X) X.gl _ _ _ (rh h { r1 with nd:=r1.nd+al.length } _) []
 generalize { r1 with nd:=r1.nd+al.length:Run }=r2 at R2 c2 ⊢
 generalize hq:(⟨8,s,cl,b,w,m⟩:Cmd)=c at *;have hcm:c.m=m:=by rw[<-hq]
 have hcw:c.w=w:=by rw[<-hq]
 have hml:m.length<=b.length/\m.length<=w.length:=by
  rcases q6 with⟨e1,e2⟩|⟨e1,e2⟩
  ·rw[e2];exact⟨Nat.zero_le _,Nat.zero_le _⟩
  ·omega
 have hal0:0<al.length:=by omega
 refine bB (λk:Nat=>⟨[(0,.ref (h.length+5) 0),(3,.ref (h.length+(l.length+6)) 0),(5,AS hd),(7,AI en'),(9,AI 5),(10,AS al),(11,AI (r1.ck+hd.length:Nat)),(93,AI al.length),(94,AI k)],
  rh h (r2.clk ((YA c hd al).take k)) (l++[.box [AI 8,AI s,AI cl,AS b,AS w,AS m]]),[]⟩) (λk=>k<=al.length) (λk=>al.length-k) 0 (by rw[List.take_zero,oR];rfl) (by omega) ?_
 intro k hk;have hlen:(YA c hd al).length=al.length:=yQ c hd al
 have R3:=jK (L:=(YA c hd al).take k) R2
 have c3:(r2.clk ((YA c hd al).take k)).ck<=900000000:=by rw[NN,c2,List.length_take];omega
 rcases Nat.lt_or_ge k al.length with hlt|hge
 ·have w3:IntKind.i64.wrap ((k:Int)+1)=((k+1:Nat):Int):=BA _ (by omega) (by omega)
  have w4:IntKind.i64.wrap ((al.length:Int)-1)=((al.length-1:Nat):Int):=by
   rw[show(al.length:Int)-1=((al.length-1:Nat):Int) by omega];exact BA _ (by omega) (by omega)
  have hlt':(k:Int)<(al.length:Int):=by omega
  have hg:al[k]?=some al[k]:=List.getElem?_eq_getElem hlt
  have hcl:=λ(t v:UInt8) (K':jA)=>EW (h:=h) (l:=l++[.box [AI 8,AI s,AI cl,AS b,AS w,AS m]]) (K:=K') R3 (by omega) t al[k] v
  have hsg:=zaB (c:=c) (hd:=hd) hlt
  have hstep:∀t v:UInt8,(YA c hd al)[k]?=some (t,al[k],v)->(r2.clk ((YA c hd al).take k)).clk [(t,al[k],v)]=r2.clk ((YA c hd al).take (k+1)):=λt v e=>by
   rw[pR,List.take_succ,e];rfl
  have e48:(((48:UInt8).toNat:Nat):Int)=48:=rfl
  have e49:(((49:UInt8).toNat:Nat):Int)=49:=rfl
  have e120:(((120:UInt8).toNat:Nat):Int)=120:=rfl
  generalize r2.clk ((YA c hd al).take k)=r3 at R3 c3 hcl hstep ⊢
  -- what is expected
  by_cases hk0:hd.length<=k
  ·have w5:IntKind.i64.wrap ((k:Int)-(hd.length:Int))=((k-hd.length:Nat):Int):=by
    rw[show(k:Int)-(hd.length:Int)=((k-hd.length:Nat):Int) by omega];exact BA _ (by omega) (by omega)
   have z0:(0:Int)<=((k-hd.length:Nat):Int):=by omega
   rw[if_pos hk0]at hsg;by_cases hm:k-hd.length<m.length
   ·have hm':((k-hd.length:Nat):Int)<(m.length:Int):=by omega
    rw[hcm,if_pos hm]at hsg;have hgm:m[k-hd.length]?=some m[k-hd.length]:=List.getElem?_eq_getElem hm
    have hgw:w[k-hd.length]?=some (w[k-hd.length]'(by omega)):=List.getElem?_eq_getElem (by omega)
    by_cases h49:m[k-hd.length]=49
    ·have hx:SC c (k-hd.length)=w[k-hd.length]'(by omega):=by unfold SC;rw[hcm,hgm,h49,if_pos rfl,hcw,hgw];rfl
     rw[hx]at hsg;by_cases hl1:k=al.length-1
     ·have hl2:((k:Int)=((al.length-1:Nat):Int))=True:=eq_true (by omega)
      have hcl1:=λK'=>hcl 49 (w[k-hd.length]'(by omega)) K'
      rw[if_pos hl1]at hsg;rw[e49]at hcl1;simp only[go_sem,hlt,hlt',hg,w3,w4,w5,z0,hm,hm',hgm,hgw,h49,e49,hl2,hcl1];exact⟨k+1,by rw[hstep _ _ hsg],by omega,by omega⟩
     ·have hl2:((k:Int)=((al.length-1:Nat):Int))=False:=eq_false (by omega)
      have hcl1:=λK'=>hcl 48 (w[k-hd.length]'(by omega)) K'
      rw[if_neg hl1]at hsg;rw[e48]at hcl1;simp only[go_sem,hlt,hlt',hg,w3,w4,w5,z0,hm,hm',hgm,hgw,h49,e49,hl2,hcl1];exact⟨k+1,by rw[hstep _ _ hsg],by omega,by omega⟩
    ·have hx:SC c (k-hd.length)=120:=by unfold SC;rw[hcm,hgm,if_neg (λe=>h49 (Option.some.inj e))]
     rw[hx]at hsg;have h49':¬((m[k-hd.length].toNat:Int)=49):=λe=>h49 (UInt8.toNat_inj.1 (by rw[show(49:UInt8).toNat=49 from rfl];omega))
     by_cases hl1:k=al.length-1
     ·have hl2:((k:Int)=((al.length-1:Nat):Int))=True:=eq_true (by omega)
      have hcl1:=λK'=>hcl 49 120 K'
      rw[if_pos hl1]at hsg;rw[e49]at hcl1;rw[e120]at hcl1;simp only[go_sem,hlt,hlt',hg,w3,w4,w5,z0,hm,hm',hgm,h49',hl2,hcl1];exact⟨k+1,by rw[hstep _ _ hsg],by omega,by omega⟩
     ·have hl2:((k:Int)=((al.length-1:Nat):Int))=False:=eq_false (by omega)
      have hcl1:=λK'=>hcl 48 120 K'
      rw[if_neg hl1]at hsg;rw[e48]at hcl1;rw[e120]at hcl1;simp only[go_sem,hlt,hlt',hg,w3,w4,w5,z0,hm,hm',hgm,h49',hl2,hcl1];exact⟨k+1,by rw[hstep _ _ hsg],by omega,by omega⟩
   ·have hm':¬((k-hd.length:Nat):Int)<(m.length:Int):=by omega
    rw[hcm,if_neg hm]at hsg;by_cases hl1:k=al.length-1
    ·have hl2:((k:Int)=((al.length-1:Nat):Int))=True:=eq_true (by omega)
     have hcl1:=λK'=>hcl 49 120 K'
     rw[if_pos hl1]at hsg;rw[e49]at hcl1;rw[e120]at hcl1;simp only[go_sem,hlt,hlt',hg,w3,w4,w5,z0,hm,hm',hl2,hcl1];exact⟨k+1,by rw[hstep _ _ hsg],by omega,by omega⟩
    ·have hl2:((k:Int)=((al.length-1:Nat):Int))=False:=eq_false (by omega)
     have hcl1:=λK'=>hcl 48 120 K'
     rw[if_neg hl1]at hsg;rw[e48]at hcl1;rw[e120]at hcl1;simp only[go_sem,hlt,hlt',hg,w3,w4,w5,z0,hm,hm',hl2,hcl1];exact⟨k+1,by rw[hstep _ _ hsg],by omega,by omega⟩
  ·have w5:IntKind.i64.wrap ((k:Int)-(hd.length:Int))=(k:Int)-(hd.length:Int):=BA _ (by omega) (by omega)
   have z0:¬(0:Int)<=(k:Int)-(hd.length:Int):=by omega
   rw[if_neg hk0]at hsg;by_cases hl1:k=al.length-1
   ·have hl2:((k:Int)=((al.length-1:Nat):Int))=True:=eq_true (by omega)
    have hcl1:=λK'=>hcl 49 120 K'
    rw[if_pos hl1]at hsg;rw[e49]at hcl1;rw[e120]at hcl1;simp only[go_sem,hlt,hlt',hg,w3,w4,w5,z0,hl2,hcl1];exact⟨k+1,by rw[hstep _ _ hsg],by omega,by omega⟩
   ·have hl2:((k:Int)=((al.length-1:Nat):Int))=False:=eq_false (by omega)
    have hcl1:=λK'=>hcl 48 120 K'
    rw[if_neg hl1]at hsg;rw[e48]at hcl1;rw[e120]at hcl1;simp only[go_sem,hlt,hlt',hg,w3,w4,w5,z0,hl2,hcl1];exact⟨k+1,by rw[hstep _ _ hsg],by omega,by omega⟩
 ·obtain rfl:k=al.length:=by omega
  have e1:(YA c hd al).take al.length=YA c hd al:=by rw[<-hlen];exact List.take_length
  rw[e1]at R3 c3;simp only[go_sem,Nat.lt_irrefl,Int.lt_irrefl,e1];generalize r2.clk (YA c hd al)=r3 at R3 c3 ⊢;have hw2:=λ(l:aA) (K':jA)=>mN (h:=h) (l:=l) (K:=K') (r:={ r3 with st:=5 }) ⟨R3.t,R3.i,R3.w⟩ c3 (show 5∈frS by decide) (fD n1)
  have hp:=λl=>sQ (h:=h) (l:=l) (r:=r3) (s:=r3.se) (x:=5) (y:=r3.ni) (z:=r3.nd)
  simp only[show((5:Nat):Int)=5 from rfl]at hp
  simp only[go_sem,hp,hw2]
end
section
variable {h l l2:aA} {K:jA} {r:Run} {n:Nat} {o:Obj} {x:Esc}
attribute [-go_sem] SA splice tO
attribute [local go_sem] ZV YV rc_1 rc_7 TV UV VV WV GF JI RM TM UM VM WM XM YM XV aW bW cW dW eW fW gW iW jW
section
variable {s:Sett} {st ck ni nd:Int} {a b c d e:AV} {w:Bool} {q1 q2 q3:Int} {q4 q5 q6:List UInt8}
theorem rct_0:splice (rc s st ck ni nd a b c d e w) 0 [AI q1,AI q2,AI q3,AS q4,AS q5,AS q6]=rc { s with e1:=⟨q1,q2,q3,q4,q5,q6⟩ } st ck ni nd a b c d e w:=(rfl)
theorem rct_6:splice (rc s st ck ni nd a b c d e w) 6 [AI q1,AI q2,AI q3,AS q4,AS q5,AS q6]=rc { s with e2:=⟨q1,q2,q3,q4,q5,q6⟩ } st ck ni nd a b c d e w:=(rfl)
theorem zoj:splice (rc s st ck ni nd a b c d e w) 12 [AI q1,AI q2,AI q3,AS q4,AS q5,AS q6]=rc { s with h1:=⟨q1,q2,q3,q4,q5,q6⟩ } st ck ni nd a b c d e w:=(rfl)
theorem zok:splice (rc s st ck ni nd a b c d e w) 18 [AI q1,AI q2,AI q3,AS q4,AS q5,AS q6]=rc { s with t1:=⟨q1,q2,q3,q4,q5,q6⟩ } st ck ni nd a b c d e w:=(rfl)
theorem zol:splice (rc s st ck ni nd a b c d e w) 24 [AI q1,AI q2,AI q3,AS q4,AS q5,AS q6]=rc { s with h2:=⟨q1,q2,q3,q4,q5,q6⟩ } st ck ni nd a b c d e w:=(rfl)
theorem zom:splice (rc s st ck ni nd a b c d e w) 30 [AI q1,AI q2,AI q3,AS q4,AS q5,AS q6]=rc { s with t2:=⟨q1,q2,q3,q4,q5,q6⟩ } st ck ni nd a b c d e w:=(rfl)
end
attribute [local go_sem] rct_0 rct_6 zoj zok zol zom
def sH (k:Int):Nat:=if k=1 then 0 else if k=2 then 6 else if k=3 then 12 else if k=4 then 18 else if k=5 then 24 else 30
theorem zay {id:Nat}(hid:id<h.length)(k:Int):bA X sI [.ref id 0,AI k] h K=K (.ref id (sH k)) h []:=by
 refine sA ?_;rw[zfD rfl];have e1:max h.length (id+1)=h.length:=by omega
 have e2:id+1<=h.length:=by omega
 unfold sH;by_cases h1:k=1
 ·simp only[YG,go_sem,h1,e1,e2]
 by_cases h2:k=2
 ·simp only[YG,go_sem,h1,h2,e1,e2]
 by_cases h3:k=3
 ·simp only[YG,go_sem,h1,h2,h3,e1,e2]
 by_cases h4:k=4
 ·simp only[YG,go_sem,h1,h2,h3,h4,e1,e2]
 by_cases h5:k=5
 ·simp only[YG,go_sem,h1,h2,h3,h4,h5,e1,e2]
 simp only[YG,go_sem,h1,h2,h3,h4,h5,e1,e2]
theorem nT {Kx:Ex->St->Prop}(hs:r.sts.length<=100000)(hf:r.frs.length<=100000)(f:Nat):tO (bA X) X.gl (.ref (h.length+5) 0) (AI f) (rh h r l) x Kx=Kx .normal ⟨[],rh h { r with sts:=r.sts++[r.st],frs:=r.frs++[f] } l,x⟩:=by
 obtain⟨se,st,ck,ni,nd,sts,frs,tms,tdi,want,wr⟩:=r;dsimp only at *;unfold rh;have m1:sts.length+1<=LA:=by unfold LA;omega
 have m2:frs.length+1<=LA:=by unfold LA;omega
 have e2:∀k n o m,k<5->rC (h.length+5) (.own (h.length+k) n o m)=[]:=λk n o m hk=>by unfold rC;rw[z4a,if_neg (by omega)]
 have e3:=λn o m=>e2 0 n o m (by decide)
 have e4:=λn o m=>e2 1 n o m (by decide)
 simp only[Nat.add_zero]at e3;simp only[tO,go_sem,m1,m2,e3,e4,List.length_map];simp
attribute [local go_sem] mG NI vH wH LG fK mF sQ
theorem z3P (c:Cmd):(r.scn kA c).sts=r.sts/\(r.scn kA c).frs=r.frs/\(r.scn kA c).se=r.se:=by
 unfold Run.scn;by_cases h7:c.k=7
 ·simp only[h7,if_true]
  obtain⟨a1,a2,a3,a4,_⟩:=EB kA ({ Run.clk { r.go kA 11 with ni:=(r.go kA 11).ni+(r.se.h1.b++c.b++r.se.t1.b).length } (YA c r.se.h1.b (r.se.h1.b++c.b++r.se.t1.b)) with st:=12 }) r.se.e1.s.toNat
  obtain⟨b1,b2,b3,b4,_⟩:=RC { r.go kA 11 with ni:=(r.go kA 11).ni+(r.se.h1.b++c.b++r.se.t1.b).length } (YA c r.se.h1.b (r.se.h1.b++c.b++r.se.t1.b))
  obtain⟨d1,d2,d3,d4,_⟩:=EB kA r 11;exact⟨a3.trans (b3.trans d3),a4.trans (b4.trans d4),a1.trans (b1.trans d1)⟩
 ·simp only[h7,if_false]
  obtain⟨a1,a2,a3,a4,_⟩:=EB kA ({ Run.clk { r.go kA 4 with nd:=(r.go kA 4).nd+(r.se.h2.b++c.b++r.se.t2.b).length } (YA c r.se.h2.b (r.se.h2.b++c.b++r.se.t2.b)) with st:=5 }) r.se.e2.s.toNat
  obtain⟨b1,b2,b3,b4,_⟩:=RC { r.go kA 4 with nd:=(r.go kA 4).nd+(r.se.h2.b++c.b++r.se.t2.b).length } (YA c r.se.h2.b (r.se.h2.b++c.b++r.se.t2.b))
  obtain⟨d1,d2,d3,d4,_⟩:=EB kA r 4;exact⟨a3.trans (b3.trans d3),a4.trans (b4.trans d4),a1.trans (b1.trans d1)⟩
theorem za6 (R:RunOk r)(N:yK r)(hck:r.ck<=700000000)(hst:r.st∈stb)(S:SetR r.se)(hl1:r.sts.length<=100000)(hl2:r.frs.length<=100000)(c:Cmd)(hc:MA c=0) :
 bA X EJ [.ref (h.length+5) 0,ACm c] (rh h r l) K=K (.tup []) (rh h (r.step kA c) l) []:=by
 refine sA ?_;rw[zfA rfl];have e0:(AI ((0:Nat):Int))=AI 0:=rfl
 have setf:∀h1:1<=c.k/\c.k<=6,YE (bA X) X.gl XJ jQ (.ref (h.length+5) 0) (ACm c) (rh h r l) [] (oA [] false (rh h r l).length λv1 h1 x1=>v1 = .tup []/\h1=rh h (r.step kA c) l/\x1=[]):=by
  intro h1;rw[AH kA h1];have k2:=λ(l:aA) (x:Esc) (Kx:Ex->St->Prop)=>nT (h:=h) (l:=l) (x:=x) (Kx:=Kx) (r:={ r with se:=r.se.put c }) hl1 hl2 0
  rw[e0]at k2;have ho:=λ(l:aA) (k:Int) (K':jA)=>zay (h:=rh h r l) (K:=K') (id:=h.length+5) (by rw[mG];omega) k
  obtain⟨k,s,cl,b,w,m⟩:=c;dsimp only at h1;have:k=1∨k=2∨k=3∨k=4∨k=5∨k=6:=by omega
  rcases this with rfl|rfl|rfl|rfl|rfl|rfl
  ·have ep:r.se.put ⟨1,s,cl,b,w,m⟩={ r.se with e1:=⟨1,s,cl,b,w,m⟩ }:=rfl
   rw[ep];simp only[ep]at k2;simp only[YE,go_sem,MG,ho,sH,k2]
  ·have ep:r.se.put ⟨2,s,cl,b,w,m⟩={ r.se with e2:=⟨2,s,cl,b,w,m⟩ }:=rfl
   rw[ep];simp only[ep]at k2;simp only[YE,go_sem,MG,ho,sH,k2]
  ·have ep:r.se.put ⟨3,s,cl,b,w,m⟩={ r.se with h1:=⟨3,s,cl,b,w,m⟩ }:=rfl
   rw[ep];simp only[ep]at k2;simp only[YE,go_sem,MG,ho,sH,k2]
  ·have ep:r.se.put ⟨4,s,cl,b,w,m⟩={ r.se with t1:=⟨4,s,cl,b,w,m⟩ }:=rfl
   rw[ep];simp only[ep]at k2;simp only[YE,go_sem,MG,ho,sH,k2]
  ·have ep:r.se.put ⟨5,s,cl,b,w,m⟩={ r.se with h2:=⟨5,s,cl,b,w,m⟩ }:=rfl
   rw[ep];simp only[ep]at k2;simp only[YE,go_sem,MG,ho,sH,k2]
  ·have ep:r.se.put ⟨6,s,cl,b,w,m⟩={ r.se with t2:=⟨6,s,cl,b,w,m⟩ }:=rfl
   rw[ep];simp only[ep]at k2;simp only[YE,go_sem,MG,ho,sH,k2]
 cases TD hc with
 | set h hs e=>exact setf (by omega)
 | pad h0 h1 hb hl e=>exact setf ⟨by omega,h1⟩
 | go hk hs e=>
  rw[pN kA hk];obtain⟨g1,g2,g3,g4,g5,g6,_,_⟩:=EB kA r c.s.toNat;obtain⟨n1,n2⟩:=vC hs;have k2:=λ(l:aA) (x:Esc) (Kx:Ex->St->Prop)=>nT (h:=h) (l:=l) (x:=x) (Kx:=Kx) (r:=r.go kA c.s.toNat) (by rw[g3];exact hl1) (by rw[g4];exact hl2) 0
  rw[e0]at k2;have hw:=λ(l:aA) (K':jA)=>mN (h:=h) (l:=l) (K:=K') R (by omega) (RB hst) (fD n1)
  obtain⟨k,s,cl,b,w,m⟩:=c;dsimp only at hk n2 hw k2 ⊢;subst hk;rw[n2]at hw;simp only[YE,go_sem,MG,pF,hw,k2]
 | idle hk h0 h1 e=>
  rw[qK kA hk];obtain⟨g1,g2,g3,g4,g5,g6,_,_⟩:=EB kA r 1;have hw:=λ(l:aA) (K':jA)=>mN (h:=h) (l:=l) (K:=K') R (by omega) (RB hst) (show 1∈toS by decide)
  have R1:=kK (tov:=1) R
  have c1:(r.go kA 1).ck<=700000008:=by have:=(QB (RB hst) (show 1∈toS by decide)).2.1;rw[FJ];omega
  simp only[show((1:Nat):Int)=1 from rfl]at hw
  obtain⟨k,s,cl,b,w,m⟩:=c;dsimp only at hk h0 h1 ⊢;subst hk;obtain⟨n,rfl⟩:∃n:Nat,cl=n:=⟨cl.toNat,by omega⟩
  simp only[Int.toNat_natCast];generalize r.go kA 1=r1 at *;simp only[YE,go_sem,MG,pF,hw];refine bB (λk:Nat=>⟨[(0,.ref (h.length+5) 0),(4,AI 0),(35,AI n),(36,AI k)],rh h (r1.clk (List.replicate k (48,48,120))) (l++[.box [AI 9,AI s,AI n,AS b,AS w,AS m]]),[]⟩) (λk=>k<=n) (λk=>n-k) 0 (by rw[List.replicate_zero,oR];rfl) (by omega) ?_
  intro k hk;have R2:=jK (L:=List.replicate k (48,48,120)) R1
  rcases Nat.lt_or_ge k n with hlt|hge
  ·have w2:IntKind.i64.wrap ((k:Int)+1)=((k+1:Nat):Int):=BA _ (by omega) (by omega)
   have hc:=λ(l:aA) (K':jA)=>EW (h:=h) (l:=l) (K:=K') R2 (by rw[NN,List.length_replicate];omega) 48 48 120
   simp only[show(((48:UInt8).toNat:Nat):Int)=48 from rfl,show(((120:UInt8).toNat:Nat):Int)=120 from rfl]at hc
   simp only[go_sem,hlt,w2,hc];exact⟨k+1,by rw[pR,<-List.replicate_succ'],by omega,by omega⟩
  ·obtain rfl:k=n:=by omega
   have q:=RC r1 (List.replicate k (48,48,120))
   have k2:=λ(l:aA) (x:Esc) (Kx:Ex->St->Prop)=>nT (h:=h) (l:=l) (x:=x) (Kx:=Kx) (r:=r1.clk (List.replicate k (48,48,120))) (by rw[q.2.2.1,g3];exact hl1) (by rw[q.2.2.2.1,g4];exact hl2) 0
   rw[e0]at k2;simp only[go_sem,Nat.lt_irrefl,k2]
 | scan hk hs e=>
  rw[rK kA hk];obtain⟨g3,g4,_⟩:=z3P (r:=r) c;have k2:=λ(l:aA) (x:Esc) (Kx:Ex->St->Prop)=>nT (h:=h) (l:=l) (x:=x) (Kx:=Kx) (r:=r.scn kA c) (by rw[g3];exact hl1) (by rw[g4];exact hl2) (r.scnF kA c)
  have hscan:∀(l:aA) (K':jA),bA X lH [.ref (h.length+5) 0,ACm c] (rh h r l) K'=K' (AI (r.scnF kA c:Nat)) (rh h (r.scn kA c) l) []:=λl K'=>by
   rcases hk with h7|h8
   ·exact zpD R N (by omega) hst S c h7 hs
   ·exact zpA R N (by omega) hst S c h8 hs
  have f1:¬c.k<=6:=by omega
  have f2:1<=c.k:=by omega
  have f3:(decide (c.k=7)||decide (c.k=8))=true:=by simpa using hk
  generalize r.scn kA c=r9 at k2 hscan ⊢;generalize r.scnF kA c=f9 at k2 hscan ⊢;simp only[YE,go_sem,MG,pF,f1,f2,f3,hscan,k2]
end
section
variable {h:aA} {K:jA} {Kx:Ex->St->Prop} {q q2:ACode} {k s cl k' s' cl' v9:Int} {b w m b' w' m':List UInt8} {x:Esc}
theorem BO {k s cl k' s' cl':Int}{b w m b' w' m':List UInt8}:SA [0,0,0,2,2,2] true (.p (.agg [.int .i64 k,.int .i64 s,.int .i64 cl,.str b,.str w,.str m])) (.p (.agg [.int .i64 k',.int .i64 s',.int .i64 cl',.str b',.str w',.str m']))=some (AB (!decide ((⟨k,s,cl,b,w,m⟩:Cmd)=⟨k',s',cl',b',w',m'⟩))):=by
 unfold SA;dsimp only;rw[if_pos ⟨rfl,rfl,by simp⟩,eqs6]
 rfl
attribute [-go_sem] SA sJ XF FD KK
abbrev cfH (h:aA)(k s cl:Int)(b w m:List UInt8)(k' s' cl':Int)(b' w' m':List UInt8):aA:=h++[.box [AI k,AI s,AI cl,AS b,AS w,AS m],.box [AI k',AI s',AI cl',AS b',AS w',AS m']]
theorem UE:KK (bA X) X.gl (.ref h.length 0) (.ref (h.length+1) 0) (cfH h k s cl b w m k' s' cl' b' w' m') x Kx=Kx .ret ⟨[(2,AI (if (⟨k,s,cl,b,w,m⟩:Cmd)=⟨k',s',cl',b',w',m'⟩ then 0 else 3:Nat))],cfH h k s cl b w m k' s' cl' b' w' m',x⟩:=by
 by_cases he:(⟨k,s,cl,b,w,m⟩:Cmd)=⟨k',s',cl',b',w',m'⟩
 ·simp only[KK,go_sem,BO,he]
 ·simp only[KK,go_sem,BO,he]
theorem RY:FD (bA X) X.gl q2 (.ref h.length 0) (.ref (h.length+1) 0) (AI v9) (AB true) (cfH h k s cl b w m k 0 0 [] [] []) [] Kx =
 if JB s=true then Kx .normal ⟨[(1,.ref h.length 0),(3,.ref (h.length+1) 0),(20,AB false)],cfH h k s cl b w m k s 0 [] [] [],[]⟩ else Kx .ret ⟨[(2,AI 1)],cfH h k s cl b w m k s 0 [] [] [],[]⟩:=by
 rcases hs:JB s with _|_
 ·simp only[FD,go_sem,za5,hs,splice]
 ·simp only[FD,go_sem,za5,hs,splice]
theorem iR (hb:b.length<=100000):XF (bA X) X.gl q (.ref h.length 0) (.ref (h.length+1) 0) (AI v9) (AB true) (cfH h k s cl b w m k 0 0 [] [] []) [] Kx =
 if GA b=true then(if 2000<b.length then Kx .ret ⟨[(2,AI 2)],cfH h k s cl b w m k 0 0 b [] [],[]⟩ else Kx .normal ⟨[(1,.ref h.length 0),(3,.ref (h.length+1) 0),(43,AB false)],cfH h k s cl b w m k 0 0 b [] [],[]⟩) else Kx .ret ⟨[(2,AI 9)],cfH h k s cl b w m k 0 0 b [] [],[]⟩:=by
 have k1:=λ(h':aA) (K':jA)=>BW (h:=h') (K:=K') b (by omega)
 rcases hs:GA b with _|_
 ·simp only[XF,go_sem,k1,hs,splice]
 ·by_cases g1:2000<b.length
  ·have g2:(2000:Int)<(b.length:Int):=by omega
   simp only[XF,go_sem,k1,hs,g1,g2,splice]
  ·have g2:¬(2000:Int)<(b.length:Int):=by omega
   simp only[XF,go_sem,k1,hs,g1,g2,splice]
theorem z54 (hc:CmdOk ⟨k,s,cl,b,w,m⟩):sJ (bA X) X.gl (.ref h.length 0) (.ref (h.length+1) 0) (AB true) (cfH h k s cl b w m k 0 0 [] [] []) [] Kx =
 if IC ⟨k,s,cl,b,w,m⟩=0 then Kx .normal ⟨[(1,.ref h.length 0),(3,.ref (h.length+1) 0),(4,AI 0),(63,AB false)],cfH h k s cl b w m k 0 0 b w m,[]⟩ else Kx .ret ⟨[(2,AI (IC ⟨k,s,cl,b,w,m⟩:Nat))],cfH h k s cl b w m k 0 0 b w m,[]⟩:=by
 have k2:=λ(h':aA) (K':jA)=>zpC (h:=h') (K:=K') ⟨k,s,cl,b,w,m⟩ hc
 by_cases g1:IC ⟨k,s,cl,b,w,m⟩=0
 ·simp only[sJ,go_sem,k2,g1,splice]
 ·have g2:¬((IC ⟨k,s,cl,b,w,m⟩:Nat):Int)=0:=by omega
  simp only[sJ,go_sem,k2,g1,g2,splice]
theorem zpr (c:Cmd)(hc:CmdOk c):bA X PO [ACm c] h K=K (AI (MA c:Nat)) h []:=by
 refine sA ?_;rw[zeG rfl];have b1:=hc.b
 obtain⟨k,s,cl,b,w,m⟩:=c;simp only at b1;have st:∀k,(k=1∨k=2∨k=10)->MA ⟨k,s,cl,b,w,m⟩=if JB s=true then(if(⟨k,s,cl,b,w,m⟩:Cmd)=⟨k,s,0,[],[],[]⟩ then 0 else 3) else 1:=λk hk=>by
  unfold MA;dsimp only;rw[if_pos hk];cases JB s <;> simp
 have sc:∀k,(k=7∨k=8)->MA ⟨k,s,cl,b,w,m⟩=if IC ⟨k,s,cl,b,w,m⟩=0 then(if(⟨k,s,cl,b,w,m⟩:Cmd)=⟨k,0,0,b,w,m⟩ then 0 else 3) else IC ⟨k,s,cl,b,w,m⟩:=λk hk=>by
  unfold MA;dsimp only;rw[if_neg (by omega),if_neg (by omega),if_pos hk];split <;> simp_all
 have pd:∀k,3<=k/\k<=6->MA ⟨k,s,cl,b,w,m⟩=if GA b=true then(if 2000<b.length then 2 else if(⟨k,s,cl,b,w,m⟩:Cmd)=⟨k,0,0,b,[],[]⟩ then 0 else 3) else 9:=λk hk=>by
  unfold MA;dsimp only;rw[if_neg (by omega),if_neg (by omega),if_neg (by omega),if_pos hk];cases GA b <;> simp
 by_cases h1:k=1
 ·subst h1
  rw[st 1 (by omega)]
  simp only[UD,go_sem,RY,UE,splice];split <;> simp only[go_sem,UE] <;> rfl
 by_cases h2:k=2
 ·subst h2
  rw[st 2 (by omega)]
  simp only[UD,go_sem,RY,UE,splice];split <;> simp only[go_sem,UE] <;> rfl
 by_cases h10:k=10
 ·subst h10
  rw[st 10 (by omega)]
  simp only[UD,go_sem,RY,UE,splice];split <;> simp only[go_sem,UE] <;> rfl
 by_cases h9:k=9
 ·subst h9
  by_cases g1:0<=cl
  ·by_cases g2:cl<=20000
   ·have g3:¬(cl<0∨20000<cl):=by omega
    rw[show MA ⟨9,s,cl,b,w,m⟩=if(⟨9,s,cl,b,w,m⟩:Cmd)=⟨9,0,cl,[],[],[]⟩ then 0 else 3 by simp only[MA,g3];simp]
    simp only[UD,FD,go_sem,s_in,g1,g2,UE,splice]
   ·have g3:cl<0∨20000<cl:=by omega
    rw[show MA ⟨9,s,cl,b,w,m⟩=1 by simp [MA,g3]]
    simp only[UD,FD,go_sem,s_in,g1,g2,splice]
  ·have g3:cl<0∨20000<cl:=by omega
   rw[show MA ⟨9,s,cl,b,w,m⟩=1 by simp [MA,g3]]
   simp only[UD,FD,go_sem,s_in,g1,splice]
 by_cases h3:k=3
 ·subst h3
  rw[pd 3 (by omega)]
  simp only[UD,FD,go_sem,iR (show b.length<=100000 by omega),splice]
  split
  ·split <;> simp only[go_sem,UE] <;> rfl
  ·simp only[go_sem] <;> rfl
 by_cases h4:k=4
 ·subst h4
  rw[pd 4 (by omega)]
  simp only[UD,FD,go_sem,iR (show b.length<=100000 by omega),splice]
  split
  ·split <;> simp only[go_sem,UE] <;> rfl
  ·simp only[go_sem] <;> rfl
 by_cases h5:k=5
 ·subst h5
  rw[pd 5 (by omega)]
  simp only[UD,FD,go_sem,iR (show b.length<=100000 by omega),splice]
  split
  ·split <;> simp only[go_sem,UE] <;> rfl
  ·simp only[go_sem] <;> rfl
 by_cases h6:k=6
 ·subst h6
  rw[pd 6 (by omega)]
  simp only[UD,FD,go_sem,iR (show b.length<=100000 by omega),splice]
  split
  ·split <;> simp only[go_sem,UE] <;> rfl
  ·simp only[go_sem] <;> rfl
 by_cases h7:k=7
 ·subst h7
  rw[sc 7 (by omega)]
  simp only[UD,FD,XF,go_sem,z54 hc,splice];split <;> simp only[go_sem,UE] <;> rfl
 by_cases h8:k=8
 ·subst h8
  rw[sc 8 (by omega)]
  simp only[UD,FD,XF,go_sem,z54 hc,splice];split <;> simp only[go_sem,UE] <;> rfl
 rw[show MA ⟨k,s,cl,b,w,m⟩=4 from z5I (by dsimp only;omega)]
 simp only[UD,FD,XF,sJ,go_sem,h1,h2,h3,h4,h5,h6,h7,h8,h9,h10,splice]
end
section
variable {h:aA} {K:jA}
attribute [-go_sem] SA WG TH
theorem zp2 (l:List Cmd)(i:Nat)(c:Cmd)(hi:l[i]?=some c)(h9:c.k=9)(h0:0<=c.cl)(h1:c.cl<=20000)(state:Nat)(hst:state∈stb) :
 bA X AG [ACs l,AI i,AI state] h K=K (.p (ZD (qA kA (l.take i) c state))) h []:=by
 refine sA ?_;rw[FN rfl];have hg:(l.map xA)[i]?=some (xA c):=by rw[List.getElem?_map,hi];rfl
 have hilt:i<l.length:=by
  rcases Nat.lt_or_ge i l.length with h|h
  ·exact h
  ·rw[List.getElem?_eq_none h]at hi;cases hi
 rw[HI kA h9];obtain⟨k,s,cl,b,w,m⟩:=c;dsimp only at h9 h0 h1 hg ⊢;obtain⟨n,rfl⟩:∃n:Nat,cl=n:=⟨cl.toNat,by omega⟩
 simp only[Int.toNat_natCast];have ht:(1:Nat)∈toS:=by decide
 have p1:∀(h':aA) (K':jA),bA X WD [AI state,AI 1] h' K'=K' (AS (kA state 1)) h' []:=λh' K'=>DW (h:=h') (K:=K') (RB hst) ht
 have pl:=(QB (RB hst) ht).2.1
 subst h9;generalize kA state 1=w1 at p1 pl ⊢;have hz:∀n,(zs n).length=n:=λn=>by simp [zs]
 have r0:=λ(h':aA) (K':jA)=>JF (h:=h') (K:=K') (n:Int) (by omega) (by omega)
 simp only[Int.toNat_natCast]at r0;have l0:w1.length+n<=QA:=by simp [QA];omega
 have l0':w1.length+(zs n).length<=QA:=by rw[hz];exact l0
 have l3:(w1++zs n).length=w1.length+n:=by rw[List.length_append,hz]
 have P3:=λ(z1 z2 z3 z4 z5 c1 c2 c3 c4 c5 c6:AV) (Kx:Ex->St->Prop)=>pk3 (h:=h) (Kx:=Kx) (T:=w1++zs n) (D:=[]) (W:=[]) (fr:=0) (st:=1) (z1:=z1) (z2:=z2) (z3:=z3) (z4:=z4) (z5:=z5) (c1:=c1) (c2:=c2) (c3:=c3) (c4:=c4) (c5:=c5) (c6:=c6) (Nat.zero_le _) (Nat.zero_le _) (by omega)
 rw[<-z3i];unfold NB ZD;dsimp only;generalize hT:w1++zs n=T at P3 ⊢;simp only[SH,go_sem,uD,hg,hilt,p1,r0,l0,l0',hT,P3]
end
section
variable {h:aA} {K:jA}
attribute [-go_sem] SA WG TH
theorem za0 (l:List Cmd)(i:Nat)(c:Cmd)(hi:l[i]?=some c)(h6:c.k<=6)(state:Nat) :
 bA X AG [ACs l,AI i,AI state] h K=K (.p (ZD (qA kA (l.take i) c state))) h []:=by
 refine sA ?_;rw[FN rfl];have hg:(l.map xA)[i]?=some (xA c):=by rw[List.getElem?_map,hi];rfl
 have hilt:i<l.length:=by
  rcases Nat.lt_or_ge i l.length with h|h
  ·exact h
  ·rw[List.getElem?_eq_none h]at hi;cases hi
 rw[kF kA h6];obtain⟨k,s,cl,b,w,m⟩:=c;dsimp only at h6 hg ⊢;have k10:¬k=10:=by omega
 have k9:¬k=9:=by omega
 have k7:¬k=7:=by omega
 have k8:¬k=8:=by omega
 have P3:=λ(z1 z2 z3 z4 z5 c1 c2 c3 c4 c5 c6:AV) (Kx:Ex->St->Prop)=>pk3 (h:=h) (Kx:=Kx) (T:=[]) (D:=[]) (W:=[]) (fr:=0) (st:=state) (z1:=z1) (z2:=z2) (z3:=z3) (z4:=z4) (z5:=z5) (c1:=c1) (c2:=c2) (c3:=c3) (c4:=c4) (c5:=c5) (c6:=c6) (Nat.zero_le _) (Nat.zero_le _) (Nat.zero_le _)
 simp only[SH,go_sem,uD,hg,hilt,k10,k9,k7,k8,P3];rfl
end
section
variable {h:aA} {K:jA} {Kx:Ex->St->Prop}
attribute [-go_sem] SA WG TH
theorem pk1 {z1 z2 z3 z4 z5:AV}(l:List Cmd)(i:Nat)(c:Cmd)(hi:i<=l.length)(hs:IC c=0)(hl:l.length<=1000000)(state sh ex:Nat)(a b e:Int)(n1:JB (mA (l.take i) e).s=true)(hst:state∈stb)(m1:sh∈toS)(m2:ex∈frS)
 (b1:(mA (l.take i) a).b.length<=2000) (b2:(mA (l.take i) b).b.length<=2000) :
 TH (bA X) X.gl (ACs l) (AI i) (AI state) (.ref h.length 0) (.ref (h.length+1) 0) (.ref (h.length+2) 0) (AI sh) (AI ex) (.p (.sl none [.int .i64 a,.int .i64 b,.int .i64 e]))
  (h++[.box [z1,z2,z3,z4,z5],.box [AI c.k,AI c.s,AI c.cl,AS c.b,AS c.w,AS c.m],.box [AS [],AS [],AS [],AI 0,AI state]]) [] Kx =
 Kx .normal ⟨[(6,.ref h.length 0),(8,.ref (h.length+2) 0)],h++[.box [z1,z2,z3,z4,z5],.box [AI c.k,AI c.s,AI c.cl,AS c.b,AS c.w,AS c.m],
  .box [AS (nB kA c state sh ex (mA (l.take i) a).b (mA (l.take i) b).b (mA (l.take i) e).s.toNat).tms,AS (nB kA c state sh ex (mA (l.take i) a).b (mA (l.take i) b).b (mA (l.take i) e).s.toNat).tdi,AS (nB kA c state sh ex (mA (l.take i) a).b (mA (l.take i) b).b (mA (l.take i) e).s.toNat).want,
   AI ((nB kA c state sh ex (mA (l.take i) a).b (mA (l.take i) b).b (mA (l.take i) e).s.toNat).fr:Nat),AI ((mA (l.take i) e).s.toNat:Nat)]],[]⟩:=by
 obtain⟨q1,q2,q3,q4,q5,q6⟩:=qF hs;have hm:c.m.length<=c.b.length:=by rcases q6 with⟨_,h⟩|⟨_,h⟩ <;> simp [h]
 have hw:c.m.length<=c.w.length:=by rcases q6 with⟨h0,h⟩|⟨h0,h⟩ <;> simp [h0,h]
 obtain⟨n1,n2⟩:=vC n1;have x1:=λ(h':aA) (K':jA)=>z3J (h:=h') (K:=K') l i a hi hl
 have x2:=λ(h':aA) (K':jA)=>z3J (h:=h') (K:=K') l i b hi hl
 have x3:=λ(h':aA) (K':jA)=>z3J (h:=h') (K:=K') l i e hi hl
 generalize mA (l.take i) a=ca at x1 b1 ⊢;generalize mA (l.take i) b=cb at x2 b2 ⊢;generalize mA (l.take i) e=ce at x3 n1 n2 ⊢;obtain⟨ak,as_,acl,hd,aw,am⟩:=ca;obtain⟨bk,bs,bcl,tl,bw,bm⟩:=cb;obtain⟨ek,es,ecl,eb,ew,em⟩:=ce;have x4:=λ(h':aA) (K':jA)=>zpv (h:=h') (K:=K') c (by omega) hm hw
 dsimp only at n1 n2 x1 x2 x3 b1 b2 ⊢;obtain⟨n,rfl⟩:∃n:Nat,es=n:=⟨es.toNat,n2.symm⟩;simp only[Int.toNat_natCast]at n1 ⊢;have p1:∀(h':aA) (K':jA),bA X WD [AI state,AI sh] h' K'=K' (AS (kA state sh)) h' []:=λh' K'=>DW (h:=h') (K:=K') (RB hst) m1
 have p2:∀(h':aA) (K':jA),bA X WD [AI ex,AI n] h' K'=K' (AS (kA ex n)) h' []:=λh' K'=>DW (h:=h') (K:=K') m2 (fD n1)
 have pl1:=(QB (RB hst) m1).2.1
 have pl2:=(QB m2 (fD n1)).2.1
 unfold nB;dsimp only;generalize kA state sh=P1 at p1 pl1 ⊢;generalize kA ex n=P2 at p2 pl2 ⊢;obtain⟨k,s,cl,b',w,m⟩:=c;dsimp only at q1 q3 hm hw x4 ⊢;have hpos:=List.length_pos_iff.2 q1
 have hal:(hd++b'++tl).length=hd.length+b'.length+tl.length:=by simp only[List.length_append]
 generalize hale:hd++b'++tl=al at hal ⊢;have hz:∀n,(zs n).length=n:=λn=>by simp [zs]
 have hx:∀n,(xsL n).length=n:=λn=>by simp [xsL]
 have hec:(eC ⟨k,s,cl,b',w,m⟩).length=b'.length:=by simp [eC]
 generalize eC ⟨k,s,cl,b',w,m⟩=ec at x4 hec ⊢;have w1:IntKind.i64.wrap ((al.length:Int)-1)=((al.length-1:Nat):Int):=by
  rw[show(al.length:Int)-1=((al.length-1:Nat):Int) by omega];exact BA _ (by omega) (by omega)
 have w2:IntKind.i64.wrap ((P1.length:Int)+(hd.length:Int))=((P1.length+hd.length:Nat):Int):=by
  rw[show(P1.length:Int)+(hd.length:Int)=((P1.length+hd.length:Nat):Int) by omega];exact BA _ (by omega) (by omega)
 have r1:=λ(h':aA) (K':jA)=>JF (h:=h') (K:=K') ((al.length-1:Nat):Int) (by omega) (by omega)
 have r2:=λ(h':aA) (K':jA)=>JF (h:=h') (K:=K') (P1.length:Int) (by omega) (by omega)
 have r3:=λ(h':aA) (K':jA)=>z3H (h:=h') (K:=K') ((P1.length+hd.length:Nat):Int) (by omega) (by omega)
 simp only[Int.toNat_natCast]at r1 r2 r3;have lT2b:P1.length+(zs (al.length-1)).length+1<=QA:=by rw[hz];unfold QA;omega
 have lT1:P1.length+(zs (al.length-1)).length<=QA:=by rw[hz];unfold QA;omega
 have lT2:(P1++zs (al.length-1)).length+1<=QA:=by rw[List.length_append,hz];unfold QA;omega
 have lT3:(P1++zs (al.length-1)++[49]).length+P2.length<=QA:=by simp only[List.length_append,hz,List.length_singleton];unfold QA;omega
 have lT3b:P1.length+((zs (al.length-1)).length+1)+P2.length<=QA:=by rw[hz];unfold QA;omega
 have lD:(zs P1.length).length+al.length<=QA:=by rw[hz];unfold QA;omega
 have lW:(xsL (P1.length+hd.length)).length+ec.length<=QA:=by rw[hx,hec];unfold QA;omega
 have la:hd.length+b'.length<=QA:=by unfold QA;omega
 have lbn:hd.length+b'.length+tl.length<=QA:=by unfold QA;omega
 have lb:(hd++b').length+tl.length<=QA:=by rw[List.length_append];unfold QA;omega
 have hTn:P1++(zs (al.length-1)++49::P2)=P1++zs (al.length-1)++[49]++P2:=by simp
 generalize hTe:P1++zs (al.length-1)++[49]++P2=T at hTn ⊢;clear hTe;simp (config:={maxSteps:=4000000}) only[TH,go_sem,splice,x1,x2,x3,x4,p1,p2,w1,w2,r1,r2,r3,hale,hTn,lT2b,lT3b,lbn,lT1,lT2,lT3,lD,lW,la,lb]
end
section
variable {h:aA} {K:jA}
attribute [-go_sem] SA WG TH
theorem zp1 (l:List Cmd)(i:Nat)(c:Cmd)(hi:l[i]?=some c)(h7:c.k=7)(hs:IC c=0)(hl:l.length<=1000000)(S:SetOk (l.take i))(state:Nat)(hst:state∈stb) :
 bA X AG [ACs l,AI i,AI state] h K=K (.p (ZD (qA kA (l.take i) c state))) h []:=by
 refine sA ?_;rw[FN rfl];have hg:(l.map xA)[i]?=some (xA c):=by rw[List.getElem?_map,hi];rfl
 have hilt:i<l.length:=by
  rcases Nat.lt_or_ge i l.length with h|h
  ·exact h
  ·rw[List.getElem?_eq_none h]at hi;cases hi
 obtain⟨q1,q2,q3,q4,q5,q6⟩:=qF hs;have ep:qA kA (l.take i) c state=NB (nB kA c state 11 12 (mA (l.take i) 3).b (mA (l.take i) 4).b (mA (l.take i) 1).s.toNat):=by
  unfold qA;rw[if_neg (by omega),if_neg (by omega),if_pos h7]
 rw[ep];obtain⟨_,b1⟩:=S.b1 3 (by omega) (by omega)
 obtain⟨_,b2⟩:=S.b1 4 (by omega) (by omega)
 obtain⟨n1,n2⟩:=vC S.s1;have P1:=λ(z1 z2 z3 z4 z5:AV) (Kx:Ex->St->Prop)=>pk1 (h:=h) (z1:=z1) (z2:=z2) (z3:=z3) (z4:=z4) (z5:=z5) (Kx:=Kx) l i c (by omega) hs hl state 11 12 3 4 1 S.s1 hst (by decide) (by decide) b1 b2
 have pl1:=(QB (RB hst) (show 11∈toS by decide)).2.1
 have pl2:=(QB (show 12∈frS by decide) (fD n1)).2.1
 have hz:∀n,(zs n).length=n:=λn=>by simp [zs]
 have hx:∀n,(xsL n).length=n:=λn=>by simp [xsL]
 have hec:(eC c).length=c.b.length:=by simp [eC]
 have hpos:=List.length_pos_iff.2 q1
 have lens:(nB kA c state 11 12 (mA (l.take i) 3).b (mA (l.take i) 4).b (mA (l.take i) 1).s.toNat).tdi.length<=(nB kA c state 11 12 (mA (l.take i) 3).b (mA (l.take i) 4).b (mA (l.take i) 1).s.toNat).tms.length /\
  (nB kA c state 11 12 (mA (l.take i) 3).b (mA (l.take i) 4).b (mA (l.take i) 1).s.toNat).want.length<=(nB kA c state 11 12 (mA (l.take i) 3).b (mA (l.take i) 4).b (mA (l.take i) 1).s.toNat).tms.length /\
  (nB kA c state 11 12 (mA (l.take i) 3).b (mA (l.take i) 4).b (mA (l.take i) 1).s.toNat).tms.length<=1000000:=by
  unfold nB;simp only[List.length_append,hz,hx,hec,List.length_singleton];omega
 have est:(nB kA c state 11 12 (mA (l.take i) 3).b (mA (l.take i) 4).b (mA (l.take i) 1).s.toNat).st=(mA (l.take i) 1).s.toNat:=rfl
 generalize nB kA c state 11 12 (mA (l.take i) 3).b (mA (l.take i) 4).b (mA (l.take i) 1).s.toNat=p at P1 lens est ⊢;rw[<-est]at P1;obtain⟨l1,l2,l3⟩:=lens;have P3:=λ(z1 z2 z3 z4 z5 c1 c2 c3 c4 c5 c6:AV) (Kx:Ex->St->Prop)=>pk3 (h:=h) (Kx:=Kx) (T:=p.tms) (D:=p.tdi) (W:=p.want) (fr:=(p.fr:Nat)) (st:=(p.st:Nat)) (z1:=z1) (z2:=z2) (z3:=z3) (z4:=z4) (z5:=z5) (c1:=c1) (c2:=c2) (c3:=c3) (c4:=c4) (c5:=c5) (c6:=c6) l1 l2 l3
 obtain⟨k,s,cl,b',w,m⟩:=c;dsimp only at h7 hg P1 ⊢;subst h7;simp only[show((11:Nat):Int)=11 from rfl,show((12:Nat):Int)=12 from rfl]at P1
 unfold NB ZD;dsimp only;simp only[SH,go_sem,uD,hg,hilt,P1,P3]
theorem zpz (l:List Cmd)(i:Nat)(c:Cmd)(hi:l[i]?=some c)(h7:c.k=8)(hs:IC c=0)(hl:l.length<=1000000)(S:SetOk (l.take i))(state:Nat)(hst:state∈stb) :
 bA X AG [ACs l,AI i,AI state] h K=K (.p (ZD (qA kA (l.take i) c state))) h []:=by
 refine sA ?_;rw[FN rfl];have hg:(l.map xA)[i]?=some (xA c):=by rw[List.getElem?_map,hi];rfl
 have hilt:i<l.length:=by
  rcases Nat.lt_or_ge i l.length with h|h
  ·exact h
  ·rw[List.getElem?_eq_none h]at hi;cases hi
 obtain⟨q1,q2,q3,q4,q5,q6⟩:=qF hs;have ep:qA kA (l.take i) c state=NB (nB kA c state 4 5 (mA (l.take i) 5).b (mA (l.take i) 6).b (mA (l.take i) 2).s.toNat):=by
  unfold qA;rw[if_neg (by omega),if_neg (by omega),if_neg (by omega),if_pos h7]
 rw[ep];obtain⟨_,b1⟩:=S.b1 5 (by omega) (by omega)
 obtain⟨_,b2⟩:=S.b1 6 (by omega) (by omega)
 obtain⟨n1,n2⟩:=vC S.s2;have P1:=λ(z1 z2 z3 z4 z5:AV) (Kx:Ex->St->Prop)=>pk1 (h:=h) (z1:=z1) (z2:=z2) (z3:=z3) (z4:=z4) (z5:=z5) (Kx:=Kx) l i c (by omega) hs hl state 4 5 5 6 2 S.s2 hst (by decide) (by decide) b1 b2
 have pl1:=(QB (RB hst) (show 4∈toS by decide)).2.1
 have pl2:=(QB (show 5∈frS by decide) (fD n1)).2.1
 have hz:∀n,(zs n).length=n:=λn=>by simp [zs]
 have hx:∀n,(xsL n).length=n:=λn=>by simp [xsL]
 have hec:(eC c).length=c.b.length:=by simp [eC]
 have hpos:=List.length_pos_iff.2 q1
 have lens:(nB kA c state 4 5 (mA (l.take i) 5).b (mA (l.take i) 6).b (mA (l.take i) 2).s.toNat).tdi.length<=(nB kA c state 4 5 (mA (l.take i) 5).b (mA (l.take i) 6).b (mA (l.take i) 2).s.toNat).tms.length /\
  (nB kA c state 4 5 (mA (l.take i) 5).b (mA (l.take i) 6).b (mA (l.take i) 2).s.toNat).want.length<=(nB kA c state 4 5 (mA (l.take i) 5).b (mA (l.take i) 6).b (mA (l.take i) 2).s.toNat).tms.length /\
  (nB kA c state 4 5 (mA (l.take i) 5).b (mA (l.take i) 6).b (mA (l.take i) 2).s.toNat).tms.length<=1000000:=by
  unfold nB;simp only[List.length_append,hz,hx,hec,List.length_singleton];omega
 have est:(nB kA c state 4 5 (mA (l.take i) 5).b (mA (l.take i) 6).b (mA (l.take i) 2).s.toNat).st=(mA (l.take i) 2).s.toNat:=rfl
 generalize nB kA c state 4 5 (mA (l.take i) 5).b (mA (l.take i) 6).b (mA (l.take i) 2).s.toNat=p at P1 lens est ⊢;rw[<-est]at P1;obtain⟨l1,l2,l3⟩:=lens;have P3:=λ(z1 z2 z3 z4 z5 c1 c2 c3 c4 c5 c6:AV) (Kx:Ex->St->Prop)=>pk3 (h:=h) (Kx:=Kx) (T:=p.tms) (D:=p.tdi) (W:=p.want) (fr:=(p.fr:Nat)) (st:=(p.st:Nat)) (z1:=z1) (z2:=z2) (z3:=z3) (z4:=z4) (z5:=z5) (c1:=c1) (c2:=c2) (c3:=c3) (c4:=c4) (c5:=c5) (c6:=c6) l1 l2 l3
 obtain⟨k,s,cl,b',w,m⟩:=c;dsimp only at h7 hg P1 ⊢;subst h7;simp only[show((4:Nat):Int)=4 from rfl,show((5:Nat):Int)=5 from rfl]at P1
 unfold NB ZD;dsimp only;simp only[SH,go_sem,uD,hg,hilt,P1,P3]
end
section
variable {h:aA} {K:jA}
attribute [-go_sem] SA
theorem zp3 (l:List Cmd)(i:Nat)(c:Cmd)(hi:l[i]?=some c)(hc:MA c=0)(hl:l.length<=1000000)(S:SetOk (l.take i))(state:Nat)(hst:state∈stb) :
 bA X AG [ACs l,AI i,AI state] h K=K (.p (ZD (qA kA (l.take i) c state))) h []:=by
 cases TD hc with
 | set h hs e=>exact za0 l i c hi (by omega) state
 | pad h0 h1 hb hl e=>exact za0 l i c hi h1 state
 | go h hs e=>exact zp0 l i c hi h hs state hst
 | idle h h0 h1 e=>exact zp2 l i c hi h h0 h1 state hst
 | scan h hs e=>
  rcases h with h|h
  ·exact zp1 l i c hi h hs hl S state hst
  ·exact zpz l i c hi h hs hl S state hst
theorem zqh {pre:List Cmd}{c:Cmd}(S:SetOk pre)(hc:MA c=0):SetOk (pre++[c]):=by
 have K:=TD hc
 refine⟨?_,?_,λk h1 h2=>?_⟩
 ·rw[JC];split
  ·cases K with
   | set h hs e=>exact hs
   | pad h0 h1 hb hl e=>omega
   | go h hs e=>omega
   | idle h h0 h1 e=>omega
   | scan h hs e=>omega
  ·exact S.s1
 ·rw[JC];split
  ·cases K with
   | set h hs e=>exact hs
   | pad h0 h1 hb hl e=>omega
   | go h hs e=>omega
   | idle h h0 h1 e=>omega
   | scan h hs e=>omega
  ·exact S.s2
 ·rw[JC];split
  ·cases K with
   | set h hs e=>omega
   | pad h0 h1 hb hl e=>exact⟨hb,hl⟩
   | go h hs e=>omega
   | idle h h0 h1 e=>omega
   | scan h hs e=>omega
  ·exact S.b1 k h1 h2
theorem zqg:SetOk []:=⟨rfl,rfl,λk _ _=>⟨rfl,Nat.zero_le _⟩⟩
end
section
variable {h:aA} {K:jA}
def gC (pre:List Cmd)(state:Nat):List Cmd->Nat
 | []=>state
 | c::r=>gC (pre++[c]) (qA kA pre c state).st r
theorem FV (c:Cmd):∀(l pre:List Cmd) (state:Nat),vA kA pre state (l++[c])=vA kA pre state l++[qA kA (pre++l) c (gC pre state l)]/\gC pre state (l++[c])=(qA kA (pre++l) c (gC pre state l)).st
 | [],pre,state=>by simp [vA,gC]
 | d::l,pre,state=>by
  obtain⟨a,b⟩:=FV c l (pre++[d]) (qA kA pre d state).st;have e:pre++[d]++l=pre++d::l:=by rw[List.append_assoc];rfl
  rw[e]at a b;constructor
  ·simp only[List.cons_append,vA];rw[a];rfl
  ·exact b
theorem z5K:∀ {l:List Cmd},ED l=0->∀ c∈l,MA c=0
 | [],_,c,hc=>by cases hc
 | d::l,h,c,hc=>by
  unfold ED at h;split at h
  ·rename_i h1;exact absurd h h1
  ·rename_i h1
   rcases List.mem_cons.1 hc with rfl|hc
   ·omega
   ·exact z5K h c hc
theorem lQ {l:List Cmd}(hc:∀ c∈l,MA c=0):∀k,k<=l.length->SetOk (l.take k)/\gC [] 0 (l.take k)∈stb
 | 0,_=>⟨zqg,by show 0∈stb;decide⟩
 | k+1,hk=>by
  obtain⟨S,T⟩:=lQ hc k (by omega)
  have hlt:k<l.length:=by omega
  have h0:=hc _ (List.getElem_mem hlt)
  rw[List.take_succ_eq_append_getElem hlt];refine⟨zqh S h0,?_⟩;rw[(FV l[k] (l.take k) [] 0).2,List.nil_append];cases TD h0 with
  | set h hs e=>rw[kF kA (by omega)];exact T
  | pad h0 h1 hb hl e=>rw[kF kA h1];exact T
  | go h hs e=>rw[GI kA h];exact(vC hs).1
  | idle h h0 h1 e=>rw[HI kA h];show 1∈stb;decide
  | scan h hs e=>
   unfold qA;rcases h with h|h
   ·rw[if_neg (by omega),if_neg (by omega),if_pos h];exact(vC S.s1).1
   ·rw[if_neg (by omega),if_neg (by omega),if_neg (by omega),if_pos h];exact(vC S.s2).1
abbrev APs (l:List Part):AV:=.p (.sl (some 5) (l.map ZD))
theorem zp4 (l:List Cmd)(hc:∀ c∈l,MA c=0)(hl:l.length<=1000):bA X RO [ACs l] h K=K (APs (vA kA [] 0 l)) h []:=by
 refine sA ?_;rw[zeK rfl];simp only[dS,go_sem];refine bB (λk:Nat=>⟨[(0,ACs l),(3,.own h.length k 0 k),(4,AI (gC [] 0 (l.take k))),(8,AI l.length),(9,AI k)],h++[.row (some 5) ((vA kA [] 0 (l.take k)).map ZD) 0],[]⟩) (λk=>k<=l.length) (λk=>l.length-k) 0 rfl (by omega) ?_
 intro k hk;have hpl:∀j,j<=l.length->(vA kA [] 0 (l.take j)).length=j:=by
  intro j hj;have:∀(l:List Cmd) (pre:List Cmd) (s:Nat),(vA kA pre s l).length=l.length:=by
   intro l;induction l with
   | nil=>intro pre s;rfl
   | cons c l ih=>intro pre s;simp [vA,ih]
  rw[this];simp;omega
 have hlen:((vA kA [] 0 (l.take k)).map ZD).length=k:=by rw[List.length_map,hpl k hk]
 rcases Nat.lt_or_ge k l.length with hlt|hge
 ·obtain⟨S,T⟩:=lQ hc k hk
  have hi:l[k]?=some l[k]:=List.getElem?_eq_getElem hlt
  have h0:=hc _ (List.getElem_mem hlt)
  have w2:IntKind.i64.wrap ((k:Int)+1)=((k+1:Nat):Int):=BA _ (by omega) (by omega)
  have hmx:k+1<=LA:=by unfold LA;omega
  have hp:=λ(h':aA) (K':jA)=>zp3 (h:=h') (K:=K') l k l[k] hi h0 (by omega) S _ T
  simp only[go_sem,hlt,hp,w2,hmx,hlen];refine⟨k+1,?_,by omega,by omega⟩
  obtain⟨e1,e2⟩:=FV l[k] (l.take k) [] 0;rw[List.take_succ_eq_append_getElem hlt,e1,e2,List.nil_append,List.map_append];rfl
 ·obtain rfl:k=l.length:=by omega
  have hpe:(vA kA [] 0 l).length=l.length:=by have:=hpl l.length (Nat.le_refl _);rwa [List.take_length]at this
  simp only[go_sem,Nat.lt_irrefl,hlen,List.take_length,hpe];exact congrArg (λx=>AV.p (PV.sl (some 5) x)) (List.take_of_length_le (by simp [hpe]))
end
section
variable {h:aA} {K:jA}
def b3 (h:aA)(u1:Bool)(s1:List UInt8)(u2:Bool)(s2:List UInt8)(u3:Bool)(s3:List UInt8)(l:aA):aA:=
 h++RD u1 h.length s1.length :: .row none (tA s1) 0::RD u2 (h.length+2) s2.length :: .row none (tA s2) 0::RD u3 (h.length+4) s3.length :: .row none (tA s3) 0::l
variable {u1 u2 u3:Bool} {s1 s2 s3 t:List UInt8} {l:aA}
theorem gJ {n:Nat}:(b3 h u1 s1 u2 s2 u3 s3 l)[h.length+n]?=(RD u1 h.length s1.length::Obj.row none (tA s1) 0::RD u2 (h.length+2) s2.length::Obj.row none (tA s2) 0::RD u3 (h.length+4) s3.length::Obj.row none (tA s3) 0::l)[n]?:=by
 unfold b3;rw[List.getElem?_append_right (by omega),show h.length+n-h.length=n by omega]
theorem z5d:ZI (b3 h u1 s1 u2 s2 u3 s3 l) u1 h.length s1:=⟨gJ (n:=0),gJ (n:=1)⟩
theorem z5e:ZI (b3 h u1 s1 u2 s2 u3 s3 l) u2 (h.length+2) s2:=⟨gJ (n:=2),gJ (n:=3)⟩
theorem z5f:ZI (b3 h u1 s1 u2 s2 u3 s3 l) u3 (h.length+4) s3:=⟨gJ (n:=4),gJ (n:=5)⟩
theorem b3_e1:vI (b3 h u1 s1 u2 s2 u3 s3 l) h.length t=b3 h true t u2 s2 u3 s3 l:=by
 unfold vI b3;rw[List.set_append_right _ _ (by omega),List.set_append_right _ _ (by omega),Nat.sub_self,show h.length+1-h.length=1 by omega]
 rfl
theorem b3_e2:vI (b3 h u1 s1 u2 s2 u3 s3 l) (h.length+2) t=b3 h u1 s1 true t u3 s3 l:=by
 unfold vI b3;rw[List.set_append_right _ _ (by omega),List.set_append_right _ _ (by omega),show h.length+2-h.length=2 by omega,show h.length+2+1-h.length=3 by omega]
 rfl
theorem b3_e3:vI (b3 h u1 s1 u2 s2 u3 s3 l) (h.length+4) t=b3 h u1 s1 u2 s2 true t l:=by
 unfold vI b3;rw[List.set_append_right _ _ (by omega),List.set_append_right _ _ (by omega),show h.length+4-h.length=4 by omega,show h.length+4+1-h.length=5 by omega]
 rfl
theorem zdH (hm:s1.length+t.length<=200000000000):bA X BG [.ref h.length 0,AS t] (b3 h u1 s1 u2 s2 u3 s3 l) K=K (.tup [AI t.length,.nili]) (b3 h true (s1++t) u2 s2 u3 s3 l) []:=by
 rw[z3I z5d hm,b3_e1]
theorem zdI (hm:s2.length+t.length<=200000000000):bA X BG [.ref (h.length+2) 0,AS t] (b3 h u1 s1 u2 s2 u3 s3 l) K=K (.tup [AI t.length,.nili]) (b3 h u1 s1 true (s2++t) u3 s3 l) []:=by
 rw[z3I z5e hm,b3_e2]
theorem zdJ (hm:s3.length+t.length<=200000000000):bA X BG [.ref (h.length+4) 0,AS t] (b3 h u1 s1 u2 s2 u3 s3 l) K=K (.tup [AI t.length,.nili]) (b3 h u1 s1 u2 s2 true (s3++t) l) []:=by
 rw[z3I z5f hm,b3_e3]
theorem z5g:(b3 h u1 s1 u2 s2 u3 s3 l).length=h.length+(l.length+6):=by unfold b3;simp
theorem zdA {l2:aA}:b3 h u1 s1 u2 s2 u3 s3 l++l2=b3 h u1 s1 u2 s2 u3 s3 (l++l2):=by unfold b3;simp
theorem zdB {n:Nat}:(b3 h u1 s1 u2 s2 u3 s3 l)[h.length+(n+6)]?=l[n]?:=gJ
theorem zdD {n:Nat}{o:Obj}:(b3 h u1 s1 u2 s2 u3 s3 l).set (h.length+(n+6)) o=b3 h u1 s1 u2 s2 u3 s3 (l.set n o):=by
 unfold b3;rw[List.set_append_right _ _ (by omega),show h.length+(n+6)-h.length=n+6 by omega]
 rfl
theorem zdF {n:Nat}:(b3 h u1 s1 u2 s2 u3 s3 l).take (h.length+(n+6))=b3 h u1 s1 u2 s2 u3 s3 (l.take n):=by
 unfold b3;rw[List.take_length_add_append];rfl
theorem zdG:(b3 h u1 s1 u2 s2 u3 s3 l).take h.length=h:=by unfold b3;exact List.take_left
theorem z3Q {hp:aA}{id id':Nat}{u:Bool}{s s':List UInt8}(H:ZI hp u id' s')(h1:id'≠id+1)(h2:id'+1≠id+1):ZI (NG hp id s) u id' s':=by
 unfold NG;split
 ·exact H
 ·exact⟨by rw[List.getElem?_set_ne (by omega)];exact H.1,by rw[List.getElem?_set_ne (by omega)];exact H.2⟩
theorem z3R {hp:aA}{id n:Nat}{s:List UInt8}(hn:n<=id+1):(NG hp id s).take n=hp.take n:=by
 unfold NG;split
 ·rfl
 ·exact List.take_set_of_le (by omega)
end
section
variable {h:aA} {K:jA}
attribute [-go_sem] SA
section
variable {u1 u2 u3:Bool} {s1 s2 s3:List UInt8} {l:aA} {o:Obj}
theorem zdC:(b3 h u1 s1 u2 s2 u3 s3 l)[h.length+6]?=l[0]?:=zdB (n:=0)
theorem zdE:(b3 h u1 s1 u2 s2 u3 s3 l).set (h.length+6) o=b3 h u1 s1 u2 s2 u3 s3 (l.set 0 o):=zdD (n:=0)
theorem z5h:(b3 h u1 s1 u2 s2 u3 s3 l).take (h.length+6)=b3 h u1 s1 u2 s2 u3 s3 (l.take 0):=zdF (n:=0)
end
theorem z1g {β:Type}(f:Part->List β)(ps:List Part){k:Nat}(hk:k<ps.length):((ps.take k).flatMap f).length+(f ps[k]).length<=(ps.flatMap f).length:=by
 have e:ps.flatMap f=(ps.take (k+1)).flatMap f++(ps.drop (k+1)).flatMap f:=by rw[<-List.flatMap_append,List.take_append_drop]
 rw[e,List.take_succ_eq_append_getElem hk,List.flatMap_append,List.length_append,List.length_append];simp
theorem MM:∀ (l pre:List Cmd) (s:Nat),(vA kA pre s l).length=l.length
 | [],_,_=>rfl
 | c::l,pre,s=>by simp [vA,MM l]
theorem zpl (l:List Cmd)(hc:∀ c∈l,MA c=0)(hl:l.length<=1000)(hT:(PA (vA kA [] 0 l)).length<=1000000000)(hI:(KC (vA kA [] 0 l)).length<=1000000000)(hW:(LC (vA kA [] 0 l)).length<=1000000000):bA X oL [ACs l] h K=K (.tup [AS (PA (vA kA [] 0 l)),AS (KC (vA kA [] 0 l)),AS (LC (vA kA [] 0 l))]) h []:=by
 refine sA ?_;rw[zeF rfl];have hp:=λ(h':aA) (K':jA)=>zp4 (h:=h') (K:=K') l hc hl
 simp only[YR,go_sem,hp];have hpl:=MM l [] 0
 generalize vA kA [] 0 l=ps at hT hI hW hpl ⊢;refine bB (λk:Nat=>⟨[(5,.ref h.length 0),(6,.ref (h.length+2) 0),(7,.ref (h.length+4) 0),(11,APs ps),(12,AI ps.length),(13,AI k)],b3 h (decide (0<k)) (PA (ps.take k)) (decide (0<k)) (KC (ps.take k)) (decide (0<k)) (LC (ps.take k)) [],[(h.length+4,h.length+6),(h.length+2,h.length+4),(h.length,h.length+2)]⟩) (λk=>k<=ps.length) (λk=>ps.length-k) 0 rfl (by omega) ?_
 intro k hk;rcases Nat.lt_or_ge k ps.length with hlt|hge
 ·have hg:=VB ZD hlt
  have w2:IntKind.i64.wrap ((k:Int)+1)=((k+1:Nat):Int):=BA _ (by omega) (by omega)
  have m1:(PA (ps.take k)).length+(ps[k].tms).length<=200000000000:=by have:=z1g Part.tms ps hlt;unfold PA at *;omega
  have m2:(KC (ps.take k)).length+(ps[k].tdi).length<=200000000000:=by have:=z1g Part.tdi ps hlt;unfold KC at *;omega
  have m3:(LC (ps.take k)).length+(ps[k].want).length<=200000000000:=by have:=z1g Part.want ps hlt;unfold LC at *;omega
  simp only[go_sem,hlt,hg,w2,zdA,z5g,zdC,zdE,z5h,zdH m1,zdI m2,zdJ m3];refine⟨k+1,?_,by omega,by omega⟩
  obtain⟨e1,e2,e3⟩:=LW (ps.take k) ps[k];rw[List.take_succ_eq_append_getElem hlt,e1,e2,e3];simp
 ·obtain rfl:k=ps.length:=by omega
  have H1:=λ(u:Bool) (s1 s2 s3:List UInt8)=>z5d (h:=h) (u1:=u) (s1:=s1) (u2:=u) (s2:=s2) (u3:=u) (s3:=s3) (l:=[])
  have H2:=λ(u:Bool) (s1 s2 s3:List UInt8)=>z5e (h:=h) (u1:=u) (s1:=s1) (u2:=u) (s2:=s2) (u3:=u) (s3:=s3) (l:=[])
  have H3:=λ(u:Bool) (s1 s2 s3:List UInt8)=>z5f (h:=h) (u1:=u) (s1:=s1) (u2:=u) (s2:=s2) (u3:=u) (s3:=s3) (l:=[])
  have d1:h.length+1<=h.length+6:=by omega
  have d2:h.length+2+1<=h.length+6:=by omega
  have d3:h.length+4+1<=h.length+6:=by omega
  simp only[go_sem,Nat.lt_irrefl,List.take_length,z5g,List.length_nil,Nat.zero_add,d1,d2,d3,z5h,List.take_nil];rw[z3F (H1 _ _ _ _) (by omega)]
  rw[z3F (z3Q (H2 _ _ _ _) (by omega) (by omega)) (by omega)]
  rw[z3F (z3Q (z3Q (H3 _ _ _ _) (by omega) (by omega)) (by omega) (by omega)) (by omega)]
  simp only[go_sem];have ht:(NG (NG (NG (b3 h (decide (0<ps.length)) (PA ps) (decide (0<ps.length)) (KC ps) (decide (0<ps.length)) (LC ps) []) h.length (PA ps)) (h.length+2) (KC ps)) (h.length+4) (LC ps)).take h.length=h:=by
   rw[z3R (by omega),z3R (by omega),z3R (by omega),zdG]
  revert ht
  generalize NG _ (h.length+4) (LC ps)=hp1;intro ht;have n4:¬(h.length+4<h.length):=by omega
  have n2:¬(h.length+2<h.length):=by omega
  have n0:¬(h.length<h.length):=by omega
  have e3:vB 3 [(h.length+4,h.length+6),(h.length+2,h.length+4),(h.length,h.length+2)] h.length=h.length:=by simp only[vB,PC,List.foldl_cons,List.foldl_nil,n4,n2,n0,if_false];try simp [n4,n2]
  have e4:xB [(h.length+4,h.length+6),(h.length+2,h.length+4),(h.length,h.length+2)] h.length=true:=by simp [xB]
  simp only[bE,go_sem,e3,e4,ht];simp
end
section
variable {h:aA} {K:jA}
attribute [-go_sem] SA
theorem znS {pre:List Cmd}{c:Cmd}{state:Nat}(S:SetOk pre)(hst:state∈stb)(hc:MA c=0) :
 (qA kA pre c state).tms.length<=20008/\(qA kA pre c state).tdi.length=(qA kA pre c state).tms.length/\(qA kA pre c state).want.length=(qA kA pre c state).tms.length:=by
 have hz:∀n,(zs n).length=n:=λn=>by simp [zs]
 have hx:∀n,(xsL n).length=n:=λn=>by simp [xsL]
 cases TD hc with
 | set h hs e=>rw[kF kA (by omega)];exact⟨Nat.zero_le _,rfl,rfl⟩
 | pad h0 h1 hb hl e=>rw[kF kA h1];exact⟨Nat.zero_le _,rfl,rfl⟩
 | go h hs e=>
  rw[GI kA h];have:=(QB (RB hst) (fD (vC hs).1)).2.1;exact⟨by show(kA state c.s.toNat).length<=_;omega,hz _,hx _⟩
 | idle h h0 h1 e=>
  rw[HI kA h];have:=(QB (RB hst) (show 1∈toS by decide)).2.1
  refine⟨?_,?_,?_⟩ <;> simp only[List.length_append,hz,hx] <;> omega
 | scan h hs e=>
  obtain⟨q1,q2,q3,q4,q5,q6⟩:=qF hs;have hpos:=List.length_pos_iff.2 q1
  have he:(eC c).length=c.b.length:=by simp [eC]
  have key:∀(sh ex:Nat) (hd tl:List UInt8) (en:Nat),sh∈toS->ex∈frS->en∈stb->hd.length<=2000->tl.length<=2000 ->
   (NB (nB kA c state sh ex hd tl en)).tms.length<=20008/\(NB (nB kA c state sh ex hd tl en)).tdi.length=(NB (nB kA c state sh ex hd tl en)).tms.length/\(NB (nB kA c state sh ex hd tl en)).want.length=(NB (nB kA c state sh ex hd tl en)).tms.length:=by
   intro sh ex hd tl en h1 h2 h3 h4 h5;have p1:=(QB (RB hst) h1).2.1
   have p2:=(QB h2 (fD h3)).2.1
   rw[YJ kA c state sh ex hd tl en q1];refine⟨?_,?_,?_⟩ <;> simp only[List.length_append,hz,hx,he,List.length_singleton] <;> omega
  rcases h with h|h
  ·have ep:qA kA pre c state=NB (nB kA c state 11 12 (mA pre 3).b (mA pre 4).b (mA pre 1).s.toNat):=by
    unfold qA;rw[if_neg (by omega),if_neg (by omega),if_pos h]
   rw[ep];exact key _ _ _ _ _ (by decide) (by decide) (vC S.s1).1 (S.b1 3 (by omega) (by omega)).2 (S.b1 4 (by omega) (by omega)).2
  ·have ep:qA kA pre c state=NB (nB kA c state 4 5 (mA pre 5).b (mA pre 6).b (mA pre 2).s.toNat):=by
    unfold qA;rw[if_neg (by omega),if_neg (by omega),if_neg (by omega),if_pos h]
   rw[ep];exact key _ _ _ _ _ (by decide) (by decide) (vC S.s2).1 (S.b1 5 (by omega) (by omega)).2 (S.b1 6 (by omega) (by omega)).2
theorem zaR {l:List Cmd}(hc:∀ c∈l,MA c=0):∀k,k<=l.length->(PA (vA kA [] 0 (l.take k))).length<=k*20008/\(KC (vA kA [] 0 (l.take k))).length=(PA (vA kA [] 0 (l.take k))).length/\(LC (vA kA [] 0 (l.take k))).length=(PA (vA kA [] 0 (l.take k))).length
 | 0,_=>⟨Nat.zero_le _,rfl,rfl⟩
 | k+1,hk=>by
  obtain⟨a,b,c⟩:=zaR hc k (by omega)
  obtain⟨S,T⟩:=lQ hc k (by omega)
  have hlt:k<l.length:=by omega
  obtain⟨x,y,z⟩:=znS S T (hc _ (List.getElem_mem hlt));rw[List.take_succ_eq_append_getElem hlt,(FV l[k] (l.take k) [] 0).1,List.nil_append];obtain⟨e1,e2,e3⟩:=LW (vA kA [] 0 (l.take k)) (qA kA (l.take k) l[k] (gC [] 0 (l.take k)));rw[e1,e2,e3,List.length_append,List.length_append,List.length_append];refine⟨?_,by omega,by omega⟩
  rw[Nat.add_mul];omega
theorem zpk (l:List Cmd)(hc:∀ c∈l,MA c=0)(hl:l.length<=1000):bA X oL [ACs l] h K=K (.tup [AS (PA (vA kA [] 0 l)),AS (KC (vA kA [] 0 l)),AS (LC (vA kA [] 0 l))]) h []:=by
 obtain⟨a,b,c⟩:=zaR hc l.length (Nat.le_refl _);rw[List.take_length]at a b c;have:l.length*20008<=1000*20008:=Nat.mul_le_mul_right _ hl
 exact zpl l hc (by omega) (by omega) (by omega) (by omega)
theorem FK:∀ {l:List Cmd},(∀ c∈l,MA c=0)->ED l=0
 | [],_=>rfl
 | d::l,h=>by
  unfold ED;rw[if_neg (by rw[h d (List.mem_cons_self ..)];simp)]
  exact FK λc hc=>h c (List.mem_cons_of_mem _ hc)
theorem kZ:∀ {l:List Cmd} {k:Nat} (hk:k<l.length),(∀ c∈l.take k,MA c=0)->MA l[k]≠0->ED l=MA l[k]
 | d::l,0,hk,_,h2=>by unfold ED;rw[if_pos (by simpa using h2)];rfl
 | d::l,k+1,hk,h1,h2=>by
  unfold ED;rw[if_neg (by rw[h1 d (by simp)];simp)]
  exact kZ (l:=l) (k:=k) (by simpa using hk) (λc hc=>h1 c (by simp [hc])) (by simpa using h2)
theorem zoY (l:List Cmd)(hok:∀ c∈l,CmdOk c)(hl:l.length<=1000000):bA X nL [ACs l] h K=K (AI (qB kA l:Nat)) h []:=by
 refine sA ?_;rw[zeE rfl];by_cases hbig:1000<l.length
 ·have h1:(1000:Int)<(l.length:Int):=by omega
  have e:qB kA l=2:=by unfold qB;rw[if_pos hbig]
  rw[e];simp only[TN,go_sem,h1]
 have h1:¬(1000:Int)<(l.length:Int):=by omega
 simp only[TN,go_sem,h1];refine bB (λk:Nat=>⟨[(0,ACs l),(12,ACs l),(13,AI l.length),(14,AI k)],h,[]⟩) (λk=>k<=l.length/\∀c∈l.take k,MA c=0) (λk=>l.length-k) 0 rfl ⟨Nat.zero_le _,by simp⟩ ?_
 rintro k ⟨hk,hn⟩
 rcases Nat.lt_or_ge k l.length with hlt|hge
 ·have hg:=VB xA hlt
  have w2:IntKind.i64.wrap ((k:Int)+1)=((k+1:Nat):Int):=BA _ (by omega) (by omega)
  have hf:=λ(h':aA) (K':jA)=>zpr (h:=h') (K:=K') l[k] (hok _ (List.getElem_mem hlt))
  by_cases h0:MA l[k]=0
  ·have h0':((MA l[k]:Nat):Int)=0:=by omega
   simp only[go_sem,hlt,hg,w2,hf,h0'];refine⟨k+1,rfl,⟨by omega,?_⟩,by omega⟩
   intro c hc;rw[List.take_succ_eq_append_getElem hlt]at hc;rcases List.mem_append.1 hc with hc|hc
   ·exact hn c hc
   ·obtain rfl:c=l[k]:=by simpa using hc
    exact h0
  ·have h0':¬((MA l[k]:Nat):Int)=0:=by omega
   simp only[go_sem,hlt,hg,w2,hf,h0'];have e:qB kA l=MA l[k]:=by
    unfold qB;rw[if_neg (by omega),kZ hlt hn h0,if_pos h0]
   rw[e]
 ·obtain rfl:k=l.length:=by omega
  rw[List.take_length]at hn;have hs:=λ(h':aA) (K':jA)=>zpk (h:=h') (K:=K') l hn (by omega)
  have e:qB kA l=if 20000<(PA (vA kA [] 0 l)).length then 2 else 0:=by
   unfold qB;rw[if_neg (by omega),FK hn,if_neg (by simp)]
  rw[e];by_cases h2:20000<(PA (vA kA [] 0 l)).length
  ·have h2':(20000:Int)<((PA (vA kA [] 0 l)).length:Int):=by omega
   simp only[go_sem,Nat.lt_irrefl,Int.lt_irrefl,hs,h2,h2']
  ·have h2':¬(20000:Int)<((PA (vA kA [] 0 l)).length:Int):=by omega
   simp only[go_sem,Nat.lt_irrefl,Int.lt_irrefl,hs,h2,h2']
theorem zoX (l:List Cmd)(hok:∀ c∈l,CmdOk c)(hl:l.length<=40):bA X nL [ACs l] h K=K (AI (qB kA l:Nat)) h []:=zoY l hok (by omega)
end
section
variable {h:aA} {K:jA}
attribute [-go_sem] SA
theorem znR {l:List Cmd}(hc:∀ c∈l,MA c=0){k:Nat}(hk:k<l.length) :
 oB (gC [] 0 (l.take k)) (qA kA (l.take k) l[k] (gC [] 0 (l.take k))).tms=(qA kA (l.take k) l[k] (gC [] 0 (l.take k))).st/\GA (qA kA (l.take k) l[k] (gC [] 0 (l.take k))).tms=true:=by
 obtain⟨S,T⟩:=lQ hc k (by omega)
 have h0:=hc _ (List.getElem_mem hk)
 have bz:∀n,GA (zs n)=true:=λn=>by simp [GA,zs,MP]
 have ba:∀a b,GA a=true->GA b=true->GA (a++b)=true:=λa b h1 h2=>by unfold GA at *;rw[List.all_append,h1,h2];rfl
 generalize gC [] 0 (l.take k)=state at T ⊢;generalize l.take k=pre at S ⊢;generalize l[k]=c at h0 ⊢;cases TD h0 with
 | set h hs e=>rw[kF kA (by omega)];exact⟨rfl,rfl⟩
 | pad h0 h1 hb hl e=>rw[kF kA h1];exact⟨rfl,rfl⟩
 | go h hs e=>
  rw[GI kA h];have:=QB (RB T) (fD (vC hs).1);exact⟨this.2.2,this.1⟩
 | idle h h0 h1 e=>
  rw[HI kA h];have:=QB (RB T) (show 1∈toS by decide)
  refine⟨?_,ba _ _ this.1 (bz _)⟩;show oB state (kA state 1++zs c.cl.toNat)=1
  rw[bL,this.2.2];exact(QW rfl _).2
 | scan h hs e=>
  obtain⟨q1,q2,q3,q4,q5,q6⟩:=qF hs;have hpos:=List.length_pos_iff.2 q1
  rcases h with h|h
  ·have ep:qA kA pre c state=NB (nB kA c state 11 12 (mA pre 3).b (mA pre 4).b (mA pre 1).s.toNat):=by
    unfold qA;rw[if_neg (by omega),if_neg (by omega),if_pos h]
   have hen:=(vC S.s1).1
   rw[ep,YJ kA c state 11 12 _ _ _ q1];refine⟨(GW GV T (.inl ⟨rfl,rfl⟩) hen _ (by simp only[List.length_append];omega)).1,?_⟩
   exact ba _ _ (ba _ _ (QB (RB T) (by decide)).1 (ba _ _ (bz _) rfl)) (QB (by decide) (fD hen)).1
  ·have ep:qA kA pre c state=NB (nB kA c state 4 5 (mA pre 5).b (mA pre 6).b (mA pre 2).s.toNat):=by
    unfold qA;rw[if_neg (by omega),if_neg (by omega),if_neg (by omega),if_pos h]
   have hen:=(vC S.s2).1
   rw[ep,YJ kA c state 4 5 _ _ _ q1];refine⟨(GW GV T (.inr ⟨rfl,rfl⟩) hen _ (by simp only[List.length_append];omega)).1,?_⟩
   exact ba _ _ (ba _ _ (QB (RB T) (by decide)).1 (ba _ _ (bz _) rfl)) (QB (by decide) (fD hen)).1
theorem EV {l:List Cmd}{k:Nat}(hk:k<l.length):(vA kA [] 0 l)[k]?=some (qA kA (l.take k) l[k] (gC [] 0 (l.take k))):=by
 have key:∀(l pre:List Cmd) (s k:Nat) (hk:k<l.length),(vA kA pre s l)[k]?=some (qA kA (pre++l.take k) l[k] (gC pre s (l.take k))):=by
  intro l;induction l with
  | nil=>intro pre s k hk;simp at hk
  | cons c l ih=>
   intro pre s k hk;cases k with
   | zero=>simp [vA,gC]
   | succ k=>
    have:=ih (pre++[c]) (qA kA pre c s).st k (by simpa using hk)
    rw[vA,List.getElem?_cons_succ,this,List.append_assoc];rfl
 have:=key l [] 0 k hk;rwa [List.nil_append]at this
theorem zeh {l:List Cmd}(hc:∀ c∈l,MA c=0):GA (PA (vA kA [] 0 l))=true:=by
 unfold GA PA;rw[List.all_flatMap];rw[List.all_eq_true];intro p hp;obtain⟨k,hk⟩:=List.mem_iff_getElem?.1 hp;have hlt:k<l.length:=by
  have:=(List.getElem?_eq_some_iff.1 hk).1;rwa [MM]at this
 rw[EV hlt]at hk;cases hk;exact(znR hc hlt).2
end
section
variable {h:aA} {K:jA}
attribute [-go_sem] SA
end
section
variable {h l2:aA} {K:jA} {r:Run} {n:Nat} {o:Obj} {x:Esc}
attribute [-go_sem] SA splice
attribute [local go_sem] mG NI vH wH LG fK
theorem oW {l:aA}:(rh h r l)[h.length+6]?=l[0]?:=vH (n:=0)
theorem pW {l:aA}:(rh h r l).set (h.length+6) o=rh h r (l.set 0 o):=wH (n:=0)
theorem tQ {l:aA}:(rh h r l).take (h.length+6)=rh h r (l.take 0):=LG (n:=0)
attribute [local go_sem] oW pW tQ
structure RunI (r:Run) (k:Nat):Prop where
 R:RunOk r
 N:yK r
 st:r.st∈stb
 S:SetR r.se
 sl:r.sts.length=k
 fl:r.frs.length=k
theorem z9V (w:Bool):RunI (OB w) 0:=⟨⟨Nat.le_refl _,Nat.le_refl _,Nat.le_refl _⟩,⟨Nat.le_refl _,Nat.le_refl _⟩,by show 0∈stb;decide,⟨rfl,rfl,Nat.zero_le _,Nat.zero_le _,Nat.zero_le _,Nat.zero_le _⟩,rfl,rfl⟩
theorem zqi {s:Sett}{c:Cmd}(S:SetR s)(hc:MA c=0)(h1:1<=c.k/\c.k<=6):SetR (s.put c):=by
 have hb:c.k<=2->JB c.s=true:=λh=>by
  cases TD hc with
  | set h hs e=>exact hs
  | pad h0 h1 hb hl e=>omega
  | go h hs e=>omega
  | idle h h0 h1 e=>omega
  | scan h hs e=>omega
 have hp:3<=c.k->c.b.length<=2000:=λh=>by
  cases TD hc with
  | set h hs e=>omega
  | pad h0 h1 hb hl e=>exact hl
  | go h hs e=>omega
  | idle h h0 h1 e=>omega
  | scan h hs e=>omega
 obtain⟨s1,s2,a1,a2,a3,a4⟩:=S;unfold Sett.put;split
 ·exact⟨hb (by omega),s2,a1,a2,a3,a4⟩
 split
 ·exact⟨s1,hb (by omega),a1,a2,a3,a4⟩
 split
 ·exact⟨s1,s2,hp (by omega),a2,a3,a4⟩
 split
 ·exact⟨s1,s2,a1,hp (by omega),a3,a4⟩
 split
 ·exact⟨s1,s2,a1,a2,hp (by omega),a4⟩
 ·exact⟨s1,s2,a1,a2,a3,hp (by omega)⟩
theorem z9W {k:Nat}(I:RunI r k){c:Cmd}(hc:MA c=0):RunI (r.step kA c) (k+1)/\(r.step kA c).ck<=r.ck+20016:=by
 obtain⟨R,N,st,S,sl,fl⟩:=I;have setf:1<=c.k/\c.k<=6->RunI (r.step kA c) (k+1)/\(r.step kA c).ck<=r.ck+20016:=λh1=>by
  rw[AH kA h1];exact⟨⟨⟨R.t,R.i,R.w⟩,N,st,zqi S hc h1,by simp [sl],by simp [fl]⟩,by dsimp only;omega⟩
 cases TD hc with
 | set h hs e=>exact setf (by omega)
 | pad h0 h1 hb hl e=>exact setf ⟨by omega,h1⟩
 | go hk hs e=>
  rw[pN kA hk];obtain⟨g1,g2,g3,g4,g5,g6,_,_⟩:=EB kA r c.s.toNat;obtain⟨n1,n2⟩:=vC hs;have R1:=kK (tov:=c.s.toNat) R
  have N1:=gN (tov:=c.s.toNat) N
  have pl:=(QB (RB st) (fD n1)).2.1
  refine⟨⟨⟨R1.t,R1.i,R1.w⟩,N1,?_,?_,?_,?_⟩,?_⟩
  ·show(r.go kA c.s.toNat).st∈stb;rw[g2];exact n1
  ·show SetR (r.go kA c.s.toNat).se;rw[g1];exact S
  ·simp [g3,sl]
  ·simp [g4,fl]
  ·show(r.go kA c.s.toNat).ck<=_;rw[FJ];omega
 | idle hk h0 h1 e=>
  rw[qK kA hk];obtain⟨g1,g2,g3,g4,g5,g6,g7,g8⟩:=EB kA r 1;obtain⟨q1,q2,q3,q4,q5,q6,q7,q8⟩:=RC (r.go kA 1) (List.replicate c.cl.toNat (48,48,120));have R1:=jK (L:=List.replicate c.cl.toNat (48,48,120)) (kK (tov:=1) R)
  have N1:=gN (tov:=1) N
  have pl:=(QB (RB st) (show 1∈toS by decide)).2.1
  refine⟨⟨⟨R1.t,R1.i,R1.w⟩,?_,?_,?_,?_,?_⟩,?_⟩
  ·obtain⟨x,y⟩:=N1
   exact⟨by show Run.ni (Run.clk _ _)<=Run.ck (Run.clk _ _);rw[q7,q6];omega,by show Run.nd (Run.clk _ _)<=Run.ck (Run.clk _ _);rw[q8,q6];omega⟩
  ·show Run.st (Run.clk _ _)∈stb;rw[q2,g2];decide
  ·show SetR (Run.se (Run.clk _ _));rw[q1,g1];exact S
  ·simp [q3,g3,sl]
  ·simp [q4,g4,fl]
  ·show Run.ck (Run.clk _ _)<=_;rw[q6,FJ,List.length_replicate];omega
 | scan hk hs e=>
  rw[rK kA hk];obtain⟨g3,g4,g1⟩:=z3P (r:=r) c;obtain⟨q1,q2,q3,q4,q5,q6⟩:=qF hs;have key:∀(sh ex:Nat) (en:Int) (hd tl:List UInt8) (r2:Run),sh∈toS->ex∈frS->JB en=true->hd.length<=2000->tl.length<=2000->RunOk r2->r2.ck=(r.go kA sh).ck->r2.ni<=r2.ck+(hd++c.b++tl).length->r2.nd<=r2.ck+(hd++c.b++tl).length ->
   r.scn kA c=Run.go kA { Run.clk r2 (YA c hd (hd++c.b++tl)) with st:=ex } en.toNat->RunI { r.scn kA c with sts:=(r.scn kA c).sts++[(r.scn kA c).st],frs:=(r.scn kA c).frs++[r.scnF kA c] } (k+1)/\(r.scn kA c).ck<=r.ck+20016:=by
   intro sh ex en hd tl r2 m1 m2 m3 m4 m5 R2 m6 m7 m8 e;obtain⟨n1,n2⟩:=vC m3;have R3:=jK (L:=YA c hd (hd++c.b++tl)) R2
   have R4:=kK (r:={ Run.clk r2 (YA c hd (hd++c.b++tl)) with st:=ex }) (tov:=en.toNat) ⟨R3.t,R3.i,R3.w⟩
   have N4:=gN (r:={ Run.clk r2 (YA c hd (hd++c.b++tl)) with st:=ex }) (tov:=en.toNat) (by
    obtain⟨_,_,_,_,_,z1,z2,z3⟩:=RC r2 (YA c hd (hd++c.b++tl));have z4:=yQ c hd (hd++c.b++tl)
    exact⟨by show Run.ni (Run.clk _ _)<=Run.ck (Run.clk _ _);omega,by show Run.nd (Run.clk _ _)<=Run.ck (Run.clk _ _);omega⟩)
   have st4:=(EB kA { Run.clk r2 (YA c hd (hd++c.b++tl)) with st:=ex } en.toNat).2.1
   have ck4:=FJ (r:={ Run.clk r2 (YA c hd (hd++c.b++tl)) with st:=ex }) (tov:=en.toNat)
   have ck3:=NN (r:=r2) (L:=YA c hd (hd++c.b++tl))
   have ck2:=FJ (r:=r) (tov:=sh)
   have p1:=(QB (RB st) m1).2.1
   have p2:=(QB m2 (fD n1)).2.1
   have z4:=yQ c hd (hd++c.b++tl)
   simp only[List.length_append]at z4;rw[<-e]at R4 N4 st4 ck4;refine⟨⟨⟨R4.t,R4.i,R4.w⟩,N4,by show(r.scn kA c).st∈stb;rw[st4];exact n1,by show SetR (r.scn kA c).se;rw[g1];exact S,by simp [g3,sl],by simp [g4,fl]⟩,?_⟩
   dsimp only at ck4;omega
  have N1:=λsh=>gN (tov:=sh) N
  have R1:=λsh=>kK (tov:=sh) R
  rcases hk with h7|h8
  ·refine key 11 12 r.se.e1.s r.se.h1.b r.se.t1.b { r.go kA 11 with ni:=(r.go kA 11).ni+(r.se.h1.b++c.b++r.se.t1.b).length } (by decide) (by decide) S.s1 S.h1 S.t1 ⟨(R1 11).t,(R1 11).i,(R1 11).w⟩ rfl ?_ ?_ (IW h7).1
   ·have:=(N1 11).1;dsimp only;omega
   ·have:=(N1 11).2;dsimp only;omega
  ·refine key 4 5 r.se.e2.s r.se.h2.b r.se.t2.b { r.go kA 4 with nd:=(r.go kA 4).nd+(r.se.h2.b++c.b++r.se.t2.b).length } (by decide) (by decide) S.s2 S.h2 S.t2 ⟨(R1 4).t,(R1 4).i,(R1 4).w⟩ rfl ?_ ?_ (HW h8).1
   ·have:=(N1 4).1;dsimp only;omega
   ·have:=(N1 4).2;dsimp only;omega
theorem z3M:bA X EL [] h K=K (.p (.agg [eI 1,eI 1,eI 0,.str [],.str [],.str [],eI 2,eI 1,eI 0,.str [],.str [],.str [],eI 3,eI 0,eI 0,.str [],.str [],.str [],eI 4,eI 0,eI 0,.str [],.str [],.str [],eI 5,eI 0,eI 0,.str [],.str [],.str [],eI 6,eI 0,eI 0,.str [],.str [],.str []])) h []:=by
 refine sA ?_;rw[zfG rfl];simp only[kT,go_sem,splice]
theorem z93 (l:List Cmd)(hc:∀ c∈l,MA c=0)(hl:l.length<=1000)(w:Bool){v:AV}(ht:v.top<=h.length)(hv:∀ r t,Shows (some 6) v (l.map xA) (rh h r t))(Kx:Ex->St->Prop)(hK:∀ r,(OB w).play kA l=r->Kx .ret ⟨[(4,.ref (h.length+5) 0)],rh h r [],[]⟩) :
 UA (bA X) X.gl (.scope WJ) (qC 0 (xD (bA X) X.gl iQ Kx)) [(5,.ref (h.length+5) 0),(13,v),(14,AI l.length),(15,AI 0)] (rh h (OB w) []) []:=by
 have ht6:v.top<=h.length+6:=by omega
 refine bB (λt:Nat×Run=>⟨[(5,.ref (h.length+5) 0),(13,v),(14,AI l.length),(15,AI t.1)],rh h t.2 [],[]⟩) (λt=>t.1<=l.length/\RunI t.2 t.1/\t.2.ck<=50000/\(OB w).play kA l=t.2.play kA (l.drop t.1)) (λt=>l.length-t.1) (0,OB w) rfl ⟨Nat.zero_le _,z9V w,Nat.zero_le _,rfl⟩ ?_
 rintro⟨k,r⟩ ⟨hk,I,hck,hpl⟩
 dsimp only at hk I hck hpl ⊢;rcases Nat.lt_or_ge k l.length with hlt|hge
 ·obtain⟨a,ha,hb0⟩:=(hv r []).get k (by simpa using hlt)
  rw[List.getElem_map]at hb0;have w2:IntKind.i64.wrap ((k:Int)+1)=((k+1:Nat):Int):=BA _ (by omega) (by omega)
  have hdr:l.drop k=l[k]::l.drop (k+1):=(List.getElem_cons_drop hlt).symm
  rw[hdr]at hpl;have hpc:∀(c:Cmd) (L:List Cmd),r.play kA (c::L)=if 20000<r.ck then r else(r.step kA c).play kA L:=λc L=>rfl
  rw[hpc]at hpl;have h0:=hc _ (List.getElem_mem hlt)
  by_cases hb:20000<r.ck
  ·have hb':(20000:Int)<(r.ck:Int):=by omega
   rw[if_pos hb]at hpl;simp only[go_sem,hlt,ha,hb0,mF,JI,hb',splice,ht6];exact hK r hpl
  ·have hb':¬(20000:Int)<(r.ck:Int):=by omega
   rw[if_neg hb]at hpl;have hs:=λ(l2:aA) (K':jA)=>za6 (h:=h) (l:=l2) (K:=K') I.R I.N (by omega) I.st I.S (by rw[I.sl];omega) (by rw[I.fl];omega) l[k] h0
   obtain⟨I2,c2⟩:=z9W I h0;simp only[go_sem,hlt,ha,hb0,mF,JI,hb',hs,w2,splice,ht6];exact⟨(k+1,r.step kA l[k]),rfl,⟨by dsimp only;omega,I2,by dsimp only;omega,hpl⟩,by dsimp only;omega⟩
 ·obtain rfl:k=l.length:=by omega
  rw[List.drop_length]at hpl;simp only[go_sem,Nat.lt_irrefl];exact hK r hpl
theorem vR {l:List Cmd}:KF (some 6) (l.map xA):=λx hx=>by obtain⟨n,_,rfl⟩:=List.mem_map.1 hx;rfl
theorem za1 (l:List Cmd)(hc:∀ c∈l,MA c=0)(hl:l.length<=1000)(p:AV)(w:Bool)(hp:(p = .nilp/\w=false)∨(∃ i,p = .ref i 0)/\w=true) :
 bA X bF [ACs l,p] h K=K (.ref (h.length+5) 0) (rh h ((OB w).play kA l) []) []:=by
 refine sA ?_;have main:=z93 (h:=h) l hc hl w (v:=ACs l) (Nat.zero_le _) (λr t=>SI vR)
 rcases hp with⟨rfl,rfl⟩|⟨⟨i,rfl⟩,rfl⟩
 ·first|rw[GN rfl]|rw[GN]
  simp only[VK,go_sem,z3M,splice];refine main _ λr e=>?_
  rw[e];have q1:h.length+5+1=h.length+6:=rfl
  have q2:max h.length (h.length+6)=h.length+6:=by omega
  simp only[go_sem,q1,q2,List.take_nil]
 ·first|rw[GN rfl]|rw[GN]
  simp only[VK,go_sem,z3M,splice];refine main _ λr e=>?_
  rw[e];have q1:h.length+5+1=h.length+6:=rfl
  have q2:max h.length (h.length+6)=h.length+6:=by omega
  simp only[go_sem,q1,q2,List.take_nil]
end
section
variable {h:aA} {K:jA} {r:Run} {n:Nat} {o:Obj} {x:Esc}
attribute [-go_sem] SA splice
attribute [local go_sem] mG NI vH wH LG fK oW pW tQ mF GF JI RM TM UM VM WM XM YM
theorem znY {l:List Cmd}(hc:∀ c∈l,MA c=0)(w:Bool):20000<((OB w).play kA l).ck↔20000<(PA (vA kA [] 0 l)).length:=by
 have e:=FK hc
 constructor
 ·intro h
  rcases Nat.lt_or_ge 20000 (PA (vA kA [] 0 l)).length with h1|h1
  ·exact h1
  ·have:=(z91 GV e w h1).1;omega
 ·intro h
  have:=(z3p kA l (rel0 w) e).2;simp only[List.nil_append]at this;exact this h
theorem za2 (l:List Cmd)(hc:∀ c∈l,MA c=0)(hl:l.length<=1000):bA X bF [ACs l,.nilp] h K=K (.ref (h.length+5) 0) (rh h ((OB false).play kA l) []) []:=za1 l hc hl .nilp false (.inl ⟨rfl,rfl⟩)
theorem zp6 (l:List Cmd)(hc:∀ c∈l,MA c=0)(hl:l.length<=1000)(i:Nat):bA X bF [ACs l,.ref i 0] h K=K (.ref (h.length+5) 0) (rh h ((OB true).play kA l) []) []:=za1 l hc hl _ true (.inr ⟨⟨i,rfl⟩,rfl⟩)
theorem z55 (l:List Cmd)(hok:∀ c∈l,CmdOk c)(hl:l.length<=1000000)(hbig:¬ 1000<l.length){v:AV}(ht:v.top<=h.length)(hv:Shows (some 6) v (l.map xA) h)(hpl:∀ K:jA,(∀ c∈l,MA c=0)->l.length<=1000->bA X bF [v,.nilp] h K=K (.ref (h.length+5) 0) (rh h ((OB false).play kA l) []) []) :
 UA (bA X) X.gl (.scope VJ) (qC 0 (xD (bA X) X.gl gQ (oA [.t 2] false h.length λv1 h1 x1=>v1=AI (qB kA l:Nat)/\h1=h/\x1=[]))) [(0,v),(10,v),(11,AI l.length),(12,AI 0)] h []:=by
 refine bB (λk:Nat=>⟨[(0,v),(10,v),(11,AI l.length),(12,AI k)],h,[]⟩) (λk=>k<=l.length/\∀c∈l.take k,MA c=0) (λk=>l.length-k) 0 rfl ⟨Nat.zero_le _,by simp⟩ ?_
 rintro k ⟨hk,hn⟩
 rcases Nat.lt_or_ge k l.length with hlt|hge
 ·obtain⟨a,ha,hg⟩:=hv.get k (by simpa using hlt)
  rw[List.getElem_map]at hg;have w2:IntKind.i64.wrap ((k:Int)+1)=((k+1:Nat):Int):=BA _ (by omega) (by omega)
  have hf:=λ(h':aA) (K':jA)=>zpx (h:=h') (K:=K') l[k] (hok _ (List.getElem_mem hlt))
  have hsn:MA l[k]=0->∀c∈l.take (k+1),MA c=0:=λh0 c hc=>by
   rw[List.take_succ_eq_append_getElem hlt]at hc;rcases List.mem_append.1 hc with hc|hc
   ·exact hn c hc
   ·obtain rfl:c=l[k]:=by simpa using hc
    exact h0
  have hpf:MA l[k]≠0->qB kA l=MA l[k]:=λh0=>by
   unfold qB;rw[if_neg (by omega),kZ hlt hn h0,if_pos h0]
  have hbr:=zge (c:=l[k])
  have hkd:=z5I (c:=l[k])
  generalize l[k]=c at *;generalize hke:IL c=ke at *;generalize hbc:DN c=bc at *;obtain⟨k0,s0,cl0,b0,w0,m0⟩:=c;obtain⟨k1,s1,cl1,b1,w1,m1⟩:=bc;dsimp only at hbr hkd hf;have fp:xA ⟨k0,s0,cl0,b0,w0,m0⟩ = .agg [eI k0,eI s0,eI cl0,.str b0,.str w0,.str m0]:=rfl
  rw[fp]at hg;by_cases i1:k0<1
  ·have e:=hkd (by omega)
   rw[hpf (by omega),e]
   simp only[go_sem,hlt,ha,hg,w2,hf,ht,BC,i1,splice]
  by_cases i2:10<k0
  ·have e:=hkd (by omega)
   rw[hpf (by omega),e]
   simp only[go_sem,hlt,ha,hg,w2,hf,ht,BC,i1,i2,splice]
  have e:=hbr (by omega)
  by_cases i3:ke=0
  ·subst i3
   rw[if_neg (by simp)]at e
   by_cases i4:(⟨k1,s1,cl1,b1,w1,m1⟩:Cmd)=⟨k0,0,0,[],[],[]⟩
   ·rw[if_pos i4]at e
    simp only[go_sem,hlt,ha,hg,w2,hf,ht,BC,i1,i2,splice,BO,i4];exact⟨k+1,rfl,⟨by omega,hsn e⟩,by omega⟩
   ·rw[if_neg i4]at e
    rw[hpf (by omega),e]
    simp only[go_sem,hlt,ha,hg,w2,hf,ht,BC,i1,i2,splice,BO,i4]
  ·have i3':¬((ke:Nat):Int)=0:=by omega
   rw[if_pos i3]at e;rw[hpf (by omega),e]
   simp only[go_sem,hlt,ha,hg,w2,hf,ht,BC,i1,i2,splice,i3']
 ·obtain rfl:k=l.length:=by omega
  rw[List.take_length]at hn;have hs:=λ(K':jA)=>hpl K' hn (by omega)
  have e:qB kA l=if 20000<(PA (vA kA [] 0 l)).length then 2 else 0:=by
   unfold qB;rw[if_neg (by omega),FK hn,if_neg (by simp)]
  rw[e];have hm:=znY hn false
  by_cases h2:20000<(PA (vA kA [] 0 l)).length
  ·have h3:=hm.2 h2
   have h2':(20000:Int)<(((OB false).play kA l).ck:Int):=by omega
   simp only[go_sem,Nat.lt_irrefl,Int.lt_irrefl,ht,hs,h2,h2',splice]
  ·have h3:=λq=>h2 (hm.1 q)
   have h2':¬(20000:Int)<(((OB false).play kA l).ck:Int):=by omega
   simp only[go_sem,Nat.lt_irrefl,Int.lt_irrefl,ht,hs,h2,h2',splice]
theorem z3G (l:List Cmd)(hok:∀ c∈l,CmdOk c)(hl:l.length<=1000000):bA X CF [ACs l] h K=K (AI (qB kA l:Nat)) h []:=by
 refine sA ?_;first|rw[OY rfl]|rw[OY]
 by_cases hbig:1000<l.length
 ·have h1:(1000:Int)<(l.length:Int):=by omega
  have e:qB kA l=2:=by unfold qB;rw[if_pos hbig]
  rw[e];simp only[vJ,go_sem,h1]
 have h1:¬(1000:Int)<(l.length:Int):=by omega
 simp only[vJ,go_sem,h1];exact z55 l hok hl hbig (Nat.zero_le _) (SI vR) λK hc hl=>za2 l hc hl
theorem zoS (l:List Cmd)(hok:∀ c∈l,CmdOk c)(hl:l.length<=40):bA X CF [ACs l] h K=K (AI (qB kA l:Nat)) h []:=z3G l hok (by omega)
theorem z3q {l:List Cmd}(h:qB kA l=0):(∀c∈l,MA c=0)/\(PA (vA kA [] 0 l)).length<=20000/\l.length<=1000:=by
 unfold qB at h;split at h
 ·cases h
 split at h
 ·rename_i h1;exact absurd h h1
 split at h
 ·cases h
 ·rename_i h0 h1 h2
  exact⟨z5K (by omega),by omega,by omega⟩
theorem z9N {l:aA}:(rh h r l)[h.length+1]?=some (.row none (r.frs.map eN) 0):=by unfold rh;rw[gE];rfl
theorem z9O {l:aA}:(rh h r l)[h.length+2]?=some (.row none (tA r.tms) 0):=by unfold rh;rw[gE];rfl
theorem z9P {l:aA}:(rh h r l)[h.length+3]?=some (.row none (tA r.tdi) 0):=by unfold rh;rw[gE];rfl
attribute [local go_sem] z9N z9O z9P
def hbx (h:aA):aA:=h++[.box [AB true]]
theorem zpE (l:List Cmd)(hc:∀ c∈l,MA c=0)(hl:l.length<=1000):bA X DP [ACs l] h K=K (.ref ((hbx h).length+5) 0) (rh (hbx h) ((OB true).play kA l) []) []:=by
 refine sA ?_;rw[zfE rfl];have hp:=λ(K':jA)=>zp6 (h:=h++[.box [AB true]]) (K:=K') l hc (by omega) h.length
 have el:(h++[Obj.box [AB true]]).length=h.length+1:=by simp
 have el2:(hbx h).length=h.length+1:=by simp [hbx]
 have et:(rh (h++[Obj.box [AB true]]) ((OB true).play kA l) []).length=h.length+7:=by rw[mG,el];simp
 simp only[jT,go_sem,hp,splice];refine⟨by omega,by rw[el2],?_⟩
 exact List.take_of_length_le (by rw[et];omega)
end
section
variable {h:aA} {K:jA}
attribute [-go_sem] SA FB LB
theorem zmd {ds:List TDev}:BB ds ds.length=ds.map FF:=by unfold BB;rw[List.take_length]
theorem zme {ds:List TDev}:(ds.map FF).map PortS.d=ds:=by rw[List.map_map];exact List.map_id _
theorem zmg {ds:List TDev}:(ds.map FF).map PortS.p=OM ds:=by rw[List.map_map];rfl
theorem zmf {ds:List TDev}(hd:∀ d∈ds,DevOk d):∀q∈ds.map FF,PSOk q:=by
 intro q hq;obtain⟨d,hm,rfl⟩:=List.mem_map.1 hq;have D:=hd d hm
 exact⟨D,⟨by simp [FF],by simp [FF,jD],by simp [FF],by simp [FF]⟩,λr hr=>z8F d d.regs [] D.nd r hr⟩
theorem z5l {s:List UInt8}(hs:GA s=true){k:Nat}(hk:k<s.length):jD s[k]:=LY hs (List.getElem_mem hk)
theorem zoQ (ds:List TDev)(st:Nat)(ps:List aD)(a b:UInt8)(r:List (UInt8 × UInt8)):IF ds st ps ((a,b)::r)=rN st (HH st ds ps b).2::IF ds (stW st a) (HH st ds ps b).1 r:=rfl
theorem zpm (ds:List TDev)(hd:∀ d∈ds,DevOk d)(h0:ds≠[])(h20:ds.length<=20)(hck:∀ h K,bA X qI [nC ds] h K=K (AI 0) h [])(tms tdi:List UInt8)(hl:tms.length=tdi.length)(hn:tms.length<=20000)(hb1:GA tms=true)(hb2:GA tdi=true) :
 bA X oP [nC ds,AS tms,AS tdi] h K=K (.tup [AS (IF ds 0 (OM ds) (tms.zip tdi)),AI 0]) h []:=by
 refine sA ?_;rw[zfn rfl];have nw:=λh K=>s_New (h:=h) (K:=K) ds hd h0 h20 hck
 have B1:=λh K=>lK (h:=h) (K:=K) tms (by omega)
 have B2:=λh K=>lK (h:=h) (K:=K) tdi (by omega)
 rw[hb1]at B1;rw[hb2]at B2;have t1:¬(20000:Int)<(tms.length:Int):=by omega
 have t2:¬(20000:Int)<(tdi.length:Int):=by omega
 have t3:(tms.length:Int)=(tdi.length:Int):=by omega
 have l0:(CH h 0 (BB ds ds.length) []).length=h.length+(2+4*ds.length):=by rw[XI,z9l (Nat.le_refl _)];rfl
 have ap:∀(st:Int) (l:List PortS) (t u:aA),CH h st l t++u=CH h st l (t++u):=λ_ _ _ _=>bX
 simp only[JS,go_sem,↓nw,nw,t1,t2,eq_true t3,↓B1,B1,↓B2,B2,l0,ap,List.nil_append];have zl:(tms.zip tdi).length=tms.length:=by rw[List.length_zip];omega
 have Rl:(IF ds 0 (OM ds) (tms.zip tdi)).length=tms.length:=by rw[z36,zl]
 generalize hR:IF ds 0 (OM ds) (tms.zip tdi)=R at *;refine bB (λt:Nat×Nat×List PortS=>⟨[(1,AS tms),(2,AS tdi),(8,.ref (h.length+1) 0),(10,.own (h.length+(2+4*ds.length)) t.1 0 t.1),(46,AI tms.length),(47,AI t.1)],CH h t.2.1 t.2.2 [.row none (tA (R.take t.1)) 0],dH h ds.length⟩)
  (λt=>(t.1<=tms.length/\t.2.1<16)/\(t.2.2.map PortS.d=ds/\∀q∈t.2.2,PSOk q)/\IF ds t.2.1 (t.2.2.map PortS.p) ((tms.zip tdi).drop t.1)=R.drop t.1) (λt=>tms.length-t.1) (0,0,ds.map FF) (by rw[zmd];rfl) ⟨⟨by dsimp only;omega,by dsimp only;omega⟩,⟨zme,zmf hd⟩,by dsimp only;rw[zmg,List.drop_zero,hR];rfl⟩ ?_
 rintro⟨k,st,l⟩ ⟨⟨i1,i2⟩,⟨i3,i4⟩,i5⟩
 dsimp only at i1 i2 i3 i4 i5 ⊢;have ll:l.length=ds.length:=by rw[<-i3,List.length_map]
 generalize hP:h.length+(2+4*ds.length)=P at *;have gl:∀(st:Int) (l:List PortS),l.length=ds.length->∀t:aA,(CH h st l t).length=P+t.length:=λst l e t=>by rw[XI,e,hP]
 have gg:∀(st:Int) (l:List PortS),l.length=ds.length->∀(t:aA),(CH h st l t)[P]?=t[0]?:=λst l e t=>by
  have:=@CH_t h st l t 0;rw[e,hP]at this;exact this
 have gs:∀(st:Int) (l:List PortS),l.length=ds.length->∀(t:aA) (o:Obj),(CH h st l t).set P o=CH h st l (t.set 0 o):=λst l e t o=>by
  have:=@cX h st l t 0 o;rw[e,hP]at this;exact this
 have gk:∀(st:Int) (l:List PortS),l.length=ds.length->∀(t:aA) (n:Nat),(CH h st l t).take (P+n)=CH h st l (t.take n):=λst l e t n=>by
  have:=@z4x h st l t n;rw[e,hP]at this;exact this
 have lr:(tA (R.take k)).length=k:=by rw[RG,List.length_take];omega
 rw[qG];rcases Nat.lt_or_ge k tms.length with hlt|hge
 ·have hlt':(k:Int)<(tms.length:Int):=by omega
  have hk2:k<tdi.length:=by omega
  have w2:IntKind.i64.wrap ((k:Int)+1)=((k+1:Nat):Int):=BA _ (by omega) (by omega)
  have ea:(tms.zip tdi).drop k=(tms[k],tdi[k])::(tms.zip tdi).drop (k+1):=by
   rw[List.drop_eq_getElem_cons (by rw[zl];exact hlt),List.getElem_zip]
  have ba:=z5l hb1 hlt
  have bb:=z5l hb2 hk2
  have ga:tms[k]?=some tms[k]:=List.getElem?_eq_getElem hlt
  have gb:tdi[k]?=some tdi[k]:=List.getElem?_eq_getElem hk2
  rw[ea]at i5;generalize tms[k]=ca at *;generalize tdi[k]=cb at *;rw[zoQ]at i5;have wS:∀c:UInt8,jD c->IntKind.u8.wrap ((c.toNat:Int)-48)=((c.toNat-48:Nat):Int):=λc hc=>by rcases hc with rfl|rfl <;> rfl
  have wT:∀c:UInt8,jD c->IntKind.i64.wrap ((c.toNat-48:Nat):Int)=((c.toNat-48:Nat):Int):=λc hc=>by rcases hc with rfl|rfl <;> rfl
  have x1:=wS ca ba
  have x2:=wT ca ba
  have x3:=wS cb bb
  have x4:=wT cb bb
  have ck:=λK=>zpJ (h:=h) (K:=K) [.row none (tA (R.take k)) 0] l i4 (by omega) st i2 ca cb ba bb
  obtain⟨n1,n2,n3⟩:=z4M st l cb;obtain⟨o1,o2⟩:=z4O st l cb i4 bb;have ol:=z4N st l cb
  rw[i3]at n1 n2 n3;rw[<-n1,<-n2]at i5;generalize (FC st l cb).1=l' at *;generalize (FC st l cb).2=b' at *;have l'l:l'.length=ds.length:=by rw[ol,ll]
  have gl':=gl (stW st ca) l' l'l
  have gg':=gg (stW st ca) l' l'l
  have gs':=gs (stW st ca) l' l'l
  have gk':=gk (stW st ca) l' l'l
  have gl0:=gl st l ll
  have hst':stW st ca<16:=zaU i2 ba
  have f1:h.length+1+1<=P+1:=by omega
  have f2:h.length+1<=P:=by omega
  have ms:k+1<=LA:=by unfold LA;omega
  have eR:R.drop k=rN st b'::R.drop (k+1):=by
   have:R.drop (k+1)=(R.drop k).drop 1:=by rw[List.drop_drop]
   rw[this,<-i5];rfl
  have i6:IF ds (stW st ca) (l'.map PortS.p) ((tms.zip tdi).drop (k+1))=R.drop (k+1):=by
   rw[eR]at i5;injection i5
  have eT:R.take (k+1)=R.take k++[rN st b']:=by
   have hk:k<R.length:=by omega
   rw[List.take_succ_eq_append_getElem hk];congr 2
   rw[List.drop_eq_getElem_cons hk]at eR;injection eR
  have eB:tA (R.take (k+1))=tA (R.take k)++[.int .u8 (rN st b').toNat]:=by rw[eT];simp [tA]
  unfold clkO at ck;unfold rN at eB;by_cases hs:st=4∨st=11
  ·rw[if_pos hs]at ck eB
   have y1:¬(b'.toNat:Int)-48<0:=by rcases o2 with e|e <;> rw[e] <;> decide
   have y2:IntKind.i64.wrap (48+((b'.toNat:Int)-48))=(b'.toNat:Int):=by rcases o2 with e|e <;> rw[e] <;> rfl
   have y3:IntKind.u8.wrap (b'.toNat:Int)=(b'.toNat:Int):=by rcases o2 with e|e <;> rw[e] <;> rfl
   simp only[vT,OK,go_sem,hlt',ga,gb,x1,x2,x3,x4,↓ck,ck,y1,y2,y3,gg',gs',gk',gl0,lr,ms,f1,f2,w2,List.length_cons,List.length_nil];refine⟨(k+1,stW st ca,l'),?_,⟨⟨by dsimp only;omega,hst'⟩,⟨n3,o1⟩,i6⟩,by dsimp only;omega⟩
   rw[eB]
  ·rw[if_neg hs]at ck eB
   have y1:(-1:Int)<0:=by decide
   simp only[vT,OK,go_sem,hlt',ga,gb,x1,x2,x3,x4,↓ck,ck,y1,gg',gs',gk',gl0,lr,ms,f1,f2,w2,List.length_cons,List.length_nil];refine⟨(k+1,stW st ca,l'),?_,⟨⟨by dsimp only;omega,hst'⟩,⟨n3,o1⟩,i6⟩,by dsimp only;omega⟩
   rw[eB];rfl
 ·have ek:k=tms.length:=by omega
  subst ek;have eR:R.take tms.length=R:=List.take_of_length_le (by omega)
  rw[eR]at lr ⊢;have tb:PE (tA R)=some R:=sN _
  have wf:win (tA R) 0 tms.length=tA R:=VI lr
  have gl0:=gl st l ll
  have gg0:=gg st l ll
  have gk0:=gk st l ll
  have f1:h.length+1+1<=P+1:=by omega
  simp only[vT,OK,go_sem,Nat.lt_irrefl,gl0,gg0,gk0,f1,List.length_cons,List.length_nil,lr,wf,tb];rw[zo7 (v:=.tup [AS R,AI 0]) (λy hy=>by have:=(z0S hy).1;omega) (by simp only[go_sem]) (by simp [AV.top,AV.tops])]
  have th:(CH h st l [.row none (tA R) 0]).take h.length=h:=by unfold CH;rw[CN]
  rw[th];exact⟨rfl,rfl,rfl⟩
end
section
variable {h:aA} {K:jA}
theorem zpF (s:List UInt8)(c:UInt8):bA X xJ [AS s,.p (.int .u8 c.toNat)] h K=K (AI (sD s c)) h []:=by
 refine sA ?_;rw[z5u rfl];simp only[PN,go_sem,zaw]
end
section
variable {P:Program} {gl:Nat->Option PV}
open Go.Shelf
theorem EN {w w':World}(h:Go.RowKit.Below w.heap.size w w'):WExt w w':=⟨h.size,λb hb=>h.block b hb,by unfold zed;rw[h.os,h.tape,h.output]⟩
theorem z8T (s:List UInt8):∀c,Go.Lib.repeatL s c=KI s c
 | 0=>rfl
 | c+1=>by rw[Go.Lib.repeatL,KI,z8T s c]
theorem ztq {ρ:Ren}(L:Go.Proofs.Lays.n105 P ρ)(E:Go.Proofs.Builder.Extra P ρ)(he:∀ us w,(callFunc (ρ.f 105) us).run P w = .ok (.enter (ρ.f 105) us) w):PureRow P gl (ρ.f 105) MI where
 enter:=he
 run M w vs r us hc hb hG hl hr hs:=by
  unfold MI at hs;split at hs
  ·rename_i s c
   split at hs
   ·rename_i hbd
    match us,hl with
    | [u,v],_=>
     have q:=hr 0 _ u rfl rfl
     cases q;have q2:=hr 1 _ v rfl rfl
     cases q2;simp only[Option.some.injEq]at hs
     subst hs;obtain⟨n,rfl⟩:=Int.eq_ofNat_of_zero_le hbd.1;have hsz:(⟨s.toArray⟩:ByteArray).size=s.length:=by simp [ByteArray.size]
     simp only[Int.toNat_natCast]at hbd ⊢;refine(Go.Proofs.Any.strings_Repeat L E ⟨s.toArray⟩ n w (by omega) (by rw[hsz];omega)).mono λe w' h=>?_
     obtain⟨rfl,h⟩:=h;exact⟨_,rfl,EN h,by rw[z8T];exact .p _ _ (.str _)⟩
   ·cases hs
  ·cases hs
theorem zlI (s cs:List UInt8):Go.Lib.trimS s cs=EQ s cs:=rfl
theorem trimRow {ρ:Ren}(L:Go.Proofs.Lays.n160 P ρ)(h116:(P.info? (ρ.t 116)).map (λi=>(i.zero,i.size))=some (some (.agg (Array.replicate 256 (.bool false))),256))(he:∀ us w,(callFunc (ρ.f 160) us).run P w = .ok (.enter (ρ.f 160) us) w):PureRow P gl (ρ.f 160) trimS where
 enter:=he
 run M w vs r us hc hb hG hl hr hs:=by
  unfold trimS at hs;split at hs
  ·rename_i s cs
   split at hs
   ·rename_i hbd
    match us,hl with
    | [u,v],_=>
     have q:=hr 0 _ u rfl rfl
     cases q;have q2:=hr 1 _ v rfl rfl
     cases q2;simp only[Option.some.injEq]at hs
     subst hs;have hsz:∀l:List UInt8,(⟨l.toArray⟩:ByteArray).size=l.length:=λl=>by simp [ByteArray.size]
     refine(Go.Proofs.Any.strings_Trim_laid L h116 ⟨s.toArray⟩ ⟨cs.toArray⟩ w (by rw[hsz];omega) (by rw[hsz];omega) (Go.Proofs.ascii_of_all hbd.2.2)).mono λe w' h=>?_
     obtain⟨rfl,h⟩:=h;exact⟨_,rfl,EN h,by rw[<-zlI];exact .p _ _ (.str _)⟩
   ·cases hs
  ·cases hs
end
section
variable {P:Program} {gl:Nat->Option PV}
open Go.Shelf
end
section
variable {h:aA} {K:jA}
theorem zpG (s:List UInt8)(c:UInt8)(hs:s.length<=1000000):bA X KO [AS s,AS [c]] h K=K (AI (sD s c)) h []:=by
 refine sA ?_;rw[zev rfl];have q:=λh K=>zpF (h:=h) (K:=K) s c
 simp only[GR,go_sem,↓q,q,List.length_cons,List.length_nil];split
 ·rename_i h1;subst h1;simp [sD]
 ·trivial
end
section
variable {h:aA} {K:jA}
attribute [-go_sem] SA
theorem zpI (s:List UInt8)(hs:s.length<=1000000):bA X fP [AS s,AS [48]] h K=K (AB (s.contains 48)) h []:=by
 refine sA ?_;rw[zff rfl];have IX:∀(hh:aA) (K:jA),bA X iP [AS s,AS [48]] hh K=K (AI (sD s 48)) hh []:=λhh K=>by
  refine sA ?_;rw[zfg rfl];have q:=λh K=>zpG (h:=h) (K:=K) s 48 hs
  simp only[CS,go_sem,↓q,q]
 have e:=z8C s 48
 have e2:decide (0<=sD s 48)=s.contains 48:=by
  cases hc:s.contains 48 with
  | true=>
   rw[hc]at e;have:¬sD s 48<0:=by simpa using e
   exact decide_eq_true (by omega)
  | false=>
   rw[hc]at e;have:sD s 48<0:=by simpa using e
   exact decide_eq_false (by omega)
 simp only[BS,go_sem,↓IX,IX,e2]
theorem zdt {n:List UInt8}{l:List TReg}:(l.map NA).any (YD n)=l.any λx=>decide (x.name=n):=by rw[List.any_map];rfl
theorem zds {n:List UInt8}{l:List TIns}:(l.map mB).any (YD n)=l.any λx=>decide (x.code=n):=by rw[List.any_map];rfl
theorem zdr {n:List UInt8}{l:List TDev}:(l.map RA).any (YD n)=l.any λx=>decide (x.name=n):=by rw[List.any_map];rfl
theorem zp7 (d:TDev)(B:DevB d):bA X vP [MB d] h K=K (AI (HF [] d.regs)) h []:=by
 refine sA ?_;rw[zfx rfl];have hl:=B.rs
 obtain⟨T,hT⟩:∃T,T=HF [] d.regs:=⟨_,rfl⟩;rw[<-hT];simp only[RS,go_sem,MB,RA,List.length_map];refine bB (λk:Nat=>⟨[(1,.ref h.length 0),(6,.p (.sl (some 2) (d.regs.map NA))),(7,AI d.regs.length),(8,AI k)],h++[.box (xC d)],[]⟩) (λk=>k<=d.regs.length/\HF (d.regs.take k) (d.regs.drop k)=T) (λk=>d.regs.length-k) 0 rfl ⟨by omega,hT.symm⟩ ?_
 rintro k ⟨hk,hp⟩
 rcases Nat.lt_or_ge k d.regs.length with hlt|hge
 ·have hg:=VB NA hlt
  have w2:IntKind.i64.wrap ((k:Int)+1)=((k+1:Nat):Int):=BA _ (by omega) (by omega)
  have cx:rB (some 2) 0 (NA d.regs[k])=some (NA d.regs[k]):=rfl
  have fp:∀y:TReg,NA y = .agg [.str y.name,eI y.long]:=λ_=>rfl
  have nl:=B.rn _ (List.getElem_mem hlt)
  have tk:=List.take_succ_eq_append_getElem hlt
  have hw:win (d.regs.map NA) 0 k=(d.regs.take k).map NA:=by simp [win,List.map_take]
  have hk2:k<=d.regs.length:=hk
  have lt:(d.regs.take k).length<=1000:=by rw[List.length_take];omega
  have d3:ldB none 3 (some (.box (xC d)))=some (.p (.sl (some 2) (d.regs.map NA))):=rfl
  rw[List.drop_eq_getElem_cons hlt]at hp;unfold HF at hp;rw[<-tk]at hp;generalize hrr:d.regs[k]=r at *;generalize d.regs.take k=pre at *;rw[fp]at hg cx;have ky:=λh K=>zan (h:=h) (K:=K) r.name (by omega)
  have tl:OF wP [.ref (h.length+1) 0] (YD r.name) (pre.map NA) (h++[.box (xC d),.box [AS r.name,AI r.long]]):=λx hx K=>by
   obtain⟨y,_,rfl⟩:=List.mem_map.1 hx;refine sA ?_;rw[zfy rfl];simp only[TS,go_sem,Nat.add_assoc,NA,YD]
  have ct:=λK=>zbH (h:=h++[.box (xC d),.box [AS r.name,AI r.long]]) (K:=K) tl z9J (by simp;omega)
  rw[zdt]at ct;cases kb:JE r.name with
  | false=>
   have e:MD pre r=5:=by unfold MD;rw[if_pos kb]
   rw[e,if_pos (by decide)]at hp
   rw[<-hp];simp only[fI,xG,go_sem,Nat.add_assoc,hlt,hg,cx,fp,↓ky,ky,kb,splice]
  | true=>
   by_cases n1:r.name=[98,121,112,97,115,115]
   ·have e:MD pre r=6:=by unfold MD IB GB;rw[if_neg (by simp [kb]),if_pos (.inl n1)]
    rw[e,if_pos (by decide)]at hp
    rw[<-hp];simp only[fI,xG,go_sem,Nat.add_assoc,hlt,hg,cx,fp,↓ky,ky,kb,eq_true n1,splice]
   by_cases n2:r.name=[105,100,99,111,100,101]
   ·have e:MD pre r=6:=by unfold MD IB GB;rw[if_neg (by simp [kb]),if_pos (.inr (.inl n2))]
    rw[e,if_pos (by decide)]at hp
    rw[<-hp];simp only[fI,xG,go_sem,Nat.add_assoc,hlt,hg,cx,fp,↓ky,ky,kb,n1,eq_true n2,splice]
   cases ha:(pre.any λx=>decide (x.name=r.name)) with
   | true=>
    have e:MD pre r=6:=by unfold MD IB GB;rw[if_neg (by simp [kb]),if_pos (.inr (.inr ha))]
    rw[e,if_pos (by decide)]at hp
    rw[<-hp];rw[ha]at ct;simp only[fI,xG,go_sem,Nat.add_assoc,hlt,hg,cx,fp,↓ky,ky,kb,n1,n2,d3,hw,hk2,↓ct,ct,splice]
   | false=>
    have e0:¬(r.name=[98,121,112,97,115,115]∨r.name=[105,100,99,111,100,101]∨(pre.any λx=>decide (x.name=r.name))=true):=by rw[ha];simp [n1,n2]
    rw[ha]at ct;by_cases o1:r.long<1∨1000<r.long
    ·have e:MD pre r=1:=by unfold MD IB GB;rw[if_neg (by simp [kb]),if_neg e0,if_pos o1]
     rw[e,if_pos (by decide)]at hp
     rw[<-hp];have o2:(decide (r.long<1)||decide (1000<r.long))=true:=by simpa using o1
     simp only[fI,xG,go_sem,Nat.add_assoc,hlt,hg,cx,fp,↓ky,ky,kb,n1,n2,d3,hw,hk2,↓ct,ct,splice,BC,o2]
    ·have e:MD pre r=0:=by unfold MD IB GB;rw[if_neg (by simp [kb]),if_neg e0,if_neg o1]
     rw[e,if_neg (by decide)]at hp
     have o2:(decide (r.long<1)||decide (1000<r.long))=false:=by simpa using o1
     simp only[fI,xG,go_sem,Nat.add_assoc,hlt,hg,cx,fp,↓ky,ky,kb,n1,n2,d3,hw,hk2,↓ct,ct,splice,BC,o2,w2];exact⟨k+1,rfl,⟨by omega,hp⟩,by omega⟩
 ·have ek:k=d.regs.length:=by omega
  subst ek;rw[List.drop_length]at hp;rw[<-hp];simp only[fI,xG,go_sem,Nat.lt_irrefl,z6v,SS,HF]
theorem zpw (d:TDev)(B:DevB d):bA X rP [MB d] h K=K (AI (FG d [] d.ins)) h []:=by
 refine sA ?_;rw[zfq rfl];have hl:=B.is
 obtain⟨T,hT⟩:∃T,T=FG d [] d.ins:=⟨_,rfl⟩;rw[<-hT];simp only[LS,go_sem,MB,RA,List.length_map];refine bB (λk:Nat=>⟨[(1,.ref h.length 0),(8,.p (.sl (some 2) (d.ins.map mB))),(9,AI d.ins.length),(10,AI k)],h++[.box (xC d)],[]⟩) (λk=>k<=d.ins.length/\FG d (d.ins.take k) (d.ins.drop k)=T) (λk=>d.ins.length-k) 0 rfl ⟨by omega,hT.symm⟩ ?_
 rintro k ⟨hk,hp⟩
 rcases Nat.lt_or_ge k d.ins.length with hlt|hge
 ·have hg:=VB mB hlt
  have w2:IntKind.i64.wrap ((k:Int)+1)=((k+1:Nat):Int):=BA _ (by omega) (by omega)
  have cx:rB (some 2) 0 (mB d.ins[k])=some (mB d.ins[k]):=rfl
  have fp:∀y:TIns,mB y = .agg [.str y.code,.str y.reg]:=λ_=>rfl
  obtain⟨nl1,nl2⟩:=B.ic _ (List.getElem_mem hlt);have tk:=List.take_succ_eq_append_getElem hlt
  have hw:win (d.ins.map mB) 0 k=(d.ins.take k).map mB:=by simp [win,List.map_take]
  have hk2:k<=d.ins.length:=hk
  have lt:(d.ins.take k).length<=1000:=by rw[List.length_take];omega
  have d1:ldB none 1 (some (.box (xC d)))=some (AI d.long):=rfl
  have d4:ldB none 4 (some (.box (xC d)))=some (.p (.sl (some 2) (d.ins.map mB))):=rfl
  have d5:ldB (some 5) 0 (some (.box (xC d)))=some (MB d):=rfl
  rw[List.drop_eq_getElem_cons hlt]at hp;unfold FG at hp;rw[<-tk]at hp;generalize hrr:d.ins[k]=r at *;generalize d.ins.take k=pre at *;rw[fp]at hg cx;have bt:=λh K=>lK (h:=h) (K:=K) r.code (by omega)
  have sc:=λh K=>zpI (h:=h) (K:=K) r.code (by omega)
  have rg:=λh K=>z3N (h:=h) (K:=K) d r.reg (by have:=B.rs;omega)
  have tl:OF sP [.ref (h.length+1) 0] (YD r.code) (pre.map mB) (h++[.box (xC d),.box [AS r.code,AS r.reg]]):=λx hx K=>by
   obtain⟨y,_,rfl⟩:=List.mem_map.1 hx;refine sA ?_;rw[zfr rfl];simp only[NS,go_sem,Nat.add_assoc,mB,YD]
  have ct:=λK=>zbG (h:=h++[.box (xC d),.box [AS r.code,AS r.reg]]) (K:=K) tl zk8 (by simp;omega)
  rw[zds]at ct;by_cases n1:(r.code.length:Int)=d.long
  case neg=>
   have e:ID d pre r=3:=by unfold ID;rw[if_pos n1]
   rw[e,if_pos (by decide)]at hp
   rw[<-hp];simp only[dI,vG,go_sem,Nat.add_assoc,hlt,hg,cx,fp,splice,d1,n1]
  cases n2:GA r.code with
  | false=>
   have e:ID d pre r=9:=by unfold ID;rw[if_neg (by simp [n1]),if_pos n2]
   rw[e,if_pos (by decide)]at hp
   rw[<-hp];rw[n2]at bt;simp only[dI,vG,go_sem,Nat.add_assoc,hlt,hg,cx,fp,splice,d1,eq_true n1,↓bt,bt]
  | true=>
   rw[n2]at bt;cases n3:r.code.contains 48 with
   | false=>
    have e:ID d pre r=16:=by unfold ID;rw[if_neg (by simp [n1]),if_neg (by simp [n2]),if_pos n3]
    rw[e,if_pos (by decide)]at hp
    rw[<-hp];rw[n3]at sc;simp only[dI,vG,go_sem,Nat.add_assoc,hlt,hg,cx,fp,splice,d1,eq_true n1,↓bt,bt,↓sc,sc]
   | true=>
    rw[n3]at sc;cases n4:(pre.any λy=>decide (y.code=r.code)) with
    | true=>
     have e:ID d pre r=6:=by unfold ID;rw[if_neg (by simp [n1]),if_neg (by simp [n2]),if_neg (by rw[n3];simp),if_pos n4]
     rw[e,if_pos (by decide)]at hp
     rw[<-hp];rw[n4]at ct;simp only[dI,vG,go_sem,Nat.add_assoc,hlt,hg,cx,fp,splice,d1,eq_true n1,↓bt,bt,↓sc,sc,d4,hw,hk2,↓ct,ct]
    | false=>
     rw[n4]at ct;cases n5:XC d r.reg with
     | none=>
      have e:ID d pre r=8:=by unfold ID;rw[if_neg (by simp [n1]),if_neg (by simp [n2]),if_neg (by rw[n3];simp),if_neg (by rw[n4];simp),if_pos (by rw[n5];rfl)]
      rw[e,if_pos (by decide)]at hp
      rw[<-hp];unfold ZM at rg;rw[n5]at rg;dsimp only at rg;simp only[dI,vG,go_sem,Nat.add_assoc,hlt,hg,cx,fp,splice,d1,eq_true n1,↓bt,bt,↓sc,sc,d4,d5,hw,hk2,↓ct,ct,↓rg,rg]
     | some g=>
      have e:ID d pre r=0:=by unfold ID;rw[if_neg (by simp [n1]),if_neg (by simp [n2]),if_neg (by rw[n3];simp),if_neg (by rw[n4];simp),if_neg (by rw[n5];simp)]
      rw[e,if_neg (by decide)]at hp
      unfold ZM at rg;rw[n5]at rg;dsimp only at rg;have fr:∀y:TReg,NA y = .agg [.str y.name,eI y.long]:=λ_=>rfl
      rw[fr]at rg;simp only[dI,vG,go_sem,Nat.add_assoc,hlt,hg,cx,fp,splice,d1,eq_true n1,↓bt,bt,↓sc,sc,d4,d5,hw,hk2,↓ct,ct,↓rg,rg,w2];exact⟨k+1,rfl,⟨by omega,hp⟩,by omega⟩
 ·have ek:k=d.ins.length:=by omega
  subst ek;rw[List.drop_length]at hp;rw[<-hp];simp only[dI,vG,go_sem,Nat.lt_irrefl,z6s,MS,FG]
end
section
variable {h:aA} {K:jA}
attribute [-go_sem] SA
theorem orL2 (a b:Int):orL [a,b]=if a≠0 then a else b:=by
 unfold orL orL;by_cases h:a=0
 ·by_cases h2:b=0
  ·simp [h,h2,orL]
  ·simp [h,h2]
 ·simp [h]
theorem zpu (pre:List TDev)(hpre:pre.length<=1000)(d:TDev)(B:DevB d):bA X pP [MB d,nC pre] h K=K (AI (ZG pre d)) h []:=by
 refine sA ?_;rw[zfo rfl];have ky:=λh K=>zan (h:=h) (K:=K) d.name (by have:=B.n;omega)
 have tl:OF qP [.ref h.length 0] (YD d.name) (pre.map RA) (h++[.box [AS d.name,AI d.long,AI d.id,.p (.sl (some 2) (d.regs.map NA)),.p (.sl (some 2) (d.ins.map mB))]]):=λx hx K=>by
  obtain⟨y,_,rfl⟩:=List.mem_map.1 hx;refine sA ?_;rw[zfp rfl];simp only[KS,go_sem,Nat.add_assoc,RA,YD]
 have ct:=λK=>zbF (h:=h++[.box [AS d.name,AI d.long,AI d.id,.p (.sl (some 2) (d.regs.map NA)),.p (.sl (some 2) (d.ins.map mB))]]) (K:=K) tl z5Y (by simp;omega)
 rw[zdr]at ct;have rf:=λh K=>zp7 (h:=h) (K:=K) d B
 have nf:=λh K=>zpw (h:=h) (K:=K) d B
 have fa:MB d = .p (.agg [.str d.name,eI d.long,eI d.id,.sl (some 2) (d.regs.map NA),.sl (some 2) (d.ins.map mB)]):=rfl
 rw[fa]at rf nf;have fst:=λh K=>zaj (h:=h) (K:=K) [HF [] d.regs,FG d [] d.ins] (by simp)
 rw[orL2]at fst;simp only[AL,List.map_cons,List.map_nil]at fst;unfold ZG;cases kb:JE d.name with
 | false=>
  rw[if_pos rfl];simp only[CE,go_sem,MB,RA,↓ky,ky,kb]
 | true=>
  rw[if_neg (by simp)]
  cases ha:(pre.any λx=>decide (x.name=d.name)) with
  | true=>
   rw[if_pos rfl];rw[ha]at ct;simp only[CE,go_sem,MB,RA,↓ky,ky,kb,↓ct,ct]
  | false=>
   rw[if_neg (by simp)]
   rw[ha]at ct;by_cases o1:d.long<2∨32<d.long
   ·rw[if_pos (.inl o1)]
    have o2:(decide (d.long<2)||decide (32<d.long))=true:=by simpa using o1
    simp only[CE,go_sem,MB,RA,↓ky,ky,kb,↓ct,ct,BC,o2]
   have o2:(decide (d.long<2)||decide (32<d.long))=false:=by simpa using o1
   by_cases p1:d.id<0∨4294967295<d.id
   ·rw[if_pos (.inr p1)]
    have p2:(decide (d.id<0)||decide (4294967295<d.id))=true:=by simpa using p1
    simp only[CE,go_sem,MB,RA,↓ky,ky,kb,↓ct,ct,BC,o2,p2]
   have p2:(decide (d.id<0)||decide (4294967295<d.id))=false:=by simpa using p1
   rw[if_neg (by omega)]
   have t2:¬(2:Int)=0:=by decide
   by_cases q1:d.id≠0/\d.id.tmod 2=0
   ·rw[if_pos q1]
    obtain⟨q2,q3⟩:=q1;simp only[CE,go_sem,MB,RA,↓ky,ky,kb,↓ct,ct,BC,o2,p2,q2,t2,eq_true q3]
   rw[if_neg q1];have rest:∀(b:Bool),(10:Int)<d.regs.length∨(100:Int)<d.ins.length∨¬((10:Int)<d.regs.length∨(100:Int)<d.ins.length):=λ_=>by omega
   by_cases z:d.id=0
   ·by_cases g1:(10:Int)<d.regs.length
    ·rw[if_pos (.inl g1)]
     simp only[CE,go_sem,MB,RA,↓ky,ky,kb,↓ct,ct,BC,o2,p2,eq_true z,g1,List.length_map]
    by_cases g2:(100:Int)<d.ins.length
    ·rw[if_pos (.inr g2)]
     simp only[CE,go_sem,MB,RA,↓ky,ky,kb,↓ct,ct,BC,o2,p2,eq_true z,g1,g2,List.length_map]
    rw[if_neg (by omega)]
    simp only[CE,go_sem,MB,RA,↓ky,ky,kb,↓ct,ct,BC,o2,p2,eq_true z,g1,g2,List.length_map,↓rf,rf,↓nf,nf,↓fst,fst]
   ·have q3:¬d.id.tmod 2=0:=λe=>q1 ⟨z,e⟩
    by_cases g1:(10:Int)<d.regs.length
    ·rw[if_pos (.inl g1)]
     simp only[CE,go_sem,MB,RA,↓ky,ky,kb,↓ct,ct,BC,o2,p2,z,t2,q3,g1,List.length_map]
    by_cases g2:(100:Int)<d.ins.length
    ·rw[if_pos (.inr g2)]
     simp only[CE,go_sem,MB,RA,↓ky,ky,kb,↓ct,ct,BC,o2,p2,z,t2,q3,g1,g2,List.length_map]
    rw[if_neg (by omega)]
    simp only[CE,go_sem,MB,RA,↓ky,ky,kb,↓ct,ct,BC,o2,p2,z,t2,q3,g1,g2,List.length_map,↓rf,rf,↓nf,nf,↓fst,fst]
theorem zai (ds:List TDev)(hB:∀ d∈ds,DevB d)(hl:ds.length<=1000):bA X qI [nC ds] h K=K (AI (aH ds)) h []:=by
 refine sA ?_;rw[zfk rfl];unfold aH;by_cases z:ds.length=0
 ·have z':(ds.length:Int)=0:=by omega
  rw[if_pos z];simp only[LK,go_sem,List.length_map,eq_true z']
 have z':¬(ds.length:Int)=0:=by omega
 rw[if_neg z];by_cases g:20<ds.length
 ·have g':(20:Int)<ds.length:=by omega
  rw[if_pos g];simp only[LK,go_sem,List.length_map,z',g']
 have g':¬(20:Int)<ds.length:=by omega
 rw[if_neg g];obtain⟨T,hT⟩:∃T,T=bI [] ds:=⟨_,rfl⟩;rw[<-hT];simp only[LK,go_sem,List.length_map,z',g'];refine bB (λk:Nat=>⟨[(0,nC ds),(14,nC ds),(15,AI ds.length),(16,AI k)],h,[]⟩) (λk=>k<=ds.length/\bI (ds.take k) (ds.drop k)=T) (λk=>ds.length-k) 0 rfl ⟨by omega,hT.symm⟩ ?_
 rintro k ⟨hk,hp⟩
 rcases Nat.lt_or_ge k ds.length with hlt|hge
 ·have hg:=VB RA hlt
  have w2:IntKind.i64.wrap ((k:Int)+1)=((k+1:Nat):Int):=BA _ (by omega) (by omega)
  have cx:rB (some 5) 0 (RA ds[k])=some (RA ds[k]):=rfl
  have fp:∀y:TDev,RA y = .agg [.str y.name,eI y.long,eI y.id,.sl (some 2) (y.regs.map NA),.sl (some 2) (y.ins.map mB)]:=λ_=>rfl
  have tk:=List.take_succ_eq_append_getElem hlt
  have hw:win (ds.map RA) 0 k=(ds.take k).map RA:=by simp [win,List.map_take]
  have lt:(ds.take k).length<=1000:=by rw[List.length_take];omega
  have B:=hB _ (List.getElem_mem hlt)
  rw[List.drop_eq_getElem_cons hlt]at hp;unfold bI at hp;rw[<-tk]at hp;generalize hrr:ds[k]=d at *;generalize ds.take k=pre at *;have df:=λh K=>zpu (h:=h) (K:=K) pre lt d B
  have fa:MB d = .p (.agg [.str d.name,eI d.long,eI d.id,.sl (some 2) (d.regs.map NA),.sl (some 2) (d.ins.map mB)]):=rfl
  rw[fa]at df;rw[fp]at hg cx;by_cases e:ZG pre d=0
  ·rw[e,if_neg (by decide)]at hp
   rw[e]at df;simp only[tT,MK,go_sem,hlt,hk,hg,cx,fp,hw,splice,↓df,df,w2];exact⟨k+1,rfl,⟨by omega,hp⟩,by omega⟩
  ·rw[if_pos e]at hp
   rw[<-hp];simp only[tT,MK,go_sem,hlt,hk,hg,cx,fp,hw,splice,↓df,df,e]
 ·have ek:k=ds.length:=by omega
  subst ek;rw[List.drop_length]at hp;rw[<-hp];simp only[tT,MK,go_sem,Nat.lt_irrefl,z6r,FS,bI]
end
section
variable {h:aA} {K:jA}
attribute [-go_sem] SA
end
section
variable {h:aA} {K:jA}
attribute [-go_sem] SA FB LB YP VP
end
section
variable {h:aA} {K:jA}
end
section
variable {h:aA} {K:jA}
end
section
variable {h:aA} {K:jA}
end
section
variable {h:aA} {K:jA}
end
section
variable {h:aA} {K:jA}
attribute [-go_sem] SA FB LB
end
section
variable {h:aA} {K:jA}
attribute [-go_sem] SA FB LB
end
section
variable {h:aA} {K:jA}
attribute [-go_sem] SA FB LB
end
section
variable {h:aA} {K:jA}
attribute [-go_sem] SA
end
section
variable {h:aA} {K:jA}
attribute [-go_sem] SA
end
section
variable {h:aA} {K:jA}
attribute [-go_sem] SA
end
section
variable {h:aA} {K:jA}
attribute [-go_sem] SA
end
theorem z5L:∀ (m:List UInt8) (n:Nat),m.length<=n->(List.range n).countP (λi=>m[i]?==some 49)=m.count 49
 | [],n,_=>by simp [List.countP_eq_zero]
 | x::r,0,h=>by simp at h
 | x::r,n+1,h=>by
  rw[List.range_succ_eq_map,List.countP_cons,List.countP_map,List.count_cons];have ih:=z5L r n (by simpa using h)
  have e:((λi=>(x::r)[i]?==some 49) ∘ Nat.succ)=λi=>r[i]?==some 49:=by funext i;simp
  rw[e,ih];simp
theorem zjD {c:Cmd}(hb:c.m.length<=c.b.length)(hw:c.m≠[]->c.w.length=c.b.length)(hwb:GA c.w=true):(eC c).count 120+c.m.count 49=c.b.length:=by
 rw[<-z5L c.m c.b.length hb,eC,List.count_eq_countP,List.countP_map];have e:(List.range c.b.length).countP ((λx=>x==(120:UInt8)) ∘ SC c)=(List.range c.b.length).countP (λi=>¬(c.m[i]?==some 49)=true):=by
  apply List.countP_congr
  intro i hi;have hi':i<c.b.length:=List.mem_range.1 hi
  simp only[Function.comp,SC,beq_iff_eq,decide_eq_true_eq];by_cases h:c.m[i]?=some 49
  ·rw[if_pos h]
   have hm:c.m≠[]:=by intro e;rw[e]at h;simp at h
   have hlt:i<c.w.length:=by rw[hw hm];exact hi'
   rw[List.getElem?_eq_getElem hlt];have:=LY hwb (List.getElem_mem hlt);simp only[Option.getD_some,h,not_true,iff_false];rcases this with e|e <;> rw[e] <;> decide
  ·rw[if_neg h];simp [h]
 have key:=List.length_eq_countP_add_countP (l:=List.range c.b.length) (λi=>c.m[i]?==some 49)
 rw[List.length_range]at key;rw[e];omega
theorem z3j {l:List Cmd}(hc:∀ c∈l,MA c=0){k:Nat}(hk:k<l.length) :
 (qA kA (l.take k) l[k] (gC [] 0 (l.take k))).tdi.length=(qA kA (l.take k) l[k] (gC [] 0 (l.take k))).tms.length/\(qA kA (l.take k) l[k] (gC [] 0 (l.take k))).want.length=(qA kA (l.take k) l[k] (gC [] 0 (l.take k))).tms.length /\
 (qA kA (l.take k) l[k] (gC [] 0 (l.take k))).want.length=(qA kA (l.take k) l[k] (gC [] 0 (l.take k))).want.count 120+l[k].m.count 49:=by
 have h0:=hc _ (List.getElem_mem hk)
 have hz:∀n,(zs n).length=n:=λn=>by simp [zs]
 have hx:∀n,(xsL n).length=n:=λn=>by simp [xsL]
 have hxc:∀n,(xsL n).count 120=n:=λn=>by simp [xsL]
 generalize gC [] 0 (l.take k)=state;generalize l.take k=pre;generalize l[k]=c at h0 ⊢;cases TD h0 with
 | set h hs e=>rw[kF kA (by omega),e];exact⟨rfl,rfl,rfl⟩
 | pad h0 h1 hb hl e=>rw[kF kA h1,e];exact⟨rfl,rfl,rfl⟩
 | go h hs e=>
  have em:c.m=[]:=by rw[e]
  rw[GI kA h,em];simp [hz,hx,hxc]
 | idle h h0 h1 e=>
  have em:c.m=[]:=by rw[e]
  rw[HI kA h,em];simp [hz,hx,hxc]
 | scan h hs e=>
  obtain⟨q1,q2,q3,q4,q5,q6⟩:=qF hs;have hpos:=List.length_pos_iff.2 q1
  have hml:c.m.length<=c.b.length:=by rcases q6 with⟨_,e⟩|⟨_,e⟩ <;> simp [e]
  have hec:=zjD hml (λhm=>by rcases q6 with⟨_,e⟩|⟨e,_⟩;exact absurd e hm;exact e) q4
  have hel:(eC c).length=c.b.length:=by simp [eC]
  have key:∀(sh ex:Nat) (hd tl:List UInt8) (en:Nat),qA kA pre c state=NB (nB kA c state sh ex hd tl en) ->
   (qA kA pre c state).tdi.length=(qA kA pre c state).tms.length/\(qA kA pre c state).want.length=(qA kA pre c state).tms.length/\(qA kA pre c state).want.length=(qA kA pre c state).want.count 120+c.m.count 49:=by
   intro sh ex hd tl en ep;rw[ep,YJ kA c state sh ex hd tl en q1];simp only[List.length_append,List.count_append,hz,hx,hxc,hel,List.length_singleton];omega
  rcases h with h|h
  ·exact key 11 12 _ _ _ (by unfold qA;rw[if_neg (by omega),if_neg (by omega),if_pos h])
  ·exact key 4 5 _ _ _ (by unfold qA;rw[if_neg (by omega),if_neg (by omega),if_neg (by omega),if_pos h])
def maskN (l:List Cmd):Nat:=(l.map λc=>c.m.count 49).sum
theorem zaS:∀ ps:List Part,(∀ p∈ps,p.tdi.length=p.tms.length/\p.want.length=p.tms.length)->(KC ps).length=(PA ps).length/\(LC ps).length=(PA ps).length
 | [],_=>⟨rfl,rfl⟩
 | p::ps,h=>by
  obtain⟨a,b⟩:=zaS ps (λq hq=>h q (List.mem_cons_of_mem _ hq))
  obtain⟨c,d⟩:=h p (List.mem_cons_self ..);simp only[KC,PA,LC,List.flatMap_cons,List.length_append]at a b ⊢;omega
theorem zaP:∀ (ps:List Part),(LC ps).length=(LC ps).count 120+(ps.map λp=>p.want.length-p.want.count 120).sum
 | []=>rfl
 | p::ps=>by
  have a:=zaP ps
  have b:p.want.count 120<=p.want.length:=List.count_le_length
  simp only[LC,List.flatMap_cons,List.length_append,List.count_append,List.map_cons,List.sum_cons]at a ⊢;omega
theorem znU {l:List Cmd}(hc:∀ c∈l,MA c=0){p:Part}(hp:p∈vA kA [] 0 l):∃k,∃hk:k<l.length,p=qA kA (l.take k) l[k] (gC [] 0 (l.take k)):=by
 obtain⟨k,hk⟩:=List.mem_iff_getElem?.1 hp;have hlt:k<l.length:=by
  have:=(List.getElem?_eq_some_iff.1 hk).1;rwa [MM]at this
 rw[EV hlt]at hk;exact⟨k,hlt,(Option.some.inj hk).symm⟩
theorem zaQ {l:List Cmd}(hc:∀ c∈l,MA c=0) :
 (KC (vA kA [] 0 l)).length=(PA (vA kA [] 0 l)).length/\(LC (vA kA [] 0 l)).length=(PA (vA kA [] 0 l)).length /\
 (PA (vA kA [] 0 l)).length=(LC (vA kA [] 0 l)).count 120+maskN l:=by
 obtain⟨a,b⟩:=zaS (vA kA [] 0 l) (λp hp=>by
  obtain⟨k,hk,rfl⟩:=znU hc hp;exact⟨(z3j hc hk).1,(z3j hc hk).2.1⟩)
 have c:=zaP (vA kA [] 0 l)
 have e:(vA kA [] 0 l).map (λp=>p.want.length-p.want.count 120)=l.map λc=>c.m.count 49:=by
  apply List.ext_getElem?
  intro k;rw[List.getElem?_map,List.getElem?_map];rcases Nat.lt_or_ge k l.length with hk|hk
  ·rw[EV hk,List.getElem?_eq_getElem hk]
   have:=(z3j hc hk).2.2;simp only[Option.map_some];congr 1
   omega
  ·rw[List.getElem?_eq_none (by rw[MM];exact hk),List.getElem?_eq_none hk];rfl
 rw[e]at c;exact⟨a,b,by rw[<-b];exact c⟩
section
variable {h:aA} {K:jA}
attribute [-go_sem] SA splice
theorem znT {l:List Cmd}(hc:∀ c∈l,MA c=0){k:Nat}(hk:k<l.length):GA (qA kA (l.take k) l[k] (gC [] 0 (l.take k))).tdi=true:=by
 obtain⟨S,T⟩:=lQ hc k (by omega)
 have h0:=hc _ (List.getElem_mem hk)
 have bz:∀n,GA (zs n)=true:=λn=>by simp [GA,zs,MP]
 have ba:∀a b,GA a=true->GA b=true->GA (a++b)=true:=λa b h1 h2=>by unfold GA at *;rw[List.all_append,h1,h2];rfl
 generalize gC [] 0 (l.take k)=state at T ⊢;generalize l.take k=pre at S ⊢;generalize l[k]=c at h0 ⊢;cases TD h0 with
 | set h hs e=>rw[kF kA (by omega)];rfl
 | pad h0 h1 hb hl e=>rw[kF kA h1];rfl
 | go h hs e=>
  rw[GI kA h];exact bz _
 | idle h h0 h1 e=>
  rw[HI kA h];exact ba _ _ (bz _) (bz _)
 | scan h hs e=>
  obtain⟨q1,q2,q3,q4,q5,q6⟩:=qF hs;rcases h with h|h
  ·have ep:qA kA pre c state=NB (nB kA c state 11 12 (mA pre 3).b (mA pre 4).b (mA pre 1).s.toNat):=by
    unfold qA;rw[if_neg (by omega),if_neg (by omega),if_pos h]
   rw[ep];show GA ((zs _++((mA pre 3).b++c.b++(mA pre 4).b))++zs _)=true
   exact ba _ _ (ba _ _ (bz _) (ba _ _ (ba _ _ (S.b1 3 (by omega) (by omega)).1 q2) (S.b1 4 (by omega) (by omega)).1)) (bz _)
  ·have ep:qA kA pre c state=NB (nB kA c state 4 5 (mA pre 5).b (mA pre 6).b (mA pre 2).s.toNat):=by
    unfold qA;rw[if_neg (by omega),if_neg (by omega),if_neg (by omega),if_pos h]
   rw[ep];show GA ((zs _++((mA pre 5).b++c.b++(mA pre 6).b))++zs _)=true
   exact ba _ _ (ba _ _ (bz _) (ba _ _ (ba _ _ (S.b1 5 (by omega) (by omega)).1 q2) (S.b1 6 (by omega) (by omega)).1)) (bz _)
theorem zei {l:List Cmd}(hc:∀ c∈l,MA c=0):GA (KC (vA kA [] 0 l))=true:=by
 unfold GA KC;rw[List.all_flatMap];rw[List.all_eq_true];intro p hp;obtain⟨k,hk⟩:=List.mem_iff_getElem?.1 hp;have hlt:k<l.length:=by
  have:=(List.getElem?_eq_some_iff.1 hk).1;rwa [MM]at this
 rw[EV hlt]at hk;cases hk;exact znT hc hlt
def LF (ds:List TDev)(l:List Cmd):List UInt8:=IF ds 0 (OM ds) ((PA (vA kA [] 0 l)).zip (KC (vA kA [] 0 l)))
def KG (ds:List TDev)(l:List Cmd):List (List UInt8):=lF kA [] 0 l 0 (LF ds l)
abbrev z4w (us:List (List UInt8)):AV:=.p (.sl none (us.map PV.str))
structure ChOk (ds:List TDev):Prop where
 d:∀d∈ds,DevOk d
 n:(ds.map TDev.name).Nodup
 e:ds≠[]
 l:ds.length<=20
theorem chOk {ds:List TDev}(h:aH ds=0):ChOk ds:=by
 obtain⟨a,b,c,d⟩:=z5Z h;exact⟨a,b,c,d⟩
theorem zaZ {ds:List TDev}{l:List Cmd}(hc:∀ c∈l,MA c=0):(LF ds l).length=(PA (vA kA [] 0 l)).length:=by
 unfold LF;rw[z36,List.length_zip,(zaQ hc).1,Nat.min_self]
attribute [local go_sem] mG NI vH wH LG fK oW pW tQ mF GF JI RM TM UM VM WM XM YM z9N z9O z9P
theorem zp8 (ds:List TDev)(hB:∀ d∈ds,DevB d)(hz:aH ds=0)(l:List Cmd)(hp:qB kA l=0) :
 bA X CP [nC ds,ACs l] h K=K (z4w (KG ds l)) h []:=by
 refine sA ?_;rw[zf7 rfl];obtain⟨hc,hn,hl⟩:=z3q hp;have O:=chOk hz
 have cd:=λh K=>zai (h:=h) (K:=K) ds hB (by have:=O.l;omega)
 rw[hz]at cd;have sg:=λh K=>zpE (h:=h) (K:=K) l hc hl
 obtain⟨a1,a2,a3,a4,a5⟩:=z91 GV (FK hc) true hn;obtain⟨b1,b2,b3⟩:=a5 rfl;have fr:=z92 kA l (rel0 true) (FK hc) (by simpa using hn)
 have fr:((OB true).play kA l).frs=eG kA [] 0 l 0:=fr
 obtain⟨f1,f2,_⟩:=zaQ hc;have TR:=λh K=>zpm (h:=h) (K:=K) ds O.d O.e O.l cd (PA (vA kA [] 0 l)) (KC (vA kA [] 0 l)) f1.symm hn (zeh hc) (zei hc)
 have tl:=zaZ (ds:=ds) hc
 have hR:IF ds 0 (OM ds) ((PA (vA kA [] 0 l)).zip (KC (vA kA [] 0 l)))=LF ds l:=rfl
 rw[hR]at TR;have ql:=λk hk hs=>z1j kA (R:=LF ds l) l (pre:=[]) (state:=0) (at_:=0) (by omega) k hk hs
 have qn:=λk hk hs=>z31 kA (R:=LF ds l) l (pre:=[]) (state:=0) (at_:=0) k hk hs
 have rl:(KG ds l).length=l.length:=z30 kA l [] 0 0 (LF ds l)
 have hRV:lF kA [] 0 l 0 (LF ds l)=KG ds l:=rfl
 rw[hRV]at ql qn;have fl:(eG kA [] 0 l 0).length=l.length:=z8b kA l [] 0 0
 generalize KG ds l=RV at *;generalize LF ds l=R at *;generalize eG kA [] 0 l 0=FR at *;generalize (OB true).play kA l=r at *;have cT:PE (tA r.tms)=some r.tms:=sN _
 have cI:PE (tA r.tdi)=some r.tdi:=sN _
 have wT:win (tA r.tms) 0 r.tms.length=tA r.tms:=VI (RG _)
 have wI:win (tA r.tdi) 0 r.tdi.length=tA r.tdi:=VI (RG _)
 rw[<-b1,<-b2]at TR;have lT:=RG r.tms
 have lI:=RG r.tdi
 have hHl:(hbx h).length=h.length+1:=by simp [hbx]
 have hT0:∀t:aA,(rh (hbx h) r t).take h.length=h:=λt=>by
  unfold rh hbx;rw[List.append_assoc,CN]
 generalize hHH:hbx h=H at *;simp only[bT,go_sem,↓sg,sg,lT,lI,wT,wI,cT,cI,↓TR,TR];rw[hHH];refine bB (λk:Nat=>⟨[(5,.ref (H.length+5) 0),(6,AS R),(8,.own (H.length+6) k 0 k),(29,ACs l),(30,AI l.length),(31,AI k)],rh H r [.row none ((RV.take k).map .str) 0],[]⟩) (λk=>k<=l.length) (λk=>l.length-k) 0 rfl (by omega) ?_
 intro k hk;rw[qG];have lml:((RV.take k).map PV.str).length=k:=by rw[List.length_map,List.length_take];omega
 have ms:k+1<=LA:=by unfold LA;omega
 rcases Nat.lt_or_ge k l.length with hlt|hge
 ·have hlt':(k:Int)<(l.length:Int):=by omega
  have hg:=VB xA hlt
  have w2:IntKind.i64.wrap ((k:Int)+1)=((k+1:Nat):Int):=BA _ (by omega) (by omega)
  have ql:=ql k hlt
  have qn:=qn k hlt
  have eT:∀s,RV[k]?=some s->(RV.take (k+1)).map PV.str=(RV.take k).map PV.str++[.str s]:=λs hs=>by
   rw[List.take_add_one,hs,List.map_append];rfl
  generalize l[k]=c at *;cases hs:TC c with
  | true=>
   obtain⟨f,x1,x2,x3⟩:=ql hs;have is:(decide (c.k=7)||decide (c.k=8))=true:=by rcases IE.1 hs with e|e <;> simp [e]
   have gf:(r.frs.map eN)[k]?=some (eN f):=by rw[List.getElem?_map,fr,x1];rfl
   have ff:eN f = .int .i64 (f:Int):=rfl
   rw[ff]at gf;have flr:r.frs.length=l.length:=by rw[fr,fl]
   have lfm:(r.frs.map eN).length=l.length:=by rw[List.length_map,flr]
   have hlk:k<r.frs.length:=by omega
   have w3:IntKind.i64.wrap ((f:Int)+(c.b.length:Int))=((f+c.b.length:Nat):Int):=by rw[BA _ (by omega) (by omega)];omega
   have y1:f<=f+c.b.length:=by omega
   have y2:f+c.b.length-f=c.b.length:=by omega
   have e1:=eT _ x3
   obtain⟨k0,s0,cl0,b0,w0,m0⟩:=c;dsimp only at is w3 x2 y1 y2 hs e1;simp only[yT,WK,z0N,pO,z0O,qO,go_sem,splice,hlt',hg,pF,is,flr,lfm,hlk,gf,hlt,w3,x2,y1,y2,lml,ms,w2];exact⟨k+1,by rw[e1],by omega,by omega⟩
  | false=>
   have is:(decide (c.k=7)||decide (c.k=8))=false:=by
    cases q:(decide (c.k=7)||decide (c.k=8)) with
    | false=>rfl
    | true=>
     have:c.k=7∨c.k=8:=by simpa using q
     rw[IE.2 this]at hs;cases hs
   have e1:=eT _ (qn hs)
   obtain⟨k0,s0,cl0,b0,w0,m0⟩:=c;dsimp only at is hs e1;simp only[yT,WK,z0N,pO,z0O,qO,go_sem,splice,hlt',hg,pF,is,lml,ms,w2];exact⟨k+1,by rw[e1],by omega,by omega⟩
 ·have ek:k=l.length:=by omega
  subst ek;have e1:RV.take l.length=RV:=List.take_of_length_le (by omega)
  rw[e1]at lml ⊢;have wf:win (RV.map PV.str) 0 l.length=RV.map PV.str:=VI lml
  have hH6:h.length<=H.length+6:=by omega
  simp only[yT,WK,z6z,fT,go_sem,Nat.lt_irrefl,lml,wf,hT0,hH6]
end
def oE (n:Nat):List UInt8:=List.replicate n 49
section
variable {h:aA} {K:jA}
attribute [-go_sem] SA splice
end
section
def mC (l:List TDev):Nat:=(l.map λd=>d.long.toNat).sum
variable {bef aft:List TDev} {own:TDev} {n:Nat}
end
section
variable {L:List Int} {a:Int} {h l:aA} {id:Nat} {K:jA}
attribute [-go_sem] SA
def ZC:List UInt8:=[100,97,116,97]
structure DvG (d:TDev):Prop where
 n:d.name.length<=10
 lo : -1000<=d.long/\d.long<=1000
 id : -1000<=d.id/\d.id<=1000
 r:∃n:Int,d.regs=[⟨ZC,n⟩]/\1<=n/\n<=4
 i:d.ins.length<=2
 c:∀x∈d.ins,x.code.length<=4/\x.reg.length<=10
 z:∃(m:Nat) (rest:List TIns),d.ins=⟨zs m,ZC⟩::rest/\∀x∈rest,x.code.headD 0=49
theorem DvG.b {d:TDev}(D:DvG d):DevB d:=by
 obtain⟨n,e,_,_⟩:=D.r;exact⟨by have:=D.n;omega,by rw[e];simp,by have:=D.i;omega,λr hr=>by rw[e]at hr;simp at hr;rw[hr];simp [ZC],λx hx=>by have:=D.c x hx;omega⟩
attribute [-go_sem] cH WF zG yF aG WE qT JK rT rJ
theorem z3n {l:List Int}{lo hi:Int}(hl:0<l.length)(hl2:l.length<4611686018427387904)(h:∀ x∈l,lo<=x/\x<=hi)(a:Int):lo<=GC l L a/\GC l L a<=hi:=h _ (JV hl hl2)
theorem z8c {o0 o1 o3:Obj}{sh:Sh}{xs:List PV}{fz n:Nat}:frz [o0,o1,.row sh xs fz,o3] 2 n=[o0,o1,.row sh xs (max fz n),o3]:=rfl
theorem z8d {o0 o1 o2:Obj}{sh:Sh}{xs:List PV}{fz n:Nat}:frz [o0,o1,o2,.row sh xs fz] 3 n=[o0,o1,o2,.row sh xs (max fz n)]:=rfl
theorem win1 {x:PV}:win [x] 0 1=[x]:=rfl
theorem win2 {x y:PV}:win [x,y] 0 2=[x,y]:=rfl
theorem z84 {o0 o1 o2 o3:Obj}:[o0,o1,o2,o3][3]?=some o3:=rfl
theorem z83 {o0 o1 o2 o3:Obj}:[o0,o1,o2,o3][2]?=some o2:=rfl
attribute [local go_sem] z8c z8d win1 win2 z84 z83
theorem dL {b:Nat}{X Y:Esc}(hX:∀ y∈X,b<=y.1)(hY:∀ y∈Y,b<=y.1):∀y∈X++Y,b<=y.1:=λy hy=>by
 rcases List.mem_append.1 hy with e|e
 ·exact hX y e
 ·exact hY y e
theorem fL {b i:Nat}{v:AV}(h:b<=i):∀y∈rC i v,b<=y.1:=λy hy=>by
 unfold rC at hy;split at hy
 ·rw[List.mem_singleton.1 hy];exact h
 ·cases hy
def uvw:List (List UInt8):=[[117],[118],[119]]
theorem zfS (hid:id<h.length){b:Int}(hp:jB 100 b){ds:List TDev}(h1:1<=ds.length)(h3:ds.length<=3)(hd:∀ d∈ds,DvG d){P:jA}{y:List (Nat × AV)}{E:Ex->St->Prop}(hE:E=oA [.t 2] false h.length P)
 (hP:∀(ds':List TDev) (b':Int),b<=b'->b'<=b+10->ds'.length=ds.length->(∀d∈ds',DvG d)->P (nC ds') (h.set id (uA L b')) []) :
 NW (bA X) X.gl eQ ⟨[(0,.ref id 0),(3,.own h.length ds.length 0 ds.length)]++y,h.set id (uA L b)++[.row (some 5) (ds.map RA) 0],[]⟩ E:=by
 subst hE;have hid':id<=h.length:=by omega
 have Q:=PM (WC hp (Int.le_refl b) (by omega))
 have lml:(ds.map RA).length=ds.length:=List.length_map ..
 have done:∀(ds':List TDev) (b':Int),b<=b'->b'<=b+10->ds'.length=ds.length->(∀d∈ds',DvG d)->∀(M:List PV) (y:List (Nat×AV)),eA y 3 = .own h.length ds.length 0 ds.length->M=ds'.map RA->NW (bA X) X.gl dQ ⟨y,h.set id (uA L b')++[.row (some 5) M 0],[]⟩ (oA [.t 2] false h.length P):=λds' b' q1 q2 q3 q4 M y hy hM=>by
  subst hM;have l2:(ds'.map RA).length=ds.length:=by rw[List.length_map,q3]
  have wf:win (ds'.map RA) 0 ds.length=ds'.map RA:=VI l2
  rw[qT];simp only[JK,hy];simp only[go_sem,l2,wf];exact hP ds' b' q1 q2 q3 q4
 rw[rT];by_cases hf:CB L b 20=0
 ·obtain⟨j1,j2⟩:=MJ L (b+1) ds.length (by omega) (by omega)
  obtain⟨j,hj⟩:=Int.eq_ofNat_of_zero_le j1;have hjl:j<ds.length:=by omega
  have hg:=VB RA hjl
  have D:=hd _ (List.getElem_mem hjl)
  have fp:∀y:TDev,RA y = .agg [.str y.name,eI y.long,eI y.id,.sl (some 2) (y.regs.map NA),.sl (some 2) (y.ins.map mB)]:=λ_=>rfl
  have hset:∀(n:List UInt8) (lo i:Int),(ds.map RA).set j (.agg [.str n,eI lo,eI i,.sl (some 2) (ds[j].regs.map NA),.sl (some 2) (ds[j].ins.map mB)])=(ds.set j ⟨n,lo,i,ds[j].regs,ds[j].ins⟩).map RA:=λn lo i=>by rw[List.map_set];rfl
  have hmem:∀(n:List UInt8) (lo i:Int),n.length<=10->(-1000<=lo/\lo<=1000)->(-1000<=i/\i<=1000)->∀d∈ds.set j ⟨n,lo,i,ds[j].regs,ds[j].ins⟩,DvG d:=λn lo i q1 q2 q3 d hm=>by
   rcases List.mem_or_eq_of_mem_set hm with e|e
   ·exact hd d e
   ·subst e;exact⟨q1,q2,q3,D.r,D.i,D.c,D.z⟩
  generalize hdj:ds[j]=d at *;rw[fp]at hg;have pm:=nQ (l:=[d.name,[],[117]]) (L:=L) (a:=b+1+1) (by simp) (by simp)
  have pl:(LD [d.name,[],[117]] L (b+1+1)).length<=10:=by
   simp only[List.mem_cons,List.not_mem_nil,or_false]at pm;rcases pm with e|e|e
   ·rw[e];exact D.n
   ·rw[e];decide
   ·rw[e];decide
  obtain⟨l1,l2⟩:=z3n (L:=L) (l:=[d.long,1,33]) (lo:=-1000) (hi:=1000) (by simp) (by simp) (by simp;exact D.lo) (b+1+1+1)
  obtain⟨k1,k2⟩:=z3n (L:=L) (l:=[d.id,4,-1]) (lo:=-1000) (hi:=1000) (by simp) (by simp) (by simp;exact D.id) (b+1+1+1+1)
  generalize hps:LD [d.name,[],[117]] L (b+1+1)=nm at *;generalize hlo:GC [d.long,1,33] L (b+1+1+1)=lo at *;generalize hii:GC [d.id,4,-1] L (b+1+1+1+1)=ii at *;have gs:∀v,((ds.map RA).set j v)[j]?=some v:=λv=>List.getElem?_set_self (by omega)
  have ss:∀v w,((ds.map RA).set j v).set j w=(ds.map RA).set j w:=λv w=>List.set_set ..
  have ls:∀v,((ds.map RA).set j v).length=ds.length:=λv=>by rw[List.length_set,lml]
  simp (config:={maxSteps:=4000000}) only[rJ,go_sem,hid,hid',Q,hf,hj,lml,hjl,hg,hps,hlo,hii,gs,ss,ls,splice,List.cons_append,List.nil_append];exact done (ds.set j ⟨nm,lo,ii,d.regs,d.ins⟩) (b+1+1+1+1+1) (by omega) (by omega) (by simp) (hmem nm lo ii pl ⟨l1,l2⟩ ⟨k1,k2⟩) _ _ rfl (hset nm lo ii)
 ·simp only[rJ,go_sem,hid,hid',Q,hf,List.cons_append,List.nil_append]
  exact done ds (b+1) (by omega) (by omega) rfl hd _ _ rfl rfl
end
def mkS (k:Int)(b:List UInt8):Cmd:=⟨k,0,0,b,[],[]⟩
def OD (H T h t:List UInt8):List Cmd:=[mkS 3 H,mkS 4 T,mkS 5 h,mkS 6 t]
section
variable {h:aA} {K:jA}
attribute [-go_sem] SA splice
def nF (ds:List TDev)(l:List Cmd):Int:=orL [aH ds,(qB kA l:Nat)]
theorem za4 (ds:List TDev)(hB:∀ d∈ds,DevB d)(h3:ds.length<=1000)(l:List Cmd)(hok:∀ c∈l,CmdOk c)(hl:l.length<=1000000):bA X BL [nC ds,ACs l] h K=K (AI (nF ds l)) h []:=by
 refine sA ?_;rw[zf8 rfl];have q1:=λh K=>zai (h:=h) (K:=K) ds hB h3
 have q2:=λh K=>z3G (h:=h) (K:=K) l hok hl
 have q3:=λh K=>zaj (h:=h) (K:=K) [aH ds,(qB kA l:Nat)] (by simp)
 simp only[AL,List.map_cons,List.map_nil]at q3;unfold nF;simp only[gT,go_sem,↓q1,q1,↓q2,q2,↓q3,q3]
theorem z9U {ds:List TDev}{l:List Cmd}(h:nF ds l=0):aH ds=0/\qB kA l=0:=by
 unfold nF at h;rw[orL2]at h;split at h
 ·rename_i q;exact absurd h q
 ·rename_i q;exact⟨by omega,by omega⟩
theorem zo1 {R:List UInt8}(l:List Cmd)(hR:(PA (vA kA [] 0 l)).length<=R.length)(k:Nat)(hk:k<l.length):∃s,(lF kA [] 0 l 0 R)[k]?=some s/\s.length=if TC l[k]=true then l[k].b.length else 0:=by
 cases hs:TC l[k]with
 | true=>
  obtain⟨f,x1,x2,x3⟩:=z1j kA (R:=R) l (pre:=[]) (state:=0) (at_:=0) (by omega) k hk hs
  exact⟨_,x3,by rw[if_pos rfl];simp [win];omega⟩
 | false=>exact⟨[],z31 kA (R:=R) l (pre:=[]) (state:=0) (at_:=0) k hk hs,by simp⟩
theorem zlP {c:Cmd}(hc:MA c=0):(TC c=true/\c.b.length<=2000/\GA c.w=true/\(c.m=[]∨(c.m.length=c.b.length/\c.w.length=c.b.length)))∨(TC c=false/\c.m=[]):=by
 cases TD hc with
 | set h hs e=>exact .inr ⟨by cases q:TC c with|true=>have:=IE.1 q;omega|false=>rfl,by rw[e]⟩
 | pad h0 h1 hb hl e=>exact .inr ⟨by cases q:TC c with|true=>have:=IE.1 q;omega|false=>rfl,by rw[e]⟩
 | go h hs e=>exact .inr ⟨by cases q:TC c with|true=>have:=IE.1 q;omega|false=>rfl,by rw[e]⟩
 | idle h h0 h1 e=>exact .inr ⟨by cases q:TC c with|true=>have:=IE.1 q;omega|false=>rfl,by rw[e]⟩
 | scan h hs e=>
  obtain⟨q1,q2,q3,q4,q5,q6⟩:=qF hs;refine .inl ⟨IE.2 h,q3,q4,?_⟩;rcases q6 with⟨_,q⟩|⟨q,r⟩
  ·exact .inl q
  ·exact .inr ⟨r,q⟩
end
section
attribute [-go_sem] FB LB
end
section
variable {h:aA} {K:jA}
attribute [-go_sem] SA FB LB
def kPV (n:Int):PV:=.int .i64 n
def tAV (s:List UInt8):AV:=.p (.str s)
theorem lookC {hp:aA}{id:Nat}{m:List (Int × List UInt8)}{b:Int}(hh:hp[id]?=some (OA kPV tAV m)):FB (none,[0]) false (AS []) (.mp id) (AI b) hp=some (AS ((ZA b m).getD [])):=by
 have:=UT (key:=kPV) (val:=tAV) (λa b=>PP a b) hh (kk:=(none,[0])) (k:=b) QP (ok:=false) (z:=AS [])
 rw[cond_false]at this;refine this.trans ?_;cases ZA b m <;> rfl
theorem updC {hp:aA}{id:Nat}{m:List (Int × List UInt8)}{b:Int}{v:List UInt8}(hh:hp[id]?=some (OA kPV tAV m)):LB (none,[0]) (.mp id) (AI b) (AS v) hp=some (.und,hp.set id (OA kPV tAV (zB b v m)),[]):=
 z1z (key:=kPV) (val:=tAV) (λa b=>PP a b) hh (kk:=(none,[0])) (k:=b) QP (v:=v) rfl
theorem updC2 {o:Obj}{m:List (Int × List UInt8)}{b:Int}{v:List UInt8}:LB (none,[0]) (.mp (h.length+1)) (AI b) (AS v) (h++[o,OA kPV tAV m])=some (.und,h++[o,OA kPV tAV (zB b v m)],[]):=by
 rw[updC (m:=m) (by simp)]
 congr 3
 simp
theorem map0 {o:Obj}:h++[o,.amap [] 0]=h++[o,OA kPV tAV []]:=rfl
theorem zpi (n:Int)(h0:0<=n)(h1:n<=1000000):bA X DA [AS [49],AI n] h K=K (AS (oE n.toNat)) h []:=by
 rw[wQ [49] n h0 (by simp;omega) h1,cN];rfl
theorem zaz (ds:List TDev)(hl:ds.length<=100)(hB:∀ d∈ds,0<=d.long/\d.long<=1000):bA X AP [nC ds] h K=K (AS (oE (mC ds))) h []:=by
 refine sA ?_;rw[zf1 rfl];have sb:∀k,k<=ds.length->mC (ds.take k)<=1000*k:=by
  intro k;induction k with
  | zero=>intro _;simp [mC]
  | succ k ih=>
   intro hk;have:=ih (by omega)
   have hlt:k<ds.length:=by omega
   have hb:=hB _ (List.getElem_mem hlt)
   rw[List.take_succ_eq_append_getElem hlt];unfold mC at *;rw[List.map_append,List.sum_append];simp only[List.map_cons,List.map_nil,List.sum_cons,List.sum_nil];omega
 simp only[YS,go_sem,List.length_map];refine bB (λk:Nat=>⟨[(3,AI (mC (ds.take k):Nat)),(6,nC ds),(7,AI ds.length),(8,AI k)],h,[]⟩) (λk=>k<=ds.length) (λk=>ds.length-k) 0 rfl (by omega) ?_
 intro k hk;rw[qG];rcases Nat.lt_or_ge k ds.length with hlt|hge
 ·have hlt':(k:Int)<(ds.length:Int):=by omega
  have hg:=VB RA hlt
  have fp:∀y:TDev,RA y = .agg [.str y.name,eI y.long,eI y.id,.sl (some 2) (y.regs.map NA),.sl (some 2) (y.ins.map mB)]:=λ_=>rfl
  have w2:IntKind.i64.wrap ((k:Int)+1)=((k+1:Nat):Int):=BA _ (by omega) (by omega)
  have hb:=hB _ (List.getElem_mem hlt)
  have s1:=sb k hk
  have e1:mC (ds.take (k+1))=mC (ds.take k)+ds[k].long.toNat:=by
   rw[List.take_succ_eq_append_getElem hlt];unfold mC;rw[List.map_append,List.sum_append];simp
  generalize hS:mC (ds.take k)=S at *;generalize ds[k]=d at *;rw[fp]at hg;have w3:IntKind.i64.wrap ((S:Int)+d.long)=((S+d.long.toNat:Nat):Int):=by rw[BA _ (by omega) (by omega)];omega
  simp only[z0M,oO,go_sem,splice,hlt',hg,w2,w3];refine⟨k+1,?_,by omega,by omega⟩
  rw[e1]
 ·have ek:k=ds.length:=by omega
  subst ek;have s1:=sb ds.length (by omega)
  rw[List.take_length]at *;have ro:=λh K=>zpi (h:=h) (K:=K) (mC ds:Nat) (by omega) (by omega)
  simp only[z0M,oO,z6y,ZS,go_sem,Int.lt_irrefl,↓ro,ro,Int.toNat_natCast]
def YF (ds:List TDev)(n:List UInt8):Int:=XD (YD n) (ds.map RA)
theorem zpt (ds:List TDev)(hl:ds.length<=1000)(n:List UInt8):bA X AJ [nC ds,.fn xL [.ref h.length 0]] (h++[.box [AS n]]) K=K (AI (YF ds n)) (h++[.box [AS n]]) []:=by
 have tl:OF xL [.ref h.length 0] (YD n) (ds.map RA) (h++[.box [AS n]]):=λx hx K=>by
  obtain⟨y,_,rfl⟩:=List.mem_map.1 hx;refine sA ?_;rw[zf0 rfl];simp only[XS,go_sem,Nat.add_assoc,RA,YD]
 exact z40 (h:=h++[.box [AS n]]) (K:=K) (SI z5Y) tl (by simp;omega)
end
section
variable {h:aA} {K:jA}
attribute [-go_sem] SA splice
theorem zoC {l:aA}{i j g off len fz:Nat}{sh:Sh}{xs:List PV}{v:PV}{P:jA}:YC h.length P [.o i,.t j] (some [.own h.length g off len,.p v]) (h ++ .row sh xs fz::l) []=P (.tup [.own h.length g off len,.p v]) (h++[.row sh xs fz]) []:=z33 (k:=0) rfl rfl
theorem zoD {l:aA}{a b:Obj}{i j g off len fz:Nat}{sh:Sh}{xs:List PV}{v:PV}{P:jA}:YC h.length P [.o i,.t j] (some [.own (h.length+2) g off len,.p v]) (h++a::b :: .row sh xs fz::l) []=P (.tup [.own h.length g off len,.p v]) (h++[.row sh xs fz]) []:=z33 (k:=2) rfl rfl
theorem zoE {l:aA}{a b c d e f:Obj}{i j g off len fz:Nat}{sh:Sh}{xs:List PV}{v:PV}{P:jA}:YC h.length P [.o i,.t j] (some [.own (h.length+6) g off len,.p v]) (h++a::b::c::d::e::f :: .row sh xs fz::l) []=P (.tup [.own h.length g off len,.p v]) (h++[.row sh xs fz]) []:=z33 (k:=6) rfl rfl
theorem zp5 (l:List Cmd)(hc:∀ c∈l,MA c=0)(hl:l.length<=1000){id fz:Nat}(hh:h[id]?=some (.row (some 6) (l.map xA) fz)) :
 bA X bF [.own id l.length 0 l.length,.nilp] h K=K (.ref (h.length+5) 0) (rh h ((OB false).play kA l) []) []:=by
 refine sA ?_;have hid:id<h.length:=(List.getElem?_eq_some_iff.1 hh).1
 have hv:∀r t,Shows (some 6) (.own id l.length 0 l.length) (l.map xA) (rh h r t):=λr t=>by
  have:=zaM (sh:=some 6) (id:=id) (fz:=fz) (xs:=l.map xA) (h:=rh h r t) vR (by unfold rh;rw[List.getElem?_append_left hid];exact hh)
  rwa [List.length_map]at this
 have main:=z93 (h:=h) l hc hl false (v:=.own id l.length 0 l.length) (by simp [AV.top];omega) hv
 rw[GN];simp only[VK,go_sem,z3M,splice];refine main _ λr e=>?_
 rw[e];have q1:h.length+5+1=h.length+6:=rfl
 have q2:max h.length (h.length+6)=h.length+6:=by omega
 simp only[go_sem,mG,NI,LG,tQ,q1,q2,List.take_nil]
theorem zoT (l:List Cmd)(hok:∀ c∈l,CmdOk c)(hl:l.length<=1000000){id n fz:Nat}(hh:h[id]?=some (.row (some 6) (l.map xA) fz))(hn:n=l.length):bA X CF [.own id n 0 n] h K=K (AI (qB kA l:Nat)) h []:=by
 subst hn;refine sA ?_;have hid:id<h.length:=(List.getElem?_eq_some_iff.1 hh).1
 rw[OY];by_cases hbig:1000<l.length
 ·have h1:(1000:Int)<(l.length:Int):=by omega
  have e:qB kA l=2:=by unfold qB;rw[if_pos hbig]
  rw[e];simp only[vJ,go_sem,h1]
 have h1:¬(1000:Int)<(l.length:Int):=by omega
 simp only[vJ,go_sem,h1];have hv:Shows (some 6) (.own id l.length 0 l.length) (l.map xA) h:=by
  have:=zaM (sh:=some 6) (id:=id) (fz:=fz) (xs:=l.map xA) (h:=h) vR hh;rwa [List.length_map]at this
 exact z55 l hok hl hbig (by simp [AV.top];omega) hv λK hc hl=>zp5 l hc hl hh
end
section
variable {h:aA} {K:jA}
attribute [-go_sem] SA FB LB
def IG (H T a t:List UInt8)(c:Cmd):Cmd:=
 if c.k=3 then { c with b:=H++c.b } else if c.k=5 then { c with b:=a++c.b } else if c.k=4 then { c with b:=c.b++T } else if c.k=6 then { c with b:=c.b++t } else c
def dD (H T a t:List UInt8)(l:List Cmd):List Cmd:=OD H T a t++l.map (IG H T a t)
structure MoreM (M:List (Int × List UInt8)) (H T a t:List UInt8):Prop where
 h3:ZA 3 M=some H
 h4:ZA 4 M=some T
 h5:ZA 5 M=some a
 h6:ZA 6 M=some t
def z8L:List PV:=[.int .i64 3,.int .i64 4,.int .i64 5,.int .i64 6]
theorem znP {o:Obj}{M:List (Int × List UInt8)}{H T a t:List UInt8}(hM:MoreM M H T a t)(hn:H.length<=5000/\T.length<=5000/\a.length<=5000/\t.length<=5000)(l:List Cmd)(hl:l.length<=1000)(hb:∀ c∈l,c.b.length<=5000/\c.w.length<=5000/\c.m.length<=5000){P:jA}{E:Ex->St->Prop}(hE:E=dG [.o 6,.t 7] h.length P)
 (hP:if qB kA (dD H T a t l)=0 then P (.tup [.own h.length (4+l.length) 0 (4+l.length),AI 0]) (h++[.row (some 6) ((dD H T a t l).map xA) 0]) [] else P (.tup [ACs [],AI (qB kA (dD H T a t l):Nat)]) h []) :
 NW (bA X) X.gl FM ⟨[(2,ACs l),(11,.mp (h.length+1))],h++[o,OA kPV tAV M],[]⟩ E:=by
 subst hE;obtain⟨m3,m4,m5,m6⟩:=hM;have lk:∀(u:aA) (b:Int),FB (none,[0]) false (AS []) (.mp (h.length+1)) (AI b) (h++o::OA kPV tAV M::u)=some (AS ((ZA b M).getD [])):=λu b=>lookC (by simp)
 have hL:(dD H T a t l).length<=1000000:=by simp [dD,OD];omega
 have hok:∀c∈dD H T a t l,CmdOk c:=λc hc=>by
  unfold dD at hc;rcases List.mem_append.1 hc with hc|hc
  ·simp only[OD,List.mem_cons,List.not_mem_nil,or_false]at hc
   rcases hc with e|e|e|e <;> rw[e] <;> exact⟨by simp only[mkS];omega,by simp [mkS],by simp [mkS]⟩
  ·obtain⟨d,hd,rfl⟩:=List.mem_map.1 hc
   obtain⟨q1,q2,q3⟩:=hb d hd;unfold IG;split
   ·exact⟨by simp only[List.length_append];omega,by dsimp only;omega,by dsimp only;omega⟩
   ·split
    ·exact⟨by simp only[List.length_append];omega,by dsimp only;omega,by dsimp only;omega⟩
    ·split
     ·exact⟨by simp only[List.length_append];omega,by dsimp only;omega,by dsimp only;omega⟩
     ·split
      ·exact⟨by simp only[List.length_append];omega,by dsimp only;omega,by dsimp only;omega⟩
      ·exact⟨by omega,by omega,by omega⟩
 have ck:=λh K=>z3G (h:=h) (K:=K) (dD H T a t l) hok hL
 rw[z0L];simp only[nO,go_sem];refine bB (λk:Nat=>⟨[(2,ACs l),(11,.mp (h.length+1)),(12,.own (h.length+2) k 0 k),(50,.p (.sl none z8L)),(51,AI 4),(52,AI k)],h++[o,OA kPV tAV M,.row (some 6) (((OD H T a t).take k).map xA) 0],[]⟩) (λk=>k<=4) (λk=>4-k) 0 rfl (by omega) ?_
 intro k hk;rw[qG];rcases Nat.lt_or_ge k 4 with hlt|hge
 ·have hlt':(k:Int)<4:=by omega
  have w2:IntKind.i64.wrap ((k:Int)+1)=((k+1:Nat):Int):=BA _ (by omega) (by omega)
  have lml:(((OD H T a t).take k).map xA).length=k:=by simp [OD];omega
  have ms:k+1<=LA:=by unfold LA;omega
  obtain⟨kk,s,g1,g2,g3⟩:∃(kk:Int) (s:List UInt8),z8L[k]?=some (.int .i64 kk)/\(ZA kk M).getD []=s/\((OD H T a t).take (k+1)).map xA=((OD H T a t).take k).map xA++[.agg [eI kk,eI 0,eI 0,.str s,.str [],.str []]]:=by
   have:k=0∨k=1∨k=2∨k=3:=by omega
   rcases this with rfl|rfl|rfl|rfl
   ·exact⟨3,H,rfl,by rw[m3];rfl,rfl⟩
   ·exact⟨4,T,rfl,by rw[m4];rfl,rfl⟩
   ·exact⟨5,a,rfl,by rw[m5];rfl,rfl⟩
   ·exact⟨6,t,rfl,by rw[m6];rfl,rfl⟩
  simp only[z0J,lO,go_sem,splice,hlt',g1,lk,g2,w2,lml,ms];exact⟨k+1,by rw[g3],by omega,by omega⟩
 ·have ek:k=4:=by omega
  subst ek;simp only[z0J,lO,z6x,WS,go_sem,List.length_map];refine bB (λk:Nat=>⟨[(11,.mp (h.length+1)),(12,.own (h.length+2) (4+k) 0 (4+k)),(65,ACs l),(66,AI l.length),(67,AI k)],h++[o,OA kPV tAV M,.row (some 6) ((OD H T a t++(l.take k).map (IG H T a t)).map xA) 0],[]⟩) (λk=>k<=l.length) (λk=>l.length-k) 0 (by simp [OD]) (by omega) ?_
  intro k hk;rw[qG];have lml:((OD H T a t++(l.take k).map (IG H T a t)).map xA).length=4+k:=by simp [OD];omega
  rcases Nat.lt_or_ge k l.length with hlt|hge
  ·have hlt':(k:Int)<(l.length:Int):=by omega
   have w2:IntKind.i64.wrap ((k:Int)+1)=((k+1:Nat):Int):=BA _ (by omega) (by omega)
   have hg:=VB xA hlt
   have ms:4+k+1<=LA:=by unfold LA;omega
   have hbk:=(hb _ (List.getElem_mem hlt)).1
   have e1:(OD H T a t++(l.take (k+1)).map (IG H T a t)).map xA=(OD H T a t++(l.take k).map (IG H T a t)).map xA++[xA (IG H T a t l[k])]:=by
    rw[List.take_succ_eq_append_getElem hlt,List.map_append,List.map_append,List.map_append,List.map_append,List.append_assoc];rfl
   have ek:4+k+1=4+(k+1):=by omega
   generalize l[k]=c at *;obtain⟨k0,s0,cl0,b0,w0,q0⟩:=c;have fp:xA ⟨k0,s0,cl0,b0,w0,q0⟩ = .agg [eI k0,eI s0,eI cl0,.str b0,.str w0,.str q0]:=rfl
   rw[fp]at hg;have hbk:b0.length<=5000:=hbk
   have g3:H.length+b0.length<=QA:=by unfold QA;omega
   have g4:b0.length+T.length<=QA:=by unfold QA;omega
   have g5:a.length+b0.length<=QA:=by unfold QA;omega
   have g6:b0.length+t.length<=QA:=by unfold QA;omega
   by_cases c3:k0=3
   ·subst c3
    simp only[gI,yG,YK,VH,ZK,WH,aL,XH,go_sem,splice,hlt',hg,lk,m3,Option.getD_some,g3,w2,lml,ms];exact⟨k+1,by rw[e1,ek];rfl,by omega,by omega⟩
   by_cases c5:k0=5
   ·subst c5
    simp only[gI,yG,YK,VH,ZK,WH,aL,XH,go_sem,splice,hlt',hg,lk,m5,Option.getD_some,g5,w2,lml,ms];exact⟨k+1,by rw[e1,ek];rfl,by omega,by omega⟩
   by_cases c4:k0=4
   ·subst c4
    simp only[gI,yG,YK,VH,xT,SK,ZK,WH,aL,XH,go_sem,splice,hlt',hg,lk,m4,Option.getD_some,g4,w2,lml,ms];exact⟨k+1,by rw[e1,ek];rfl,by omega,by omega⟩
   by_cases c6:k0=6
   ·subst c6
    simp only[gI,yG,YK,VH,xT,SK,ZK,WH,aL,XH,go_sem,splice,hlt',hg,lk,m6,Option.getD_some,g6,w2,lml,ms];exact⟨k+1,by rw[e1,ek];rfl,by omega,by omega⟩
   have ep:IG H T a t ⟨k0,s0,cl0,b0,w0,q0⟩=⟨k0,s0,cl0,b0,w0,q0⟩:=by
    unfold IG;rw[if_neg c3,if_neg c5,if_neg c4,if_neg c6]
   rw[ep,fp]at e1;simp only[gI,yG,YK,VH,xT,SK,ZK,WH,aL,XH,go_sem,splice,hlt',hg,c3,c4,c5,c6,w2,lml,ms];exact⟨k+1,by rw[e1,ek],by omega,by omega⟩
  ·have ek:k=l.length:=by omega
   subst ek;rw[List.take_length]at lml ⊢;have eL:OD H T a t++l.map (IG H T a t)=dD H T a t l:=rfl
   rw[eL]at lml ⊢;have ckO:∀K,bA X CF [.own (h.length+2) (4+l.length) 0 (4+l.length)] (h++[o,OA kPV tAV M,.row (some 6) ((dD H T a t l).map xA) 0]) K=K (AI (qB kA (dD H T a t l):Nat)) (h++[o,OA kPV tAV M,.row (some 6) ((dD H T a t l).map xA) 0]) []:=λK=>
    zoT (dD H T a t l) hok hL (fz:=0) (by simp) (by rw[List.length_map]at lml;exact lml.symm)
   by_cases hz:qB kA (dD H T a t l)=0
   ·have hz2:((qB kA (dD H T a t l):Nat):Int)=0:=by rw[hz];rfl
    rw[if_pos hz]at hP;simp only[gI,yG,z0K,mO,go_sem,Int.lt_irrefl,lml,↓ckO,ckO,hz2];rw[zoD];exact hP
   ·rw[if_neg hz]at hP
    generalize qB kA (dD H T a t l)=F at *;have hz':¬((F:Nat):Int)=0:=by omega
    simp only[gI,yG,z0K,mO,go_sem,Int.lt_irrefl,lml,↓ckO,ckO,hz'];exact hP
end
end Go.Am
