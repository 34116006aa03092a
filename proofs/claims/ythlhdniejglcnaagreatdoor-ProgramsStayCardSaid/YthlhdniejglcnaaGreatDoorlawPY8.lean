import Derived.Test.YthlhdniejglcnaaGreatDoorlawPY7
set_option linter.all false
set_option maxRecDepth 100000
set_option maxHeartbeats 0
namespace Go.Am
section
variable {h:aA} {K:jA}
abbrev AS (s:List UInt8):AV:=.p (.str s)
theorem X_ext:X.ext=lL jI ET:=rfl
theorem zaw (s:List UInt8)(c:UInt8):bA X jI [AS s,.p (.int .u8 c.toNat)] h K=K (AI (sD s c)) h []:=by
 have:=zjE (X:=X) (f:=jI) (asv:=[AS s,.p (.int .u8 c.toNat)]) (vs:=[.str s,.int .u8 c.toNat]) (h:=h) (h1:=h) (r:=.int .i64 (sD s c)) (K:=K) (by kernel_rfl) rfl rfl rfl ?_
 ·exact this
 ·rw[X_ext]
  unfold lL;rw[show Nat.beq jI jI=true from by kernel_rfl]
  simp
theorem zam (s:List UInt8)(c:UInt8):bA X jP [AS s,.p (.int .u8 c.toNat)] h K=K (AI (sD s c)) h []:=by
 have key:∀(h:aA) (K:jA),bA X xJ [AS s,.p (.int .u8 c.toNat)] h K=K (AI (sD s c)) h []:=by
  intro h K;refine sA ?_;rw[z5u rfl];simp only[PN,go_sem,zaw]
 refine sA ?_;rw[zfh rfl];simp only[DS,go_sem,key]
def zI (c:UInt8):Bool:=decide ((97:Int)<=c.toNat)&&decide ((c.toNat:Int)<=122)||decide ((48:Int)<=c.toNat)&&decide ((c.toNat:Int)<=57)||decide ((c.toNat:Int)=45)||decide ((c.toNat:Int)=95)
def JE (s:List UInt8):Bool:=match s with
 | []=>false
 | c::r=>decide (r.length<40)&&(decide ((97:Int)<=c.toNat)&&decide ((c.toNat:Int)<=122))&&(c::r).all zI
theorem zan (s:List UInt8)(hl:s.length<=1000000000):bA X VD [AS s] h K=K (AB (JE s)) h []:=by
 refine sA ?_;rw[zet rfl];cases s with
 | nil=>simp only[RH,go_sem,JE]
 | cons c r=>
  have n0:((c::r)=[])=False:=by simp
  have e1:(((r.length+1:Nat):Int)<=40)=(r.length<40):=by simp only[eq_iff_iff];omega
  by_cases h1:(40:Int)<((r.length+1:Nat):Int)
  ·have:¬r.length<40:=by omega
   simp only[RH,go_sem,n0,h1,JE,this]
  have h1':r.length<40:=by omega
  by_cases h2:(c.toNat:Int)<97
  ·have:¬(97:Int)<=c.toNat:=by omega
   simp only[RH,go_sem,n0,h1,h2,JE,this,h1']
  have h2':(97:Int)<=c.toNat:=by omega
  by_cases h3:(122:Int)<c.toNat
  ·have:¬(c.toNat:Int)<=122:=by omega
   simp only[RH,go_sem,n0,h1,h2,h3,JE,this,h1',h2']
  have h3':(c.toNat:Int)<=122:=by omega
  have ek:JE (c::r)=(c::r).all zI:=by simp [JE,h1',h2',h3']
  rw[ek];generalize hB:(c::r).all zI=B;simp only[RH,go_sem,n0,h1,h2,h3];have hlen:(c::r).length=r.length+1:=rfl
  rw[<-hlen];generalize c::r=s at *;refine bB (λk:Nat=>⟨[(0,AS s),(23,AI s.length),(24,AI k)],h,[]⟩) (λk=>k<=s.length/\(s.take k).all zI=true) (λk=>s.length-k) 0 rfl ⟨by omega,rfl⟩ ?_
  rintro k ⟨hk,hp⟩
  rcases Nat.lt_or_ge k s.length with hlt|hge
  ·have hg:s[k]?=some s[k]:=List.getElem?_eq_getElem hlt
   have w2:IntKind.i64.wrap ((k:Int)+1)=((k+1:Nat):Int):=BA _ (by omega) (by omega)
   generalize hc:s[k]=c at *;have key:(decide ((97:Int)<=c.toNat)&&decide ((c.toNat:Int)<=122)||decide ((48:Int)<=c.toNat)&&decide ((c.toNat:Int)<=57)||decide ((c.toNat:Int)=45)||decide ((c.toNat:Int)=95))=zI c:=rfl
   cases hkc:zI c with
   | true=>
    rw[hkc]at key;have hn:(s.take (k+1)).all zI=true:=by rw[List.take_succ_eq_append_getElem hlt,List.all_append,hp,hc];simp [hkc]
    by_cases b1:(97:Int)<=c.toNat <;> by_cases b2:(c.toNat:Int)<=122 <;> by_cases b3:(48:Int)<=c.toNat <;> by_cases b4:(c.toNat:Int)<=57 <;> by_cases b5:(c.toNat:Int)=45 <;> by_cases b6:(c.toNat:Int)=95
    all_goals first
     | (simp only[b1,b2,b3,b4,b5,b6,decide_true,decide_false,Bool.and_self,Bool.and_true,Bool.and_false,Bool.or_self,Bool.or_true,Bool.or_false,Bool.true_or,Bool.false_or,Bool.false_and,reduceCtorEq]at key;done)
     | (exfalso;omega)
     | (simp only[go_sem,hlt,hg,w2,b1,b2,b3,b4,b5,b6];exact⟨k+1,rfl,⟨by omega,hn⟩,by omega⟩)
   | false=>
    rw[hkc]at key;have hn:s.all zI=false:=by rw[List.all_eq_false];exact⟨_,List.getElem_mem hlt,by rw[hc,hkc];simp⟩
    rw[hn]at hB;subst hB;by_cases b1:(97:Int)<=c.toNat <;> by_cases b2:(c.toNat:Int)<=122 <;> by_cases b3:(48:Int)<=c.toNat <;> by_cases b4:(c.toNat:Int)<=57 <;> by_cases b5:(c.toNat:Int)=45 <;> by_cases b6:(c.toNat:Int)=95
    all_goals first
     | (simp only[b1,b2,b3,b4,b5,b6,decide_true,decide_false,Bool.and_self,Bool.and_true,Bool.and_false,Bool.or_self,Bool.or_true,Bool.or_false,Bool.true_or,Bool.false_or,Bool.false_and,reduceCtorEq]at key;done)
     | (exfalso;omega)
     | (simp only[go_sem,hlt,hg,b1,b2,b3,b4,b5,b6])
  ·have ek:k=s.length:=by omega
   subst ek;rw[List.take_length,hB]at hp;subst hp;simp only[go_sem,Nat.lt_irrefl]
theorem z8C (s:List UInt8)(c:UInt8):decide (sD s c<0) = !s.contains c:=by
 unfold sD;rw[Bool.eq_iff_iff];by_cases hf:s.findIdx (· == c)<s.length
 ·rw[if_pos hf]
  have:=List.findIdx_getElem (w:=hf);simp only[beq_iff_eq]at this;have hm:c∈s:=by rw[<-this];exact List.getElem_mem hf
  simp [hm]
 ·rw[if_neg hf]
  have hm:¬c∈s:=λhm=>hf (List.findIdx_lt_length_of_exists ⟨c,hm,by simp⟩)
  simp [hm]
theorem zpy (s t:List UInt8)(hl:s.length<=1000000000):bA X QO [AS s,AS t] h K=K (AB (s.all λc=>t.contains c)) h []:=by
 refine sA ?_;rw[zeJ rfl];simp only[bS,go_sem];refine bB (λk:Nat=>⟨[(0,AS s),(1,AS t),(7,AI s.length),(8,AI k)],h,[]⟩) (λk=>k<=s.length/\(s.take k).all (λc=>t.contains c)=true) (λk=>s.length-k) 0 rfl ⟨by omega,rfl⟩ ?_
 rintro k ⟨hk,hp⟩
 rcases Nat.lt_or_ge k s.length with hlt|hge
 ·have hg:s[k]?=some s[k]:=List.getElem?_eq_getElem hlt
  have w2:IntKind.i64.wrap ((k:Int)+1)=((k+1:Nat):Int):=BA _ (by omega) (by omega)
  have hi:=z8C t s[k]
  by_cases hc:sD t s[k]<0
  ·have:s.all (λc=>t.contains c)=false:=by
    rw[List.all_eq_false];refine⟨_,List.getElem_mem hlt,?_⟩;rw[decide_eq_true hc]at hi;cases hq:t.contains s[k]with
    | true=>rw[hq]at hi;cases hi
    | false=>simp
   simp only[go_sem,hlt,hg,zam,hc,this]
  ·rw[decide_eq_false hc]at hi
   have hq:t.contains s[k]=true:=by cases hq:t.contains s[k]with|true=>rfl|false=>rw[hq]at hi;cases hi
   simp only[go_sem,hlt,hg,zam,hc,w2];exact⟨k+1,rfl,⟨by omega,by rw[List.take_succ_eq_append_getElem hlt,List.all_append,hp];simp only[List.all_cons,List.all_nil,hq];rfl⟩,by omega⟩
 ·have ek:k=s.length:=by omega
  subst ek;rw[List.take_length]at hp;simp only[go_sem,Nat.lt_irrefl,hp]
end
def MD (pre:List TReg)(r:TReg):Int:=
 if JE r.name=false then 5 else if r.name=IB∨r.name=GB∨(pre.any λx=>decide (x.name=r.name))=true then 6 else if r.long<1∨1000<r.long then 1 else 0
def HF:List TReg->List TReg->Int
 | _,[]=>0
 | pre,r::rs=>if MD pre r≠0 then MD pre r else HF (pre++[r]) rs
def ID (d:TDev)(pre:List TIns)(x:TIns):Int:=
 if(x.code.length:Int)≠d.long then 3 else if GA x.code=false then 9 else if x.code.contains 48=false then 16 else if(pre.any λy=>decide (y.code=x.code))=true then 6 else if(XC d x.reg).isSome=false then 8 else 0
def FG (d:TDev):List TIns->List TIns->Int
 | _,[]=>0
 | pre,x::xs=>if ID d pre x≠0 then ID d pre x else FG d (pre++[x]) xs
def ZG (pre:List TDev)(d:TDev):Int:=
 if JE d.name=false then 5 else if(pre.any λx=>decide (x.name=d.name))=true then 6 else if(d.long<2∨32<d.long)∨(d.id<0∨4294967295<d.id) then 1
 else if d.id≠0/\d.id.tmod 2=0 then 3 else if(10:Int)<d.regs.length∨(100:Int)<d.ins.length then 2 else if HF [] d.regs≠0 then HF [] d.regs else FG d [] d.ins
def bI:List TDev->List TDev->Int
 | _,[]=>0
 | pre,d::ds=>if ZG pre d≠0 then ZG pre d else bI (pre++[d]) ds
def aH (ds:List TDev):Int:=if ds.length=0 then 8 else if 20<ds.length then 2 else bI [] ds
theorem zkF {s:List UInt8}(h:JE s=true):s.length<=40/\s≠[]:=by
 unfold JE at h;cases s with
 | nil=>cases h
 | cons c r=>
  simp only[Bool.and_eq_true,decide_eq_true_eq]at h;simp;omega
theorem z9K:∀ {rs pre:List TReg},HF pre rs=0->(∀ r∈rs,r.name≠IB/\r.name≠GB/\1<=r.long/\r.long<=1000/\∀ x∈pre,x.name≠r.name)/\(rs.map TReg.name).Nodup
 | [],_,_=>⟨by simp,by simp⟩
 | r::rs,pre,h=>by
  unfold HF at h;by_cases h0:MD pre r≠0
  ·rw[if_pos h0]at h;exact absurd h h0
  rw[if_neg h0]at h;obtain⟨a1,a2⟩:=z9K h;have h0:MD pre r=0:=by omega
  unfold MD at h0;split at h0
  ·cases h0
  split at h0
  ·cases h0
  rename_i n1;split at h0
  ·cases h0
  rename_i n2;rw[not_or,not_or]at n1;obtain⟨b1,b2,b3⟩:=n1;have b3:∀x∈pre,x.name≠r.name:=λx hx e=>b3 (List.any_eq_true.2 ⟨x,hx,by simpa using e⟩)
  refine⟨λy hy=>?_,?_⟩
  ·rcases List.mem_cons.1 hy with e|e
   ·subst e;exact⟨b1,b2,by omega,by omega,b3⟩
   ·obtain⟨c1,c2,c3,c4,c5⟩:=a1 y e
    exact⟨c1,c2,c3,c4,λx hx=>c5 x (List.mem_append_left _ hx)⟩
  ·rw[List.map_cons,List.nodup_cons]
   refine⟨λhm=>?_,a2⟩
   obtain⟨y,hy,e⟩:=List.mem_map.1 hm;exact(a1 y hy).2.2.2.2 r (by simp) e.symm
theorem z8H {d:TDev}:∀{xs pre:List TIns},FG d pre xs=0->∀x∈xs,(x.code.length:Int)=d.long/\(XC d x.reg).isSome=true
 | [],_,_,x,hx=>by cases hx
 | y::xs,pre,h,x,hx=>by
  unfold FG at h;by_cases h0:ID d pre y≠0
  ·rw[if_pos h0]at h;exact absurd h h0
  rw[if_neg h0]at h;have h0:ID d pre y=0:=by omega
  rcases List.mem_cons.1 hx with e|e
  ·subst e
   unfold ID at h0;split at h0
   ·cases h0
   rename_i n1;split at h0
   ·cases h0
   split at h0
   ·cases h0
   split at h0
   ·cases h0
   split at h0
   ·cases h0
   rename_i n5;exact⟨by omega,by cases q:(XC d x.reg).isSome with|true=>rfl|false=>exact absurd q n5⟩
  ·exact z8H h x e
theorem zgw {pre:List TDev}{d:TDev}(h:ZG pre d=0):DevOk d/\∀x∈pre,x.name≠d.name:=by
 unfold ZG at h;split at h
 ·cases h
 rename_i n1;split at h
 ·cases h
 rename_i n2;split at h
 ·cases h
 rename_i n3;split at h
 ·cases h
 split at h
 ·cases h
 rename_i n5;split at h
 ·rename_i n6;exact absurd h n6
 rename_i n6;have kn:JE d.name=true:=by simpa using n1
 obtain⟨r1,r2⟩:=z9K (show HF [] d.regs=0 by omega)
 have i1:=z8H h
 refine⟨⟨by omega,by omega,by omega,by omega,λx hx e=>?_,λx hx=>(i1 x hx).2,λr hr=>(r1 r hr).1,λr hr=>(r1 r hr).2.1,λr hr=>⟨(r1 r hr).2.2.1,by have:=(r1 r hr).2.2.2.1;omega⟩,r2,by omega,by omega,by have:=(zkF kn).1;omega⟩,λx hx e=>n2 (List.any_eq_true.2 ⟨x,hx,by simpa using e⟩)⟩
 have:=(i1 x hx).1;rw[e]at this;simp at this;omega
theorem z6a:∀ {ds pre:List TDev},bI pre ds=0->(∀ d∈ds,DevOk d/\∀ x∈pre,x.name≠d.name)/\(ds.map TDev.name).Nodup
 | [],_,_=>⟨by simp,by simp⟩
 | d::ds,pre,h=>by
  unfold bI at h;by_cases h0:ZG pre d≠0
  ·rw[if_pos h0]at h;exact absurd h h0
  rw[if_neg h0]at h;obtain⟨b1,b2⟩:=zgw (show ZG pre d=0 by omega)
  obtain⟨a1,a2⟩:=z6a h;refine⟨λy hy=>?_,?_⟩
  ·rcases List.mem_cons.1 hy with e|e
   ·subst e;exact⟨b1,b2⟩
   ·obtain⟨c1,c2⟩:=a1 y e
    exact⟨c1,λx hx=>c2 x (List.mem_append_left _ hx)⟩
  ·rw[List.map_cons,List.nodup_cons]
   refine⟨λhm=>?_,a2⟩
   obtain⟨y,hy,e⟩:=List.mem_map.1 hm;exact(a1 y hy).2 d (by simp) e.symm
theorem z5Z {ds:List TDev}(h:aH ds=0):(∀d∈ds,DevOk d)/\(ds.map TDev.name).Nodup/\ds≠[]/\ds.length<=20:=by
 unfold aH at h;split at h
 ·cases h
 rename_i n1;split at h
 ·cases h
 obtain⟨a1,a2⟩:=z6a h;exact⟨λd hd=>(a1 d hd).1,a2,λe=>n1 (by rw[e];rfl),by omega⟩
structure DevB (d:TDev):Prop where
 n:d.name.length<=1000
 rs:d.regs.length<=1000
 is:d.ins.length<=1000
 rn:∀r∈d.regs,r.name.length<=1000
 ic:∀x∈d.ins,x.code.length<=1000/\x.reg.length<=1000
section
attribute [-go_sem] PV.cells splice
variable {h:aA} {K:jA}
theorem z41 {v:AV}{g:Nat}{caps:List AV}{p:PV->Bool}{xs:List PV}(hv:Shows (some 2) v xs h)(hp:OF g caps p xs h)(hl:xs.length<=1000000000) :
 bA X tL [v,.fn g caps] h K=K (AI (XD p xs)) h []:=by
 refine sA ?_;rw[zfa];have vl:=hv.len
 simp only[xS,go_sem,vl];refine bB (λk:Nat=>⟨[(0,v),(1,.fn g caps),(7,AI xs.length),(8,AI k)],h,[]⟩) (λk=>k<=xs.length/\∀x∈xs.take k,p x=false) (λk=>xs.length-k) 0 rfl (by simp) ?_
 rintro k ⟨hk,hn⟩
 rcases Nat.lt_or_ge k xs.length with hlt|hge
 ·obtain⟨a,ha,hb⟩:=hv.get k hlt
  have w2:IntKind.i64.wrap ((k:Int)+1)=((k+1:Nat):Int):=BA _ (by omega) (by omega)
  have ht:=hp _ (List.getElem_mem hlt)
  cases hpk:p xs[k]with
  | true=>
   have hf:xs.findIdx p=k:=by
    rw[List.findIdx_eq hlt];refine⟨hpk,λj hj=>?_⟩
    have:=hn xs[j] (by rw[List.mem_take_iff_getElem];exact⟨j,by omega,rfl⟩)
    simpa using this
   simp only[go_sem,hlt,ha,hb,ht,hpk,w2];simp only[XD,hf,hlt,if_true]
  | false=>
   simp only[go_sem,hlt,ha,hb,ht,hpk,w2];refine⟨k+1,rfl,⟨by omega,λx hx=>?_⟩,by omega⟩
   rw[List.take_succ_eq_append_getElem hlt,List.mem_append,List.mem_singleton]at hx;rcases hx with hx|hx
   ·exact hn x hx
   ·rw[hx];exact hpk
 ·have e1:k=xs.length:=by omega
  subst e1;simp only[go_sem,Nat.lt_irrefl];rw[List.take_length]at hn;have:¬xs.findIdx p<xs.length:=by
   rw[Nat.not_lt,Nat.le_iff_lt_or_eq];right
   exact(List.findIdx_eq_length.2 (λx hx=>by simp [hn x hx])).symm
  simp [XD,this]
theorem zbH {g:Nat}{caps:List AV}{p:PV->Bool}{xs:List PV}(hp:OF g caps p xs h)(hs:KF (some 2) xs)(hl:xs.length<=1000000000) :
 bA X YO [.p (.sl (some 2) xs),.fn g caps] h K=K (AB (xs.any p)) h []:=by
 refine sA ?_;rw[zeS];have vi:=λK=>z41 (h:=h) (K:=K) (SI hs) hp hl
 simp only[lS,go_sem,vi,z1n]
theorem zbV {v:AV}{g:Nat}{caps:List AV}{p:PV->Bool}{xs:List PV}(hv:Shows (some 2) v xs h)(hp:OF g caps p xs h)(hl:xs.length<=1000000000) :
 bA X dP [v,.fn g caps] h K=K (AI (XD p xs)) h []:=by
 refine sA ?_;rw[zeZ];have vl:=hv.len
 simp only[vS,go_sem,vl];refine bB (λk:Nat=>⟨[(0,v),(1,.fn g caps),(7,AI xs.length),(8,AI k)],h,[]⟩) (λk=>k<=xs.length/\∀x∈xs.take k,p x=false) (λk=>xs.length-k) 0 rfl (by simp) ?_
 rintro k ⟨hk,hn⟩
 rcases Nat.lt_or_ge k xs.length with hlt|hge
 ·obtain⟨a,ha,hb⟩:=hv.get k hlt
  have w2:IntKind.i64.wrap ((k:Int)+1)=((k+1:Nat):Int):=BA _ (by omega) (by omega)
  have ht:=hp _ (List.getElem_mem hlt)
  cases hpk:p xs[k]with
  | true=>
   have hf:xs.findIdx p=k:=by
    rw[List.findIdx_eq hlt];refine⟨hpk,λj hj=>?_⟩
    have:=hn xs[j] (by rw[List.mem_take_iff_getElem];exact⟨j,by omega,rfl⟩)
    simpa using this
   simp only[go_sem,hlt,ha,hb,ht,hpk,w2];simp only[XD,hf,hlt,if_true]
  | false=>
   simp only[go_sem,hlt,ha,hb,ht,hpk,w2];refine⟨k+1,rfl,⟨by omega,λx hx=>?_⟩,by omega⟩
   rw[List.take_succ_eq_append_getElem hlt,List.mem_append,List.mem_singleton]at hx;rcases hx with hx|hx
   ·exact hn x hx
   ·rw[hx];exact hpk
 ·have e1:k=xs.length:=by omega
  subst e1;simp only[go_sem,Nat.lt_irrefl];rw[List.take_length]at hn;have:¬xs.findIdx p<xs.length:=by
   rw[Nat.not_lt,Nat.le_iff_lt_or_eq];right
   exact(List.findIdx_eq_length.2 (λx hx=>by simp [hn x hx])).symm
  simp [XD,this]
theorem zbG {g:Nat}{caps:List AV}{p:PV->Bool}{xs:List PV}(hp:OF g caps p xs h)(hs:KF (some 2) xs)(hl:xs.length<=1000000000) :
 bA X XO [.p (.sl (some 2) xs),.fn g caps] h K=K (AB (xs.any p)) h []:=by
 refine sA ?_;rw[zeR];have vi:=λK=>zbV (h:=h) (K:=K) (SI hs) hp hl
 simp only[kS,go_sem,vi,z1n]
theorem z40 {v:AV}{g:Nat}{caps:List AV}{p:PV->Bool}{xs:List PV}(hv:Shows (some 5) v xs h)(hp:OF g caps p xs h)(hl:xs.length<=1000000000) :
 bA X AJ [v,.fn g caps] h K=K (AI (XD p xs)) h []:=by
 refine sA ?_;rw[zeY];have vl:=hv.len
 simp only[uS,go_sem,vl];refine bB (λk:Nat=>⟨[(0,v),(1,.fn g caps),(7,AI xs.length),(8,AI k)],h,[]⟩) (λk=>k<=xs.length/\∀x∈xs.take k,p x=false) (λk=>xs.length-k) 0 rfl (by simp) ?_
 rintro k ⟨hk,hn⟩
 rcases Nat.lt_or_ge k xs.length with hlt|hge
 ·obtain⟨a,ha,hb⟩:=hv.get k hlt
  have w2:IntKind.i64.wrap ((k:Int)+1)=((k+1:Nat):Int):=BA _ (by omega) (by omega)
  have ht:=hp _ (List.getElem_mem hlt)
  cases hpk:p xs[k]with
  | true=>
   have hf:xs.findIdx p=k:=by
    rw[List.findIdx_eq hlt];refine⟨hpk,λj hj=>?_⟩
    have:=hn xs[j] (by rw[List.mem_take_iff_getElem];exact⟨j,by omega,rfl⟩)
    simpa using this
   simp only[go_sem,hlt,ha,hb,ht,hpk,w2];simp only[XD,hf,hlt,if_true]
  | false=>
   simp only[go_sem,hlt,ha,hb,ht,hpk,w2];refine⟨k+1,rfl,⟨by omega,λx hx=>?_⟩,by omega⟩
   rw[List.take_succ_eq_append_getElem hlt,List.mem_append,List.mem_singleton]at hx;rcases hx with hx|hx
   ·exact hn x hx
   ·rw[hx];exact hpk
 ·have e1:k=xs.length:=by omega
  subst e1;simp only[go_sem,Nat.lt_irrefl];rw[List.take_length]at hn;have:¬xs.findIdx p<xs.length:=by
   rw[Nat.not_lt,Nat.le_iff_lt_or_eq];right
   exact(List.findIdx_eq_length.2 (λx hx=>by simp [hn x hx])).symm
  simp [XD,this]
theorem zbF {g:Nat}{caps:List AV}{p:PV->Bool}{xs:List PV}(hp:OF g caps p xs h)(hs:KF (some 5) xs)(hl:xs.length<=1000000000) :
 bA X WO [.p (.sl (some 5) xs),.fn g caps] h K=K (AB (xs.any p)) h []:=by
 refine sA ?_;rw[zeQ];have vi:=λK=>z40 (h:=h) (K:=K) (SI hs) hp hl
 simp only[jS,go_sem,vi,z1n]
end
section
section
variable {α β:Type} [DecidableEq α]
def gF (key:α->PV)(val:β->AV):Nat->List (α×β)->List ME
 | _,[]=>[]
 | n,e::r=>⟨key e.1,val e.2,n⟩::gF key val (n+1) r
def OA (key:α->PV)(val:β->AV)(l:List (α × β)):Obj:=.amap (gF key val 0 l) l.length
def nD (k:α):List (α×β)->Option Nat
 | []=>none
 | e::r=>if k=e.1 then some 0 else(nD k r).map (· + 1)
def ZA (k:α):List (α×β)->Option β
 | []=>none
 | e::r=>if k=e.1 then some e.2 else ZA k r
def zB (k:α)(v:β):List (α×β)->List (α×β)
 | []=>[(k,v)]
 | e::r=>if k=e.1 then(k,v)::r else e::zB k v r
def zN (key:α->PV):Prop:=∀a b,PV.eqv (key a) (key b)=some (decide (a=b))
theorem z8M:zN PV.str:=λa b=>rfl
theorem PP:zN (λn:Int=>PV.int .i64 n):=λa b=>by simp [PV.eqv,PV.eq1]
theorem z8N {s:List UInt8}:bD (none,[2]) (.p (.str s))=some (.str s):=by simp [bD,PV.key,PV.shp,PV.sc,PV.cells,PV.kind]
theorem QP {n:Int}{k:IntKind}:bD (none,[0]) (.p (.int k n))=some (.int k n):=by simp [bD,PV.key,PV.shp,PV.sc,PV.cells,PV.kind]
variable {key:α->PV} {val:β->AV}
theorem z1w (hk:zN key)(k:α):∀(l:List (α×β)) (n:Nat),PB (key k) (gF key val n l)=some (nD k l)
 | [],n=>rfl
 | e::r,n=>by
  simp only[gF,PB,hk k e.1,nD];by_cases h:k=e.1
  ·simp [h]
  ·simp [h,z1w hk k r (n+1)]
theorem WT:∀ (l:List (α × β)) (n i:Nat),(gF key val n l)[i]?=(l[i]?).map λe=>⟨key e.1,val e.2,n+i⟩
 | [],n,i=>rfl
 | e::r,n,0=>rfl
 | e::r,n,i+1=>by simp only[gF,List.getElem?_cons_succ,WT r (n+1) i];rw[show n+1+i=n+(i+1) by omega]
theorem zbr {k:α}:∀{l:List (α×β)} {i:Nat},nD k l=some i->i<l.length
 | [],i,h=>by cases h
 | e::r,i,h=>by
  unfold nD at h;split at h
  ·cases h;simp
  ·obtain⟨j,hj,e2⟩:=Option.map_eq_some_iff.1 h
   have:=zbr hj;simp;omega
theorem z4f {k:α}:∀{l:List (α×β)} {i:Nat},nD k l=some i->l[i]?=(ZA k l).map λv=>(k,v)
 | [],i,h=>by cases h
 | e::r,i,h=>by
  unfold nD at h;unfold ZA;split at h
  ·rename_i hk;cases h;simp [hk]
  ·rename_i hk
   obtain⟨j,hj,e2⟩:=Option.map_eq_some_iff.1 h;subst e2;rw[if_neg hk,List.getElem?_cons_succ];exact z4f hj
theorem zbs {k:α}:∀{l:List (α×β)},nD k l=none->ZA k l=none
 | [],h=>rfl
 | e::r,h=>by
  unfold nD at h;unfold ZA;split at h
  ·cases h
  ·rename_i hk
   rw[if_neg hk];exact zbs (by simpa using h)
theorem zbt {k:α}:∀{l:List (α×β)} {i:Nat},nD k l=some i->(ZA k l).isSome=true
 | [],i,h=>by cases h
 | e::r,i,h=>by
  unfold nD at h;unfold ZA;split at h
  ·rename_i hk;simp [hk]
  ·rename_i hk
   obtain⟨j,hj,e2⟩:=Option.map_eq_some_iff.1 h;rw[if_neg hk];exact zbt hj
theorem zlN {k:α}{l:List (α × β)}{n:Nat}:((nD k l).bind λi=>(gF key val n l)[i]?).map ME.val=(ZA k l).map val:=by
 cases h:nD k l with
 | none=>rw[zbs h];rfl
 | some i=>
  simp only[Option.bind_some,WT,z4f h];cases ZA k l <;> rfl
theorem zbe {k:α}{v:β}:∀{l:List (α×β)},nD k l=none->zB k v l=l++[(k,v)]
 | [],h=>rfl
 | e::r,h=>by
  unfold nD at h;unfold zB;split at h
  ·cases h
  ·rename_i hk
   rw[if_neg hk,zbe (by simpa using h)];rfl
theorem zbf {k:α}{v:β}:∀{l:List (α×β)} {i:Nat},nD k l=some i->zB k v l=l.set i (k,v)
 | [],i,h=>by cases h
 | e::r,i,h=>by
  unfold nD at h;unfold zB;split at h
  ·rename_i hk;cases h;simp [hk]
  ·rename_i hk
   obtain⟨j,hj,e2⟩:=Option.map_eq_some_iff.1 h;subst e2;rw[if_neg hk,zbf hj];rfl
theorem z9c (k:α)(v:β):∀(l:List (α×β)) (n:Nat),gF key val n (l++[(k,v)])=gF key val n l++[⟨key k,val v,n+l.length⟩]
 | [],n=>rfl
 | e::r,n=>by simp only[List.cons_append,gF,z9c k v r (n+1),List.length_cons];rw[show n+1+r.length=n+(r.length+1) by omega]
theorem zlR {k:α}{v:β}{l:List (α × β)}{i n:Nat}(h:nD k l=some i):(gF key val n l).modify i (λe=>{ e with val:=val v })=gF key val n (l.set i (k,v)):=by
 apply List.ext_getElem?
 intro j;rw[List.getElem?_modify,WT,WT,List.getElem?_set];have hi:=zbr h
 have hg:=z4f h
 by_cases hij:i=j
 ·subst hij
  rw[hg];simp only[if_true,hi];obtain⟨w,hw⟩:=Option.isSome_iff_exists.1 (zbt h);rw[hw];rfl
 ·simp [hij]
variable {h:aA} {id:Nat} {l:List (α × β)} {kk:Sh × List Nat} {k:α}
theorem z9d (hh:h[id]?=some (OA key val l)):WB h (.mp id)=some (id,gF key val 0 l,l.length):=by
 simp only[WB,hh,OA]
theorem UT (hk:zN key)(hh:h[id]?=some (OA key val l))(hq:bD kk (.p (key k))=some (key k)){ok:Bool}{z:AV} :
 FB kk ok z (.mp id) (.p (key k)) h=some (bif ok then .tup [((ZA k l).map val).getD z,AV.p (.bool (ZA k l).isSome)] else((ZA k l).map val).getD z):=by
 simp only[FB,hq,z9d hh,Option.map_some,z1w hk,zlN,Option.isSome_map];rfl
theorem z1z (hk:zN key)(hh:h[id]?=some (OA key val l))(hq:bD kk (.p (key k))=some (key k)){v:β}(hv:GG (val v)=true) :
 LB kk (.mp id) (.p (key k)) (val v) h=some (.und,h.set id (OA key val (zB k v l)),rC id (val v)):=by
 simp only[LB,hq,z9d hh,hv,z1w hk];cases hw:nD k l with
 | none=>
  simp only[OA,zbe hw,z9c,List.length_append,List.length_cons,List.length_nil,Nat.zero_add]
 | some i=>
  simp only[OA,zbf hw,zlR hw,List.length_set]
end
end
section
variable {h:aA} {K:jA}
attribute [-go_sem] SA
def NA (r:TReg):PV:=.agg [.str r.name,eI r.long]
def mB (i:TIns):PV:=.agg [.str i.code,.str i.reg]
def RA (d:TDev):PV:=.agg [.str d.name,eI d.long,eI d.id,.sl (some 2) (d.regs.map NA),.sl (some 2) (d.ins.map mB)]
abbrev MB (d:TDev):AV:=.p (RA d)
abbrev nC (ds:List TDev):AV:=.p (.sl (some 5) (ds.map RA))
def xC (d:TDev):List AV:=[AS d.name,AI d.long,AI d.id,.p (.sl (some 2) (d.regs.map NA)),.p (.sl (some 2) (d.ins.map mB))]
theorem z9J {l:List TReg}:KF (some 2) (l.map NA):=λx hx=>by obtain⟨n,_,rfl⟩:=List.mem_map.1 hx;rfl
theorem zk8 {l:List TIns}:KF (some 2) (l.map mB):=λx hx=>by obtain⟨n,_,rfl⟩:=List.mem_map.1 hx;rfl
theorem z5Y {l:List TDev}:KF (some 5) (l.map RA):=λx hx=>by obtain⟨n,_,rfl⟩:=List.mem_map.1 hx;rfl
def YD (n:List UInt8):PV->Bool
 | .agg (.str s::_)=>decide (s=n)
 | _=>false
theorem z8D {α:Type}(f:α->PV){p:PV->Bool}{q:α->Bool}(hpq:∀ x,p (f x)=q x)(l:List α) :
 (l.find? q=none/\XD p (l.map f) = -1)∨∃k,∃hk:k<l.length,l.find? q=some l[k]/\XD p (l.map f)=(k:Int):=by
 have e:(l.map f).findIdx p=l.findIdx q:=by
  rw[List.findIdx_map];congr 1
  funext x
  exact hpq x
 unfold XD;rw[e,List.length_map];by_cases h:l.findIdx q<l.length
 ·right
  refine⟨l.findIdx q,h,z1e (λx hx=>?_) (List.getElem?_eq_getElem h) List.findIdx_getElem,if_pos h⟩
  obtain⟨j,hj,rfl⟩:=List.mem_take_iff_getElem.1 hx;have:=List.not_of_lt_findIdx (p:=q) (xs:=l) (i:=j) (by omega)
  simpa using this
 ·left
  refine⟨?_,if_neg h⟩;rw[List.find?_eq_none];intro x hx;have:l.findIdx q=l.length:=by have:=List.findIdx_le_length (p:=q) (xs:=l);omega
  rw[List.findIdx_eq_length]at this;simp [this x hx]
def ZM (d:TDev)(n:List UInt8):AV:=match XC d n with
 | some r=>.tup [.p (NA r),AB true]
 | none=>.tup [.p (.agg [.str [],eI 0]),AB false]
theorem z3N (d:TDev)(n:List UInt8)(hl:d.regs.length<=1000000):bA X DJ [MB d,AS n] h K=K (ZM d n) h []:=by
 refine sA ?_;rw[zfv rfl];unfold ZM XC IB GB;by_cases h1:n=[98,121,112,97,115,115]
 ·subst h1
  simp only[XG,go_sem,Nat.add_assoc,MB,RA,NA,if_true,splice]
 have tl:OF uP [.ref (h.length+1) 0] (YD n) (d.regs.map NA) (h++[.box (xC d),.box [AS n],.box [AS [],AI 0]]):=λx hx K=>by
  obtain⟨r,_,rfl⟩:=List.mem_map.1 hx;refine sA ?_;rw[zfw rfl];simp only[QS,go_sem,NA,YD]
 have ix:=λK=>z41 (h:=h++[.box (xC d),.box [AS n],.box [AS [],AI 0]]) (K:=K) (SI z9J) tl (by simp;omega)
 rw[if_neg h1];unfold xC at ix;by_cases h2:n=[105,100,99,111,100,101]
 ·subst h2
  have h1:¬([105,100,99,111,100,101]:List UInt8)=[98,121,112,97,115,115]:=by decide
  by_cases h3:d.id=0
  ·rw[if_neg (by simp [h3])]
   rcases z8D NA (p:=YD [105,100,99,111,100,101]) (q:=λr=>r.name==[105,100,99,111,100,101]) (λx=>by show decide (x.name=_)=(x.name==_);rw[Bool.eq_iff_iff];simp) d.regs with⟨e1,e2⟩|⟨k,hk,e1,e2⟩
   ·rw[e2]at ix
    rw[e1];simp only[XG,go_sem,Nat.add_assoc,MB,RA,h1,eq_true h3,↓ix,ix,splice]
   ·rw[e2]at ix
    rw[e1];have hg:=VB NA hk
    have k0:¬(k:Int)<0:=by omega
    have cx:rB (some 2) 0 (NA d.regs[k])=some (NA d.regs[k]):=rfl
    generalize d.regs[k]=r at *;have fp:∀y:TReg,NA y = .agg [.str y.name,eI y.long]:=λ_=>rfl
    rw[fp]at hg cx;simp only[XG,go_sem,Nat.add_assoc,MB,RA,h1,eq_true h3,↓ix,ix,hk,hg,k0,cx,fp,splice]
  ·rw[if_pos ⟨rfl,h3⟩]
   simp only[XG,go_sem,Nat.add_assoc,MB,RA,h1,h3,NA,splice]
 ·rw[if_neg (by simp [h2])]
  rcases z8D NA (p:=YD n) (q:=λr=>r.name==n) (λx=>by show decide (x.name=n)=(x.name==n);rw[Bool.eq_iff_iff];simp) d.regs with⟨e1,e2⟩|⟨k,hk,e1,e2⟩
  ·rw[e2]at ix
   rw[e1];simp only[XG,go_sem,Nat.add_assoc,MB,RA,h1,h2,↓ix,ix,splice]
  ·rw[e2]at ix
   rw[e1];have hg:=VB NA hk
   have k0:¬(k:Int)<0:=by omega
   have cx:rB (some 2) 0 (NA d.regs[k])=some (NA d.regs[k]):=rfl
   generalize d.regs[k]=r at *;have fp:∀y:TReg,NA y = .agg [.str y.name,eI y.long]:=λ_=>rfl
   rw[fp]at hg cx;simp only[XG,go_sem,Nat.add_assoc,MB,RA,h1,h2,↓ix,ix,hk,hg,k0,cx,fp,splice]
attribute [-go_sem] z0G eO
theorem zpL (d:TDev)(code:List UInt8)(hl:d.regs.length<=1000000)(hi:d.ins.length<=1000000):bA X xP [MB d,AS code] h K=K (.p (NA ((XC d (yH d code)).getD ⟨[],0⟩))) h []:=by
 refine sA ?_;rw[zfz rfl];have e3:=@z0G
 simp only[US,go_sem,MB,RA,List.length_map];refine bB (λk:Nat=>⟨[(1,AS code),(2,.ref h.length 0),(4,.ref (h.length+1) 0),(5,AS ((d.ins.take k).foldl (λn x=>if x.code=code then x.reg else n) IB)),(11,.p (.sl (some 2) (d.ins.map mB))),(12,AI d.ins.length),(13,AI k)],h++[.box (xC d),.box [AS [],AI 0]],[]⟩) (λk=>k<=d.ins.length) (λk=>d.ins.length-k) 0 rfl (by omega) ?_
 intro k hk;rcases Nat.lt_or_ge k d.ins.length with hlt|hge
 ·have hg:=VB mB hlt
  have w2:IntKind.i64.wrap ((k:Int)+1)=((k+1:Nat):Int):=BA _ (by omega) (by omega)
  have ef:(d.ins.take (k+1)).foldl (λn x=>if x.code=code then x.reg else n) IB=if d.ins[k].code=code then d.ins[k].reg else(d.ins.take k).foldl (λn x=>if x.code=code then x.reg else n) IB:=by
   rw[List.take_succ_eq_append_getElem hlt,List.foldl_append];rfl
  have cx:rB (some 2) 0 (mB d.ins[k])=some (mB d.ins[k]):=rfl
  generalize (d.ins.take k).foldl (λn x=>if x.code=code then x.reg else n) IB=nm at *
  generalize d.ins[k]=i at *;have fp:∀y:TIns,mB y = .agg [.str y.code,.str y.reg]:=λ_=>rfl
  rw[fp]at hg cx;by_cases hc:i.code=code
  ·rw[if_pos hc]at ef
   simp only[go_sem,Nat.add_assoc,hlt,hg,cx,w2,hc,splice];exact⟨k+1,by rw[ef],by omega,by omega⟩
  ·rw[if_neg hc]at ef
   simp only[go_sem,Nat.add_assoc,hlt,hg,cx,w2,hc,splice];exact⟨k+1,by rw[ef],by omega,by omega⟩
 ·have ek:k=d.ins.length:=by omega
  subst ek;rw[List.take_length];have q:=λh K=>z3N (h:=h) (K:=K) d (yH d code) hl
  unfold ZM at q;simp only[go_sem,Nat.lt_irrefl];rw[e3];simp only[eO];have fd:MB d = .p (.agg [.str d.name,eI d.long,eI d.id,.sl (some 2) (d.regs.map NA),.sl (some 2) (d.ins.map mB)]):=rfl
  have fs:yH d code=d.ins.foldl (λn x=>if x.code=code then x.reg else n) IB:=rfl
  rw[fd]at q;rw[<-fs];cases hr:XC d (yH d code) with
  | none=>
   rw[hr]at q;dsimp only at q;simp only[go_sem,Nat.add_assoc,xC,splice,↓q,q,Option.getD_none,NA]
  | some r=>
   rw[hr]at q;dsimp only at q;simp only[go_sem,Nat.add_assoc,xC,splice,↓q,q,Option.getD_some,NA]
abbrev SM:=List (List UInt8 × List UInt8)
def tB (s:List UInt8):AV:=AS s
def fC (d:TDev)(p:aD)(mi mo:Nat):List AV:=[AS d.name,AI d.long,AI d.id,.p (.sl (some 2) (d.regs.map NA)),.p (.sl (some 2) (d.ins.map mB)),AS p.1,AS p.2,.mp mi,.mp mo]
theorem za3 (d:TDev)(p:aD)(mi mo:Nat){id:Nat}(hh:h[id]?=some (.box (fC d p mi mo)))(hl:d.regs.length<=1000000)(hi:d.ins.length<=1000000):bA X wL [.ref id 0] h K=K (.p (NA (tC d p.1))) h []:=by
 refine sA ?_;rw[zfu rfl];have hid:id<h.length:=by
  rcases Nat.lt_or_ge id h.length with h1|h1
  ·exact h1
  ·rw[List.getElem?_eq_none h1]at hh;cases hh
 have g:∀l:aA,(h++l)[id]?=some (.box (fC d p mi mo)):=λl=>by rw[List.getElem?_append_left hid];exact hh
 obtain⟨i,s⟩:=p;unfold tC;dsimp only;have q1:=λh K=>z3N (h:=h) (K:=K) d GB hl
 have q2:=λh K=>zpL (h:=h) (K:=K) d i hl hi
 unfold ZM GB at q1;unfold fC at g hh;have fd:MB d = .p (.agg [.str d.name,eI d.long,eI d.id,.sl (some 2) (d.regs.map NA),.sl (some 2) (d.ins.map mB)]):=rfl
 rw[fd]at q1 q2;unfold GB;by_cases hc:i=[]
 ·subst hc
  rw[if_pos rfl];cases hr:XC d [105,100,99,111,100,101]with
  | none=>
   rw[hr]at q1;dsimp only at q1;simp only[QK,go_sem,Nat.add_assoc,hid,g,hh,splice,↓q1,q1,NA,IB]
  | some r=>
   rw[hr]at q1;dsimp only at q1;simp only[QK,go_sem,Nat.add_assoc,hid,g,hh,splice,↓q1,q1,NA]
 ·rw[if_neg hc]
  generalize (XC d (yH d i)).getD ⟨[],0⟩=r at *;have fp:∀y:TReg,NA y = .agg [.str y.name,eI y.long]:=λ_=>rfl
  rw[fp]at q2;simp only[QK,go_sem,Nat.add_assoc,hid,g,hh,hc,splice,↓q2,q2,fp]
end
section
variable {h:aA} {K:jA}
theorem zoq {b:Nat}:VA b h .nili=some .nili:=by simp only[VA]
attribute [local go_sem] zoq
def RD (u:Bool)(id n:Nat):Obj:=.box [bif u then .ref id 0 else .bt 0 bldT id 0,.bt 1 LH (id+1) n]
theorem MY (id n:Nat):RD true id n = .box [.ref id 0,.bt 1 LH (id+1) n]:=rfl
theorem zej (id n:Nat):RD false id n = .box [.bt 0 bldT id 0,.bt 1 LH (id+1) n]:=rfl
theorem zqk {o:Obj}{id:Nat}(hh:h[id]?=some o):h.set id o=h:=by
 apply List.ext_getElem?
 intro j;by_cases e:id=j
 ·subst e;rw[List.getElem?_set_self (oH hh),hh]
 ·rw[List.getElem?_set_ne e]
theorem zps (u:Bool)(id n:Nat)(hh:h[id]?=some (RD u id n)):bA X eP [.ref id 0] h K=K (.tup []) (h.set id (RD true id n)) []:=by
 refine sA ?_;rw[zfe rfl];cases u with
 | true=>
  rw[zqk hh];rw[MY]at hh;simp only[ZN,go_sem,hh]
 | false=>
  rw[zej]at hh;rw[MY];simp only[bldT]at hh;simp only[ZN,go_sem,hh]
theorem zqj {h:aA}{i j:Nat}{a b:Obj}(e:i≠j):(h.set i a).set j b=(h.set j b).set i a:=List.set_comm a b e
def ZI (h:aA)(u:Bool)(id:Nat)(s:List UInt8):Prop:=h[id]?=some (RD u id s.length)/\h[id+1]?=some (.row none (tA s) 0)
def vI (h:aA)(id:Nat)(s:List UInt8):aA:=(h.set id (RD true id s.length)).set (id+1) (.row none (tA s) 0)
theorem RG (s:List UInt8):(tA s).length=s.length:=by simp [tA]
theorem zeq (s t:List UInt8):tA s++tA t=tA (s++t):=by simp [tA]
theorem z3I {u:Bool}{id:Nat}{s t:List UInt8}(H:ZI h u id s)(hm:s.length+t.length<=200000000000):bA X BG [.ref id 0,AS t] h K=K (.tup [AI t.length,.nili]) (vI h id (s++t)) []:=by
 refine sA ?_;rw[zfd rfl];have l:=oH H.1
 have l2:=oH H.2
 have e:=λK=>zps (K:=K) u id s.length H.1
 have g1:(h.set id (RD true id s.length))[id]?=some (.box [.ref id 0,.bt 1 LH (id+1) s.length]):=by rw[List.getElem?_set_self l,MY]
 have g2:(h.set id (RD true id s.length))[id+1]?=some (.row none (tA s) 0):=by rw[List.getElem?_set_ne (by omega)];exact H.2
 have g3:∀o,((h.set id (RD true id s.length)).set (id+1) o)[id]?=some (.box [.ref id 0,.bt 1 LH (id+1) s.length]):=λo=>by rw[List.getElem?_set_ne (by omega)];exact g1
 have hl:s.length+t.length<=LA:=by unfold LA;omega
 simp only[LH]at g1 g3;simp only[zS,go_sem,e,g1,g2,g3,RG,hl];rw[List.take_of_length_le (by simp)]
 unfold vI;rw[zqj (i:=id+1) (j:=id) (by omega),List.set_set,zeq,List.length_append]
 rfl
def NG (h:aA)(id:Nat)(s:List UInt8):aA:=if s=[] then h else h.set (id+1) (.row none (tA s) (s.length+1))
theorem sN (s:List UInt8):PE (tA s)=some s:=by
 induction s with
 | nil=>rfl
 | cons a r ih=>
  have h1:(0:Int)<=(a.toNat:Int)/\(a.toNat:Int)<256:=⟨by omega,by have:=a.toNat_lt;omega⟩
  have e:tA (a::r) = .int .u8 a.toNat::tA r:=rfl
  rw[e];unfold PE;rw[if_pos h1,ih];simp
theorem z3F {u:Bool}{id:Nat}{s:List UInt8}(H:ZI h u id s)(hm:s.length<=200000000000):bA X BJ [.ref id 0] h K=K (AS s) (NG h id s) []:=by
 refine sA ?_;rw[zfc rfl];have l:=oH H.1
 have l2:=oH H.2
 have g1:=H.1
 have g2:=H.2
 unfold RD at g1;have hl:s.length<=LA:=by unfold LA;omega
 unfold NG;by_cases h0:s=[]
 ·subst h0
  simp only[LH,List.length_nil]at g1;simp only[YN,go_sem,g1,g2,RG,hl];exact if_pos rfl ▸ trivial
 ·have h0':¬s.length=0:=by simpa using h0
  have h1:1<=s.length:=by omega
  simp only[LH]at g1;have e0:(0:Int)<=(s.length:Int):=by omega
  simp only[YN,go_sem,g1,g2,RG,hl,h0',h1,sN,e0,Int.toNat_natCast,h0]
end
section
variable {h:aA} {K:jA}
attribute [-go_sem] SA
theorem zoW (l:List TReg)(hl:l.length<=1000000):bA X UO [.p (.sl (some 2) (l.map NA))] h K=K (.p (.sl (some 2) (l.map NA))) h []:=by
 refine sA ?_;rw[zeP rfl];simp only[iS];cases l with
 | nil=>
  refine⟨_,_,_,⟨rfl,rfl,rfl⟩,?_⟩;simp only[List.map_nil,List.length_nil,go_sem];trivial
 | cons x r=>
  refine⟨_,_,_,⟨rfl,rfl,rfl⟩,?_⟩;have hm:r.length+1<=LA:=by simp only[List.length_cons]at hl;unfold LA;omega
  simp only[List.map_cons,List.length_cons,go_sem,hm];rw[VI (by simp)]
theorem zoV (l:List TIns)(hl:l.length<=1000000):bA X TO [.p (.sl (some 2) (l.map mB))] h K=K (.p (.sl (some 2) (l.map mB))) h []:=by
 refine sA ?_;rw[zeO rfl];simp only[gS];cases l with
 | nil=>
  refine⟨_,_,_,⟨rfl,rfl,rfl⟩,?_⟩;simp only[List.map_nil,List.length_nil,go_sem];trivial
 | cons x r=>
  refine⟨_,_,_,⟨rfl,rfl,rfl⟩,?_⟩;have hm:r.length+1<=LA:=by simp only[List.length_cons]at hl;unfold LA;omega
  simp only[List.map_cons,List.length_cons,go_sem,hm];rw[VI (by simp)]
theorem zk0 {id:Int}(h0:0<=id)(h1:id<=4294967295){k:Nat}(hk:k<32):xI .i64 (IJ .i64 id (k:Int)) 1=(((id.toNat >>> k)%2:Nat):Int):=by
 obtain⟨n,rfl⟩:∃n:Nat,id=n:=⟨id.toNat,by omega⟩
 have e:IJ .i64 (n:Int) (k:Int)=((n / 2^k:Nat):Int):=by
  unfold IJ;have:min ((k:Int)).toNat IntKind.i64.bits=k:=by simp only[IntKind.bits,Int.toNat_natCast];omega
  rw[this,show((2:Int)^k)=((2^k:Nat):Int) by simp]
  exact(Int.ofNat_fdiv n (2^k)).symm
 have hn:n / 2^k<=n:=Nat.div_le_self _ _
 rw[e,Int.toNat_natCast,Nat.shiftRight_eq_div_pow];generalize n / 2^k=m at *;unfold xI;have b1:BitVec.ofInt IntKind.i64.bits (m:Int)=BitVec.ofNat 64 m:=by
  show BitVec.ofInt 64 (m:Int)=_
  simp
 have b2:BitVec.ofInt IntKind.i64.bits (1:Int)=BitVec.ofNat 64 1:=rfl
 have e2:(BitVec.ofInt IntKind.i64.bits (m:Int) &&& BitVec.ofInt IntKind.i64.bits 1).toNat=m%2:=by
  rw[b1,b2];show(BitVec.ofNat 64 m &&& BitVec.ofNat 64 1).toNat=_
  rw[BitVec.toNat_and,BitVec.toNat_ofNat,BitVec.toNat_ofNat,Nat.mod_eq_of_lt (by omega),Nat.mod_eq_of_lt (by omega),Nat.and_one_is_mod]
 rw[e2];exact BA _ (by omega) (by omega)
theorem zkz {id:Int}{k:Nat}(hk:k<32):(rD id)[k]?=some (UInt8.ofNat (48+(id.toNat >>> k)%2)):=by
 unfold rD;simp [hk]
theorem z8B {id:Int}:(rD id).length=32:=by simp [rD]
def InM (d:TDev)(m:SM):Prop:=∀r∈d.regs,ZA r.name m=some (zs r.long.toNat)
theorem z8X {hp:aA}{id:Nat}{m:SM}{k:List UInt8}(hh:hp[id]?=some (OA PV.str tB m)):FB (none,[2]) false (.p (.str [])) (.mp id) (AS k) hp=some (AS ((ZA k m).getD [])):=by
 have:=UT (key:=PV.str) (val:=tB) z8M hh (kk:=(none,[2])) (k:=k) z8N (ok:=false) (z:=AS []);rw[this];cases ZA k m <;> rfl
theorem z4d {hp:aA}{id:Nat}{m:SM}{k v:List UInt8}(hh:hp[id]?=some (OA PV.str tB m)):LB (none,[2]) (.mp id) (AS k) (AS v) hp=some (.und,hp.set id (OA PV.str tB (zB k v m)),[]):=
 z1z (key:=PV.str) (val:=tB) z8M hh (kk:=(none,[2])) (k:=k) z8N (v:=v) rfl
attribute [-go_sem] FB
theorem zpq (d:TDev)(D:DevOk d)(p:aD)(mi mo:Nat){id:Nat}(hh:h[id]?=some (.box (fC d p mi mo))){m:SM}(hm:h[mi]?=some (OA PV.str tB m))(hI:InM d m)(hl:d.regs.length<=1000000)(hi:d.ins.length<=1000000) :
 bA X tP [.ref id 0] h K=K (AS (jJ d p.1)) h []:=by
 refine sA ?_;rw[zft rfl];have hid:id<h.length:=by
  rcases Nat.lt_or_ge id h.length with h1|h1
  ·exact h1
  ·rw[List.getElem?_eq_none h1]at hh;cases hh
 have him:mi<h.length:=by
  rcases Nat.lt_or_ge mi h.length with h1|h1
  ·exact h1
  ·rw[List.getElem?_eq_none h1]at hm;cases hm
 have g:∀l:aA,(h++l)[id]?=some (.box (fC d p mi mo)):=λl=>by rw[List.getElem?_append_left hid];exact hh
 have q:=λh (hh:h[id]?=some (.box (fC d p mi mo))) K=>za3 (h:=h) (K:=K) d p mi mo hh hl hi
 have q0:=q h hh
 have sc:=zaF D p.1
 have lk:∀l:aA,∀k:List UInt8,FB (none,[2]) false (.p (.str [])) (.mp mi) (AS k) (h++l)=some (AS ((ZA k m).getD [])):=λl k=>z8X (by rw[List.getElem?_append_left him];exact hm)
 unfold jJ;generalize tC d p.1=r at *;have fp:∀y:TReg,NA y = .agg [.str y.name,eI y.long]:=λ_=>rfl
 unfold IB GB at *;rw[fp]at q0;dsimp only;by_cases h1:r.name=[98,121,112,97,115,115]
 ·rw[if_pos h1]
  simp only[PK,go_sem,Nat.add_assoc,↓q0,q0,h1,splice]
 rw[if_neg h1];by_cases h2:r.name=[105,100,99,111,100,101]
 ·rw[if_pos h2]
  have n1:¬([105,100,99,111,100,101]:List UInt8)=[98,121,112,97,115,115]:=by decide
  simp only[PK,go_sem,Nat.add_assoc,↓q0,q0,h2,n1,splice];refine bB (λk:Nat=>⟨[(0,.ref id 0),(4,.own (h.length+1) k 0 k),(21,AI k)],h++[.box [AS [105,100,99,111,100,101],AI r.long],.row none (tA ((rD d.id).take k)) 0],[]⟩) (λk=>k<=32) (λk=>32-k) 0 rfl (by omega) ?_
  intro k hk;have hlk:(tA ((rD d.id).take k)).length=k:=by simp [tA,z8B];omega
  rcases Nat.lt_or_ge k 32 with hlt|hge
  ·have hlt':(k:Int)<32:=by omega
   have k0:¬(k:Int)<0:=by omega
   have w2:IntKind.i64.wrap ((k:Int)+1)=((k+1:Nat):Int):=BA _ (by omega) (by omega)
   have ib:=zk0 D.i0 D.i1 hlt
   have hg:=zkz (id:=d.id) hlt
   have hx:(d.id.toNat >>> k)%2<2:=Nat.mod_lt _ (by omega)
   generalize (d.id.toNat >>> k)%2=b at *;have w3:IntKind.i64.wrap (48+(b:Int))=((48+b:Nat):Int):=by rw[BA _ (by omega) (by omega)];omega
   have w4:IntKind.u8.wrap ((48+b:Nat):Int)=((48+b:Nat):Int):=by simp [IntKind.wrap,IntKind.bits,IntKind.signed];omega
   have gd:∀l:aA,ldB none 2 (h++l)[id]?=some (AI d.id):=λl=>by rw[g l];rfl
   have e1:tA ((rD d.id).take (k+1))=tA ((rD d.id).take k)++[.int .u8 ((48+b:Nat):Int)]:=by
    rw[List.take_add_one,hg];simp only[Option.toList,tA,List.map_append,List.map_cons,List.map_nil];rw[UInt8.toNat_ofNat'];congr 4
    omega
   have ms:k+1<=LA:=by unfold LA;omega
   have f1:id<=h.length+1:=by omega
   simp only[go_sem,Nat.add_assoc,hlt',k0,gd,ib,w2,w3,w4,hlk,ms,f1];refine⟨k+1,?_,by omega,by omega⟩
   rw[e1]
  ·have ek:k=32:=by omega
   subst ek;have et:(rD d.id).take 32=rD d.id:=List.take_of_length_le (by rw[z8B];omega)
   rw[et]at hlk ⊢;have tb:PE (tA (rD d.id))=some (rD d.id):=sN _
   have wf:win (tA (rD d.id)) 0 32=tA (rD d.id):=VI hlk
   simp only[go_sem,Nat.lt_irrefl,Nat.add_assoc,hlk,wf,tb]
 ·rw[if_neg h2]
  have hr:r∈d.regs:=by
   rcases sc with c|c|c
   ·exact absurd c h1
   ·exact absurd c h2
   ·exact c
  have hg:=hI r hr
  have lk':=λl=>lk l r.name
  rw[hg,Option.getD_some]at lk';have gd:∀l:aA,ldB none 7 (h++l)[id]?=some (.mp mi):=λl=>by rw[g l];rfl
  simp only[PK,go_sem,Nat.add_assoc,↓q0,q0,h1,h2,gd,lk',splice]
end
section
variable {h:aA} {K:jA}
attribute [-go_sem] FB LB RL SL
def nxtT:List (List Nat):=[[1,0],[1,2],[3,9],[4,5],[4,5],[6,8],[6,7],[4,8],[1,2],[10,0],[11,12],[11,12],[13,15],[13,14],[11,15],[1,2]]
def nxt (s t:Nat):Nat:=(nxtT.getD s []).getD t 0
theorem zmv {s t:Nat}(hs:s<16)(ht:t<2):([AI 1,AI 0,AI 1,AI 2,AI 3,AI 9,AI 4,AI 5,AI 4,AI 5,AI 6,AI 8,AI 6,AI 7,AI 4,AI 8,AI 1,AI 2,AI 10,AI 0,AI 11,AI 12,AI 11,AI 12,AI 13,AI 15,AI 13,AI 14,AI 11,AI 15,AI 1,AI 2]:List AV)[s*2+t*1]?=some (AI (nxt s t)):=by
 have hs':s=0∨s=1∨s=2∨s=3∨s=4∨s=5∨s=6∨s=7∨s=8∨s=9∨s=10∨s=11∨s=12∨s=13∨s=14∨s=15:=by omega
 have ht':t=0∨t=1:=by omega
 rcases hs' with rfl|rfl|rfl|rfl|rfl|rfl|rfl|rfl|rfl|rfl|rfl|rfl|rfl|rfl|rfl|rfl <;> rcases ht' with rfl|rfl <;> rfl
theorem z82 {Y:Ctx}(hY:Y.fn BF=some bJ)(s t:Nat)(hs:s<16)(ht:t<2):bA Y BF [AI s,AI t] h K=K (AI (nxt s t)) h []:=by
 refine sA ?_;rw[CA hY rfl (show nA h [AI s,AI t]=some ([AI s,AI t],h) from rfl) rfl,z6t]
 show PS _ _ _ _ _ _ (oA [.t 4] false _ _)
 have g:=zmv hs ht
 simp only[PS,go_sem,hs,ht,g]
abbrev AD:=List (Int × List UInt8)
def JD (n:Int):PV:=.int .i64 n
def PD (s:List UInt8):AV:=.p (.str s)
def hJ (t:Nat):List UInt8:=[UInt8.ofNat (48+t)]
def UI (at_ t:Nat)(s:AD × List Nat):AD×List Nat:=
 if(ZA (nxt at_ t:Int) s.1).isSome then s else(zB (nxt at_ t:Int) ((ZA (at_:Int) s.1).getD []++hJ t) s.1,s.2++[nxt at_ t])
def DH (at_:Nat):Nat->AD×List Nat->AD×List Nat
 | 0,s=>s
 | t+1,s=>UI at_ t (DH at_ t s)
def popS (s:AD × List Nat):AD×List Nat:=match s.2 with
 | []=>s
 | a::r=>DH a 2 (s.1,r)
def bfs (a:Nat):Nat->AD×List Nat
 | 0=>([((a:Int),[])],[a])
 | k+1=>popS (bfs a k)
def kA (a b:Nat):List UInt8:=(ZA (b:Int) (bfs a 16).1).getD []
def FL (s:AD × List Nat):Bool:=decide (s.1.length<=16)&&decide (s.2.length<=16)&&s.2.all (λx=>decide (x<16))&&s.1.all (λe=>decide (e.2.length<=16))
theorem z5k:(List.range 16).all (λa=>(List.range 16).all (λk=>FL (bfs a k) && !(bfs a k).2.isEmpty)&&FL (bfs a 16)&&(bfs a 16).2.isEmpty)=true:=by kernel_rfl
theorem zdO {a k:Nat}(ha:a<16)(hk:k<16):FL (bfs a k)=true/\(bfs a k).2≠[]:=by
 have h1:=List.all_eq_true.1 z5k a (List.mem_range.2 ha)
 simp only[Bool.and_eq_true]at h1;have h2:=List.all_eq_true.1 h1.1.1 k (List.mem_range.2 hk)
 simp only[Bool.and_eq_true,Bool.not_eq_true',List.isEmpty_eq_false_iff]at h2;exact h2
theorem zdN {a:Nat}(ha:a<16):FL (bfs a 16)=true/\(bfs a 16).2=[]:=by
 have h1:=List.all_eq_true.1 z5k a (List.mem_range.2 ha)
 simp only[Bool.and_eq_true,List.isEmpty_iff]at h1;exact⟨h1.1.2,h1.2⟩
theorem zjY {s:AD × List Nat}(hf:FL s=true):s.1.length<=16/\s.2.length<=16/\(∀x∈s.2,x<16)/\∀e∈s.1,e.2.length<=16:=by
 unfold FL at hf;simp only[Bool.and_eq_true,decide_eq_true_eq,List.all_eq_true]at hf;exact⟨hf.1.1.1,hf.1.1.2,hf.1.2,hf.2⟩
theorem z8W {hp:aA}{id:Nat}{m:AD}{b:Int}(hh:hp[id]?=some (OA JD PD m)):FB (none,[0]) false (.p (.str [])) (.mp id) (AI b) hp=some (.p (.str ((ZA b m).getD []))):=by
 have:=UT (key:=JD) (val:=PD) (λa b=>PP a b) hh (kk:=(none,[0])) (k:=b) QP (ok:=false) (z:=.p (.str []))
 rw[cond_false]at this;refine this.trans ?_;cases ZA b m <;> rfl
theorem lookQ {hp:aA}{id:Nat}{m:AD}{b:Int}(hh:hp[id]?=some (OA JD PD m)):FB (none,[0]) true (.p (.str [])) (.mp id) (AI b) hp=some (.tup [.p (.str ((ZA b m).getD [])),AB (ZA b m).isSome]):=by
 have:=UT (key:=JD) (val:=PD) (λa b=>PP a b) hh (kk:=(none,[0])) (k:=b) QP (ok:=true) (z:=.p (.str []))
 rw[cond_true]at this;refine this.trans ?_;cases ZA b m <;> rfl
theorem updP {hp:aA}{id:Nat}{m:AD}{b:Int}{v:List UInt8}(hh:hp[id]?=some (OA JD PD m)):LB (none,[0]) (.mp id) (AI b) (.p (.str v)) hp=some (.und,hp.set id (OA JD PD (zB b v m)),[]):=
 z1z (key:=JD) (val:=PD) (λa b=>PP a b) hh (kk:=(none,[0])) (k:=b) QP (v:=v) rfl
structure Que (R:aA) (i:Nat) (xs:List Nat) (off:Nat) (q:List Nat):Prop where
 get:R[i]?=some (.row none (xs.map λn:Nat=>eI n) 0)
 le:off<=xs.length
 eq:xs.drop off=q
theorem zmu {hp:aA}{id:Nat}{xs:List Nat}{off:Nat}{n:Int}{k:AV->aA->Esc->Prop}(hh:hp[id]?=some (.row none (xs.map λn:Nat=>eI n) 0))(ho:off<=xs.length)(hm:xs.length<=1000000)
 (k1:k (.own id (xs.length+1) off (xs.length-off+1)) (hp.set id (.row none (xs.map (λn:Nat=>eI n)++[eI n]) 0)) [])
 (k2:k (.own hp.length (xs.length-off+1) 0 (xs.length-off+1)) (hp++[.row none ((xs.drop off).map (λn:Nat=>eI n)++[eI n]) 0]) []) :
 nqK (some none) [.own id xs.length off (xs.length-off),.p (.sl none [eI n])] hp k:=by
 have hx:xs.length-off+1<=LA:=by unfold LA;omega
 have hr:rds hp (.p (.sl none [eI n]))=some (none,[eI n]):=rfl
 have hw:win (xs.map λn:Nat=>eI n) off (xs.length-off)=(xs.drop off).map λn:Nat=>eI n:=by
  unfold win;rw[<-List.map_drop];exact List.take_of_length_le (by simp)
 unfold nqK tG eJ;simp only[hr,if_true,hh,List.length_map,List.length_cons,List.length_nil,Nat.zero_add];rw[if_pos ⟨trivial,trivial,by omega,hx,Nat.zero_le _⟩,hw]
 refine⟨by simp,λy hy=>?_⟩
 simp only[List.mem_cons,List.not_mem_nil,or_false]at hy;rcases hy with rfl|rfl
 ·exact k1
 ·exact k2
theorem z9b {α β:Type}[DecidableEq α]{k:α}{v:β}:∀{l:List (α×β)} {e:α×β},e∈zB k v l->e∈l∨e=(k,v)
 | [],e,h=>by simp [zB]at h;exact .inr h
 | x::r,e,h=>by
  unfold zB at h;split at h
  ·rcases List.mem_cons.1 h with h|h
   ·exact .inr h
   ·exact .inl (List.mem_cons_of_mem _ h)
  ·rcases List.mem_cons.1 h with h|h
   ·exact .inl (h ▸ List.mem_cons_self)
   ·rcases z9b h with h|h
    ·exact .inl (List.mem_cons_of_mem _ h)
    ·exact .inr h
theorem z85 {α β:Type}[DecidableEq α]{k:α}{v:β}:∀{l:List (α×β)},ZA k l=some v->(k,v)∈l
 | [],h=>by cases h
 | x::r,h=>by
  unfold ZA at h;split at h
  ·rename_i he;cases h;subst he;simp
  ·exact List.mem_cons_of_mem _ (z85 h)
theorem zbq {n:Nat}{w:AD}(hw:∀ e∈w,e.2.length<=n)(k:Int):((ZA k w).getD []).length<=n:=by
 cases hg:ZA k w with
 | none=>simp
 | some v=>exact hw _ (z85 hg)
theorem zr0 {n at_ t:Nat}{s:AD × List Nat}(hw:∀ e∈s.1,e.2.length<=n):∀e∈(UI at_ t s).1,e.2.length<=n+1:=by
 unfold UI;split
 ·intro e he;have:=hw e he;omega
 ·intro e he
  rcases z9b he with h|h
  ·have:=hw e h;omega
  ·subst h
   have:=zbq hw (at_:Int);simp [hJ];omega
theorem zbh {n at_:Nat}{s:AD × List Nat}(hw:∀ e∈s.1,e.2.length<=n):∀(t:Nat),∀e∈(DH at_ t s).1,e.2.length<=n+t
 | 0=>hw
 | t+1=>zr0 (zbh hw t)
theorem z81 {Y:Ctx}(hY1:Y.fn CG=some AK)(hY2:Y.fn BF=some bJ)(a b:Nat)(ha:a<16)(hb:b<16):bA Y CG [AI a,AI b] h K=K (.p (.str (kA a b))) h []:=by
 refine sA ?_;rw[HN hY1 rfl (show nA h [AI a,AI b]=some ([AI a,AI b],h) from rfl) rfl]
 simp only[z6u];show ∃v h' x,_/\dO _ _ _ _ _ _ _ _ (oA [.t 4] false _ _)
 simp only[dO];refine⟨_,_,_,⟨rfl,rfl,rfl⟩,?_⟩;have em:OA JD PD [((a:Int),([]:List UInt8))] = .amap [⟨.int .i64 a,.p (.str []),0⟩] 1:=rfl
 have u0:=λ(hp:aA) (hh:hp[h.length]?=some (OA JD PD []))=>updP (b:=(a:Int)) (v:=[]) hh
 have e0:zB (a:Int) [] ([]:AD)=[((a:Int),[])]:=rfl
 have em0:OA JD PD ([]:AD) = .amap [] 0:=rfl
 rw[e0]at u0;simp only[em0]at u0;simp only[go_sem,u0];refine bB (λt:Nat×aA×Nat×List Nat×Nat×Option Nat=>⟨[(1,AI b),(5,.mp h.length),(6,.own (h.length+(t.2.2.1+1)) t.2.2.2.1.length t.2.2.2.2.1 (t.2.2.2.1.length-t.2.2.2.2.1))]++(match t.2.2.2.2.2 with|none=>[]|some q=>[(7,AI q),(25,AI 2),(26,AB false)]),h++OA JD PD (bfs a t.1).1::t.2.1,[]⟩)
  (λt=>t.1<=16/\Que t.2.1 t.2.2.1 t.2.2.2.1 t.2.2.2.2.1 (bfs a t.1).2/\t.2.2.2.1.length<=1+2*t.1) (λt=>16-t.1) (0,[.row none [eI a] 0],0,[a],0,none) (by simp [bfs]) ⟨by simp,⟨rfl,by simp,rfl⟩,by simp⟩ ?_
 rintro⟨k,R,i,xs,off,oq⟩ ⟨h1,hq,h2⟩
 dsimp only at h1 hq h2 ⊢;have hqg:=hq.get
 have hle:=hq.le
 have heq:=hq.eq
 have hln:xs.length-off=(bfs a k).2.length:=by rw[<-heq];simp
 by_cases hk:k<16
 ·obtain⟨hf,hne⟩:=zdO ha hk
  obtain⟨f1,f2,f3,f4⟩:=zjY hf;have hpos:0<xs.length-off:=by rw[hln];exact List.length_pos_iff.2 hne
  have hoff:off<xs.length:=by omega
  obtain⟨q0,qr,hqe⟩:∃q0 qr,(bfs a k).2=q0::qr:=by
   cases hb2:(bfs a k).2 with
   | nil=>exact absurd hb2 hne
   | cons x y=>exact⟨x,y,rfl⟩
  have hx0:xs[off]?=some q0:=by
   have:(xs.drop off)[0]?=some q0:=by rw[heq,hqe];rfl
   rwa [List.getElem?_drop,Nat.add_zero]at this
  have hdr:xs.drop (off+1)=qr:=by
   rw[<-List.drop_drop,heq,hqe];rfl
  have hq0:q0<16:=f3 q0 (by rw[hqe];simp)
  have hgq:(xs.map λn:Nat=>eI n)[off]?=some (eI q0):=by rw[List.getElem?_map,hx0];rfl
  have hpi:(0:Int)<((xs.length-off:Nat):Int):=by omega
  have hl1:1<=xs.length-off:=by omega
  have hbn:bfs a (k+1)=DH q0 2 ((bfs a k).1,qr):=by show popS _=_;unfold popS;rw[hqe]
  have e3:xs.length-off-1=xs.length-(off+1):=by omega
  have hcond:off+(xs.length-off)<=xs.length:=by omega
  have hNL:∀(e:List (Nat×AV)),EA (some [1,5,6,7,25]) e=EA (some [1,5,6,7,25]) e:=λ_=>rfl
  rcases oq with _|oq
  all_goals
  simp only[List.append_nil,List.cons_append,List.nil_append,go_sem,List.getElem?_cons_succ,hqg,hpi,hpos,hgq,hl1,hcond];all_goals
  clear u0 em em0 e0;generalize hw0:((bfs a k).1,qr)=s0 at *;have es1:(bfs a k).1=s0.1:=by rw[<-hw0]
  have es2:qr=s0.2:=by rw[<-hw0]
  rw[es1,e3];refine bB (λt:Nat×aA×Nat×List Nat×Nat=>⟨[(1,AI b),(5,.mp h.length),(6,.own (h.length+(t.2.2.1+1)) t.2.2.2.1.length t.2.2.2.2 (t.2.2.2.1.length-t.2.2.2.2)),(7,AI q0),(25,AI t.1)],h++OA JD PD (DH q0 t.1 s0).1::t.2.1,[]⟩)
   (λt=>t.1<=2/\Que t.2.1 t.2.2.1 t.2.2.2.1 t.2.2.2.2 (DH q0 t.1 s0).2/\t.2.2.2.1.length<=1+2*k+t.1) (λt=>2-t.1) (0,R,i,xs,off+1) rfl ⟨by simp,⟨hqg,hoff,by rw[hdr,es2];rfl⟩,by simp;omega⟩ ?_
  rintro⟨j,R',i',ys,of'⟩ ⟨j1,jq,j2⟩
  dsimp only at j1 jq j2 ⊢;have jg:=jq.get
  have jle:=jq.le
  have jeq:=jq.eq
  by_cases hj:j<2
  ·have hji:(j:Int)<2:=by omega
   have qn:=λh K=>z82 (h:=h) (K:=K) hY2 q0 j hq0 hj
   have hvis:DH q0 (j+1) s0=UI q0 j (DH q0 j s0):=rfl
   generalize hsj:DH q0 j s0=s at *;have lq:=λ(hp:aA) (hh:hp[h.length]?=some (OA JD PD s.1))=>lookQ (b:=(nxt q0 j:Int)) hh
   have lp:=λ(hp:aA) (hh:hp[h.length]?=some (OA JD PD s.1))=>z8W (b:=(q0:Int)) hh
   have up:=λ(hp:aA) (v:List UInt8) (hh:hp[h.length]?=some (OA JD PD s.1))=>updP (b:=(nxt q0 j:Int)) (v:=v) hh
   have w1:IntKind.i64.wrap ((j:Int)+1)=((j+1:Nat):Int):=BA _ (by omega) (by omega)
   cases hs:(ZA (nxt q0 j:Int) s.1).isSome with
   | true=>
    have hv:UI q0 j s=s:=by unfold UI;rw[if_pos hs]
    rw[hv]at hvis;simp only[go_sem,hji,↓qn,qn,lq,hs,w1];exact⟨(j+1,R',i',ys,of'),by dsimp only;rw[hvis],⟨by dsimp only;omega,by dsimp only;rw[hvis];exact jq,by dsimp only;omega⟩,by dsimp only;omega⟩
   | false=>
    have hv:UI q0 j s=(zB (nxt q0 j:Int) ((ZA (q0:Int) s.1).getD []++hJ j) s.1,s.2++[nxt q0 j]):=by unfold UI;rw[hs];rfl
    rw[hv]at hvis;have w2:IntKind.i64.wrap (48+(j:Int))=((48+j:Nat):Int):=BA _ (by omega) (by omega)
    have w3:IntKind.i32.wrap ((48+j:Nat):Int)=((48+j:Nat):Int):=by
     have:j=0∨j=1:=by omega
     rcases this with rfl|rfl <;> rfl
    have w4:(0:Int)<=((48+j:Nat):Int)/\((48+j:Nat):Int)<128:=by omega
    have hln2:=zbq (zbh (n:=16) (at_:=q0) (s:=s0) (by rw[<-es1];exact f4) j) (q0:Int)
    rw[hsj]at hln2;have w5:((ZA (q0:Int) s.1).getD []).length+(hJ j).length<=QA:=by have:(hJ j).length=1:=rfl;unfold QA;omega
    have w6:[UInt8.ofNat ((48+j:Nat):Int).toNat]=hJ j:=rfl
    simp only[go_sem,hji,↓qn,qn,lq,hs,lp,up,w1,w2,w3,w4,w5,w6];have hh1:(h++OA JD PD (zB (nxt q0 j:Int) ((ZA (q0:Int) s.1).getD []++hJ j) s.1)::R')[h.length+(i'+1)]?=some (.row none (ys.map λn:Nat=>eI n) 0):=by
     rw[List.getElem?_append_right (by omega)];simpa using jg
    have hi':i'<R'.length:=IA jg
    refine zmu hh1 jle (by omega) ?_ ?_
    ·refine⟨(j+1,R'.set i' (.row none (ys.map (λn:Nat=>eI n)++[eI (nxt q0 j)]) 0),i',ys++[nxt q0 j],of'),?_,⟨by dsimp only;omega,⟨?_,?_,?_⟩,?_⟩,by dsimp only;omega⟩
     ·dsimp only
      rw[hvis,List.set_append_right _ _ (by omega)]
      simp only[List.length_append,List.length_cons,List.length_nil,Nat.add_sub_cancel_left,List.set_cons_succ];rw[show ys.length+1-of'=ys.length-of'+1 by omega]
     ·dsimp only
      rw[List.getElem?_set_self hi'];simp
     ·simp;omega
     ·dsimp only
      rw[hvis,List.drop_append_of_le_length jle,jeq]
     ·simp;omega
    ·refine⟨(j+1,R'++[.row none ((ys.drop of').map (λn:Nat=>eI n)++[eI (nxt q0 j)]) 0],R'.length,ys.drop of'++[nxt q0 j],0),?_,⟨by dsimp only;omega,⟨?_,?_,?_⟩,?_⟩,by dsimp only;omega⟩
     ·dsimp only
      rw[hvis];simp
     ·simp
     ·simp
     ·dsimp only
      rw[hvis,jeq,List.drop_zero]
     ·simp;omega
  ·have hj2:j=2:=by omega
   subst hj2;simp only[go_sem];refine⟨(k+1,R',i',ys,of',some q0),?_,⟨by dsimp only;omega,by dsimp only;rw[hbn];exact jq,by dsimp only;omega⟩,by dsimp only;omega⟩
   dsimp only;rw[hbn]
 ·have hk16:k=16:=by omega
  subst hk16;obtain⟨_,hne⟩:=zdN ha;have hz:xs.length-off=0:=by rw[hln,hne];rfl
  have lk:=λ(hp:aA) (hh:hp[h.length]?=some (OA JD PD (bfs a 16).1))=>z8W (b:=(b:Int)) hh
  have hpv:(ZA (b:Int) (bfs a 16).1).getD []=kA a b:=rfl
  rcases oq with _|oq <;> simp only[List.append_nil,List.cons_append,List.nil_append,go_sem,hz,lk,hpv]
end
theorem zeg {s:List UInt8}(k:Nat)(h:GA s=true):GA (s.take k)=true:=by
 unfold GA at *;rw[List.all_eq_true]at *;exact λx hx=>h x (List.mem_of_mem_take hx)
theorem zee {s:List UInt8}{k:Nat}(hk:k<s.length)(h:GA s=true):s[k]=48∨s[k]=49:=by
 unfold GA at h;have:=List.all_eq_true.1 h _ (List.getElem_mem hk);unfold MP at this;simpa [List.contains_cons] using this
section
variable {h:aA} {K:jA}
attribute [-go_sem] FB LB RL SL
attribute [-go_sem] FI
def aftL:List PV:=[eI 1,eI 0,eI 1,eI 2,eI 3,eI 9,eI 4,eI 5,eI 4,eI 5,eI 6,eI 8,eI 6,eI 7,eI 4,eI 8,eI 1,eI 2,eI 10,eI 0,eI 11,eI 12,eI 11,eI 12,eI 13,eI 15,eI 13,eI 14,eI 11,eI 15,eI 1,eI 2]
theorem zk2 {s:Nat}(hs:s<16):FI 16 (some 2) (.p (.agg aftL)) (AI s)=some (.p (.agg [eI (stp s 0),eI (stp s 1)])):=by
 have hs':s=0∨s=1∨s=2∨s=3∨s=4∨s=5∨s=6∨s=7∨s=8∨s=9∨s=10∨s=11∨s=12∨s=13∨s=14∨s=15:=by omega
 rcases hs' with rfl|rfl|rfl|rfl|rfl|rfl|rfl|rfl|rfl|rfl|rfl|rfl|rfl|rfl|rfl|rfl <;> rfl
theorem zk1 {s t:Nat}(ht:t<2):FI 2 none (.p (.agg [eI (stp s 0),eI (stp s 1)])) (AI t)=some (AI (stp s t)):=by
 have ht':t=0∨t=1:=by omega
 rcases ht' with rfl|rfl <;> rfl
theorem zpp (s t:Nat)(hs:s<16)(ht:t<2):bA X OO [AI s,AI t] h K=K (AI (stp s t)) h []:=by
 refine sA ?_;rw[zeB rfl];have g:=zk2 hs
 have g2:=zk1 (s:=s) ht
 unfold aftL at g;simp only[WR,go_sem,g,g2]
abbrev AIs (l:List Nat):AV:=.p (.sl none (l.map λn:Nat=>eI n))
theorem CW (s:Nat)(l:List UInt8)(hs:s<16)(hb:GA l=true)(hl:l.length<=1000000):bA X NO [AI s,AS l] h K=K (AIs (dE s l)) h []:=by
 refine sA ?_;rw[zeA rfl];have hmx:l.length<=LA:=by unfold LA;omega
 simp only[VR,go_sem,hmx];refine bB (λk:Nat=>⟨[(0,AI (oB s (l.take k))),(5,.own h.length k 0 k),(9,.own (h.length+1) l.length 0 l.length),(10,AI l.length),(11,AI k)],h++[.row none ((dE s (l.take k)).map λn:Nat=>eI n) 0,.row none (tA l) 0],[]⟩) (λk=>k<=l.length) (λk=>l.length-k) 0 rfl (by omega) ?_
 intro k hk;rcases Nat.lt_or_ge k l.length with hlt|hge
 ·have g:(tA l)[k]?=some (.int .u8 (l[k].toNat:Int)):=by unfold tA;rw[List.getElem?_map,List.getElem?_eq_getElem hlt];rfl
  have w2:IntKind.i64.wrap ((k:Int)+1)=((k+1:Nat):Int):=BA _ (by omega) (by omega)
  have bt:=zee hlt hb
  have e1:IntKind.u8.wrap ((l[k].toNat:Int)-48)=((l[k].toNat-48:Nat):Int):=by
   rcases bt with e|e <;> rw[e] <;> rfl
  have hsm:l[k].toNat-48<2:=by rcases bt with e|e <;> rw[e] <;> decide
  have e2:IntKind.i64.wrap ((l[k].toNat-48:Nat):Int)=((l[k].toNat-48:Nat):Int):=BA _ (by omega) (by omega)
  have he:=z63 hs (zeg k hb)
  have hlen:((dE s (l.take k)).map λn:Nat=>eI n).length=k:=by simp [wN];omega
  have hmx2:k+1<=LA:=by unfold LA;omega
  have hbl:(tA l).length=l.length:=by simp [tA]
  simp only[go_sem,hlt,g,e1,e2,zpp _ _ he hsm,w2,hlen,hmx2,hbl];refine⟨k+1,?_,by omega,by omega⟩
  rw[List.take_succ_eq_append_getElem hlt,z4e,z64];simp [stW]
 ·have ek:k=l.length:=by omega
  subst ek;have hlen:((dE s l).map λn:Nat=>eI n).length=l.length:=by simp [wN]
  simp only[go_sem,Nat.lt_irrefl,List.take_length,hlen];exact congrArg (λl=>AV.p (.sl none l)) (List.take_of_length_le (by simp [wN]))
def ND (h:aA):Nat->aA
 | 0=>h
 | k+1=>ND h k++[.row none ((aB (k+1)).map PV.str) 0]
theorem z35 (h:aA):∀k,(ND h k).take h.length=h
 | 0=>List.take_length
 | k+1=>by
  have:h.length<=(ND h k).length:=by have:=congrArg List.length (z35 h k);simp at this;omega
  rw[ND,List.take_append_of_le_length this,z35 h k]
theorem z34 (h:aA):∀k,(ND h k).length=h.length+k
 | 0=>rfl
 | k+1=>by rw[ND,List.length_append,z34 h k];rfl
def flS (l:List (List UInt8)):List (List UInt8):=l.flatMap λs=>[s++[48],s++[49]]
theorem zjZ (l:List (List UInt8)):(flS l).length=2*l.length:=by
 unfold flS;induction l with
 | nil=>rfl
 | cons a r ih=>simp [ih];omega
theorem zka (l:List (List UInt8))(s:List UInt8):flS (l++[s])=flS l++[s++[48],s++[49]]:=by simp [flS]
theorem zoJ (k:Nat):aB (k+1)=flS (aB k):=rfl
def rowV (h:aA):Nat->AV
 | 0=>.p (.sl none [.str []])
 | k+1=>.own (h.length+k) (2^(k+1)) 0 (2^(k+1))
theorem zph (a b:Nat)(ha:a<16)(w:List UInt8)(hw:vK a b 9 0=some w):bA X WD [AI a,AI b] h K=K (AS w) h []:=by
 obtain⟨kw,hk8,hfw,hno⟩:=zbn hw;have hit:∀{k i:Nat} {s:List UInt8},k<=kw->(∀x∈(aB k).take i,(oB a x==b)=false)->(aB k)[i]?=some s->(oB a s==b)=true->s=w:=by
  intro k i s hk h1 h2 h3;have:=z1e (p:=λs=>oB a s==b) h1 h2 h3
  rcases Nat.lt_or_ge k kw with h4|h4
  ·rw[hno k h4]at this;cases this
  ·obtain rfl:k=kw:=by omega
   rw[hfw]at this;exact(Option.some.inj this).symm
 have miss:∀{k i:Nat},k<=kw->(∀x∈(aB k).take i,(oB a x==b)=false)->(aB k).length<=i->k+1<=kw:=by
  intro k i hk h1 h2;rcases Nat.lt_or_ge k kw with h4|h4
  ·omega
  ·obtain rfl:k=kw:=by omega
   rw[List.take_of_length_le h2]at h1;rw[zjV (p:=λs=>oB a s==b) h1]at hfw;cases hfw
 refine sA ?_;rw[ze9 rfl];simp only[UR,go_sem];refine bB (λk:Nat=>⟨[(0,AI a),(1,AI b),(5,rowV h k)],ND h k,[]⟩) (λk=>k<=kw) (λk=>kw-k) 0 rfl (by omega) ?_
 intro k hk;have hp2:(2:Nat)^k<=2^8:=Nat.pow_le_pow_right (by omega) (by omega)
 have hp3:(2:Nat)^8=256:=rfl
 cases k with
 | zero=>
  dsimp only[rowV,ND];simp only[go_sem];refine bB (λi:Nat=>⟨[(0,AI a),(1,AI b),(6,.own (h.length+0) (2*i) 0 (2*i)),(12,.p (.sl none [.str []])),(13,AI (2^0:Nat)),(14,AI i)],h++[.row none ((flS ((aB 0).take i)).map PV.str) 0],[]⟩) (λi=>i<=2^0/\∀x∈(aB 0).take i,(oB a x==b)=false) (λi=>2^0-i) 0 rfl ⟨Nat.zero_le _,by simp⟩ ?_
  rintro i ⟨hi,hn⟩
  rcases Nat.lt_or_ge i (2^0) with hlt|hge
  ·have hlt':i<(aB 0).length:=by rw[iK];exact hlt
   have hg:=VB PV.str hlt'
   obtain⟨hbs,hls⟩:=rW (List.getElem_mem hlt');have hgs:(aB 0)[i]?=some (aB 0)[i]:=List.getElem?_eq_getElem hlt'
   have cx:rB none 0 (PV.str (aB 0)[i])=some (PV.str (aB 0)[i]):=rfl
   have w2:IntKind.i64.wrap ((i:Int)+1)=((i+1:Nat):Int):=BA _ (by omega) (by omega)
   have htk:(aB 0).take (i+1)=(aB 0).take i++[(aB 0)[i]]:=List.take_succ_eq_append_getElem hlt'
   generalize hse:(aB 0)[i]=s at *;have hcond:(oB a s==b)=decide ((oB a s:Int)=(b:Int)):=by
    rw[Bool.eq_iff_iff,beq_iff_eq,decide_eq_true_iff];omega
   obtain rfl:s=[]:=List.eq_nil_of_length_eq_zero hls;obtain rfl:i=0:=by simpa using hlt
   have hmx:(2*0)+2<=LA:=by unfold LA;omega
   have hfl:((flS ((aB 0).take 0)).map PV.str).length=2*0:=rfl
   have hgz:[PV.str []][0]?=some (PV.str []):=rfl
   rcases hb:decide ((a:Int)=(b:Int)) with _|_
   ·have hne:¬((a:Int)=(b:Int)):=of_decide_eq_false hb
    have h01:(0:Int)<((2^0:Nat):Int):=by decide
    have w1:IntKind.i64.wrap 1=((1:Nat):Int):=rfl
    have hst:1<=QA:=by decide
    have hmx2:2<=LA:=by decide
    have hf0:(flS []).length=0:=rfl
    simp only[go_sem,hgz,cx,w1,CW a [] ha rfl (Nat.zero_le _),dE,hne,h01,hst,hf0,hmx2];refine⟨1,rfl,⟨Nat.le_refl _,?_⟩,by decide⟩
    intro x hx;obtain rfl:x=[]:=by simpa [aB] using hx
    exact decide_eq_false (λe=>hne (congrArg Nat.cast e))
   ·have heq:(a:Int)=(b:Int):=of_decide_eq_true hb
    have h01:(0:Int)<((2^0:Nat):Int):=by decide
    simp only[go_sem,hgz,cx,CW a [] ha rfl (Nat.zero_le _),dE,eq_true heq,h01];exact congrArg AS (hit (k:=0) (i:=0) (s:=[]) hk hn rfl (by rw[hcond];exact hb))
  ·obtain rfl:i=1:=by omega
   have h11:¬((1:Int)<((2^0:Nat):Int)):=by decide
   have c1:((1:Nat):Int)=1:=rfl
   simp only[go_sem,c1,h11];exact⟨1,rfl,miss (k:=0) (i:=1) hk hn (by simp [aB]),by have:=miss (k:=0) (i:=1) hk hn (by simp [aB]);omega⟩
 | succ k=>
  dsimp only[rowV,ND];have hlen:(ND h k).length=h.length+k:=z34 h k
  rw[<-hlen];simp only[go_sem];refine bB (λi:Nat=>⟨[(0,AI a),(1,AI b),(6,.own ((ND h k).length+1) (2*i) 0 (2*i)),(12,.own (ND h k).length (2^(k+1)) 0 (2^(k+1))),(13,AI (2^(k+1):Nat)),(14,AI i)],(ND h k)++[.row none ((aB (k+1)).map PV.str) 0,.row none ((flS ((aB (k+1)).take i)).map PV.str) 0],[]⟩) (λi=>i<=2^(k+1)/\∀x∈(aB (k+1)).take i,(oB a x==b)=false) (λi=>2^(k+1)-i) 0 rfl ⟨Nat.zero_le _,by simp⟩ ?_
  rintro i ⟨hi,hn⟩
  rcases Nat.lt_or_ge i (2^(k+1)) with hlt|hge
  ·have hlt':i<(aB (k+1)).length:=by rw[iK];exact hlt
   have hg:=VB PV.str hlt'
   obtain⟨hbs,hls⟩:=rW (List.getElem_mem hlt');have hgs:(aB (k+1))[i]?=some (aB (k+1))[i]:=List.getElem?_eq_getElem hlt'
   have cx:rB none 0 (PV.str (aB (k+1))[i])=some (PV.str (aB (k+1))[i]):=rfl
   have w2:IntKind.i64.wrap ((i:Int)+1)=((i+1:Nat):Int):=BA _ (by omega) (by omega)
   have htk:(aB (k+1)).take (i+1)=(aB (k+1)).take i++[(aB (k+1))[i]]:=List.take_succ_eq_append_getElem hlt'
   generalize hse:(aB (k+1))[i]=s at *;have hcond:(oB a s==b)=decide ((oB a s:Int)=(b:Int)):=by
    rw[Bool.eq_iff_iff,beq_iff_eq,decide_eq_true_iff];omega
   have hwl:((dE a s).map λn:Nat=>eI n).length=k+1:=by simp [wN,hls]
   have hwg:((dE a s).map λn:Nat=>eI n)[k]?=some (eI (oB a s)):=by
    have:=zr3 a s (by omega)
    rw[hls,Nat.add_sub_cancel]at this;rw[List.getElem?_map,this];rfl
   have hpos:(0:Int)<((k+1:Nat):Int):=by omega
   have w3:IntKind.i64.wrap (((k+1:Nat):Int)-1)=(k:Int):=by
    rw[show((k+1:Nat):Int)-1=(k:Int) by omega];exact BA _ (by omega) (by omega)
   have hmx:(2*i)+2<=LA:=by unfold LA;omega
   have hfl:((flS ((aB (k+1)).take i)).map PV.str).length=2*i:=by simp [zjZ,List.length_take,iK];omega
   have hrl:(aB (k+1)).length=2^(k+1):=iK _
   have hst:s.length+1<=QA:=by rw[hls];unfold QA;omega
   rcases hb:decide ((oB a s:Int)=(b:Int)) with _|_
   ·have hne:¬((oB a s:Int)=(b:Int)):=of_decide_eq_false hb
    simp only[go_sem,hlt,hg,cx,w2,CW a s ha hbs (by omega),hwl,hwg,hpos,w3,hfl,hmx,hne,hrl,hst]
    refine⟨i+1,?_,⟨by omega,?_⟩,by omega⟩
    ·rw[htk,zka,List.map_append];rfl
    ·intro x hx
     rw[htk]at hx;rcases List.mem_append.1 hx with hx|hx
     ·exact hn x hx
     ·obtain rfl:x=s:=by simpa using hx
      rw[hcond];exact hb
   ·have heq:(oB a s:Int)=(b:Int):=of_decide_eq_true hb
    simp only[go_sem,hlt,hg,cx,w2,CW a s ha hbs (by omega),hwl,hwg,hpos,w3,eq_true heq,hrl]
    exact⟨congrArg AS (hit hk hn hgs (by rw[hcond];exact hb)),by rw[List.take_append_of_le_length (by rw[z34];omega),z35]⟩
  ·obtain rfl:i=2^(k+1):=by omega
   have hm:=miss hk hn (by rw[iK];exact Nat.le_refl _)
   simp only[go_sem,Int.lt_irrefl];have e1:2*2^(k+1)=2^(k+1+1):=by rw[Nat.pow_succ 2 (k+1)];omega
   have e2:(aB (k+1)).take (2^(k+1))=aB (k+1):=List.take_of_length_le (by rw[iK];exact Nat.le_refl _)
   have e3:ND h k++[Obj.row none ((aB (k+1)).map PV.str) 0,Obj.row none ((flS (aB (k+1))).map PV.str) 0]=ND h (k+1+1):=by
    rw[<-zoJ,ND,ND,List.append_assoc];rfl
   refine⟨k+2,?_,hm,by omega⟩
   rw[e1,e2,e3,hlen];rfl
theorem zr6:(frS.all λa=>toS.all λb=>decide (vK a b 9 0=some (kA a b)))=true:=by kernel_rfl
theorem zbp {a b:Nat}(ha:a∈frS)(hb:b∈toS):vK a b 9 0=some (kA a b):=
 of_decide_eq_true (List.all_eq_true.1 (List.all_eq_true.1 zr6 a ha) b hb)
theorem z8a {a:Nat}(ha:a∈frS):a<16:=of_decide_eq_true (List.all_eq_true.1 (show(frS.all λa=>decide (a<16))=true from rfl) a ha)
theorem QB {a b:Nat}(ha:a∈frS)(hb:b∈toS):GA (kA a b)=true/\(kA a b).length<=8/\oB a (kA a b)=b:=by
 obtain⟨kw,h1,h2,_⟩:=zbn (zbp ha hb);have hm:=rW (List.mem_of_find?_eq_some h2)
 have he:=List.find?_some h2
 exact⟨hm.1,by omega,by simpa using he⟩
theorem DW {a b:Nat}(ha:a∈frS)(hb:b∈toS):bA X WD [AI a,AI b] h K=K (AS (kA a b)) h []:=zph a b (z8a ha) _ (zbp ha hb)
theorem zax {n:Nat}(hn:n<16):bA X CJ [AI n] h K=K (AB true) h []:=by
 refine sA ?_;have h1:(0:Int)<=n:=by omega
 have h2:(n:Int)<=15:=by omega
 have h3:¬((n:Int)<0):=by omega
 have h4:¬((n:Int)>15):=by omega
 rw[zfs rfl];simp only[OS,go_sem,BC,h3,h4]
theorem zpg {a b:Nat}(ha:a<16)(hb:b<16):bA X vL [AI a,AI b] h K=K (.tup [AS (kA a b),AI 0]) h []:=by
 refine sA ?_;rw[zfm rfl];simp only[IS,go_sem,zax ha,zax hb,z81 zbx zbw a b ha hb]
theorem zbg:(frS.all λa=>toS.all λb=>decide ((iC a (kA a b)).count 11=0)&&decide ((iC a (kA a b)).count 4=0))=true:=by kernel_rfl
theorem GV:PathOk kA where
 bits a ha b hb:=(QB ha hb).1
 len a ha b hb:=(QB ha hb).2.1
 ends a ha b hb:=(QB ha hb).2.2
 no11 a ha b hb:=by
  have:=List.all_eq_true.1 (List.all_eq_true.1 zbg a ha) b hb;simp only[Bool.and_eq_true,decide_eq_true_eq]at this;exact this.1
 no4 a ha b hb:=by
  have:=List.all_eq_true.1 (List.all_eq_true.1 zbg a ha) b hb;simp only[Bool.and_eq_true,decide_eq_true_eq]at this;exact this.2
end
section
variable {h:aA} {K:jA}
theorem zqo {l:List Int}:KF none (l.map eI):=λx hx=>by obtain⟨n,_,rfl⟩:=List.mem_map.1 hx;rfl
end
section
attribute [-go_sem] PV.cells splice
variable {h:aA} {K:jA}
end
section
attribute [-go_sem] PV.cells
variable {h:aA} {K:jA}
end
section
variable {h:aA} {K:jA}
structure Lim where
 key:List UInt8
 lo:Int
 hi:Int
 bin:Int
def Lim.pv (x:Lim):PV:=.agg [.str x.key,eI x.lo,eI x.hi,eI x.bin]
end
section
variable {h:aA} {K:jA}
end
section
variable {h:aA} {K:jA}
structure Meas (l:List Int):Prop where
 len:l.length<=5000
 bd:∀n∈l,-100000<=n/\n<=100000
theorem Meas.sum {l:List Int}(hm:Meas l)(k:Nat) : -500000000<=(l.take k).sum/\(l.take k).sum<=500000000:=by
 have:=zqM hm.bd hm.len (by omega) k
 omega
end
section
variable {h:aA} {K:jA}
theorem zo6 {b:Nat}{P:jA}{vs:List AV}{h:aA}:bE true b P (some vs) h []=P (XA vs) (h.take (max b (XA vs).top)) []:=by
 simp [bE,vB,xB]
attribute [go_sem] zo6
structure Rec where
 unit:List UInt8
 time:Int
 site:List UInt8
 res:List Int
def Rec.pv (r:Rec):PV:=.agg [.str r.unit,eI r.time,.str r.site,.sl none (r.res.map eI)]
end
section
variable {L:List Int} {a:Int}
theorem z8x (hp:jB 14 a)(u v:Int)(huv:u<=v)(hu : -1000000000000<=u)(hv:v<=1000000000000):∃k a2:Int,a<=a2/\a2<=a+2 /\ -1099511627776<=k/\k<=1099511627776 /\
 Gen oI [AI u,AI v] L a a2 (AI k):=by
 have w1:IntKind.i64.wrap (u-1)=u-1:=BA _ (by omega) (by omega)
 have w2:IntKind.i64.wrap (v+1)=v+1:=BA _ (by omega) (by omega)
 by_cases hf:CB L a 12=0
 ·have hm:=JV (L:=L) (a:=a+1) (l:=[u-1,v+1,u,v,-1099511627776,1099511627776]) (by simp) (by simp)
  simp only[List.mem_cons,List.not_mem_nil,or_false]at hm;refine⟨GC [u-1,v+1,u,v,-1099511627776,1099511627776] L (a+1),a+1+1,by omega,by omega,by omega,by omega,Gen.of λh id hid=>?_⟩
  rw[z5w rfl];simp only[SN,go_sem,hid,PM hp,hf,w1,w2]
 ·have hm:=SV L (a+1) huv (by omega)
  refine⟨kG u v L (a+1),a+1+1,by omega,by omega,by omega,by omega,Gen.of λh id hid=>?_⟩
  rw[z5w rfl];simp only[SN,go_sem,hid,PM hp,hf,w1,w2,huv,show -1152921504606846976<=u by omega,show v<=1152921504606846976 by omega]
end
section
variable {L:List Int} {a:Int} {h l:aA} {id:Nat} {K:jA}
def isS:PV->Bool
 | .str _=>true
 | _=>false
def unS:PV->List UInt8
 | .str s=>s
 | _=>[]
def LD (l:List (List UInt8))(L:List Int)(a:Int):List UInt8:=l.getD (CB L a l.length).toNat []
theorem nQ {l:List (List UInt8)}{L:List Int}{a:Int}(hl:0<l.length)(hl2:l.length<4611686018427387904):LD l L a∈l:=by
 obtain⟨b1,b2⟩:=MJ L a l.length (by omega) (by omega)
 unfold LD;have:(CB L a l.length).toNat<l.length:=by omega
 simp only[List.getD,List.getElem?_eq_getElem this,Option.getD_some];exact List.getElem_mem _
theorem zrs {xs:List PV}(h:xs.all isS=true):xs=(xs.map unS).map PV.str:=by
 induction xs with
 | nil=>rfl
 | cons x r ih=>
  simp only[List.all_cons,Bool.and_eq_true]at h;simp only[List.map_cons];rw[<-ih h.2];cases x <;> first|rfl|cases h.1
theorem z80 (hp:jB 0 a)(xs:List PV)(hx:xs.all isS=true)(hl:0<xs.length)(hl2:xs.length<4611686018427387904) :
 Gen HE [.p (.sl none xs)] L a (a+1) (AS (LD (xs.map unS) L a)):=by
 refine Gen.of λh id hid=>?_
 rw[ze7 rfl];obtain⟨b1,b2⟩:=MJ L a xs.length (by omega) (by omega)
 have e4:=z10 (k:=.i64) b1
 have e5:xs[(CB L a xs.length).toNat]?=some (.str (LD (xs.map unS) L a)):=by
  have hm:=zrs hx
  generalize hq:xs.map unS=q at *;subst hm;simp only[List.length_map]at *;rw[VB PV.str (show(CB L a q.length).toNat<q.length by omega)]
  simp [LD,List.getD,show(CB L a q.length).toNat<q.length by omega]
 simp only[QR,go_sem,kN hid hp,e4,e5]
theorem zau (hid:id<h.length)(hp:jB 0 a){xs:List PV}(hx:xs.all isS=true)(hl:0<xs.length)(hl2:xs.length<4611686018427387904) :
 bA X HE [.ref id 0,.p (.sl none xs)] (h.set id (uA L a)) K=K (AS (LD (xs.map unS) L a)) (h.set id (uA L (a+1))) []:=(z80 hp xs hx hl hl2).set hid
theorem zat (hid:id<h.length)(hp:jB 0 a){xs:List PV}(hx:xs.all isS=true)(hl:0<xs.length)(hl2:xs.length<4611686018427387904) :
 bA X HE [.ref id 0,.p (.sl none xs)] (h.set id (uA L a)++l) K=K (AS (LD (xs.map unS) L a)) (h.set id (uA L (a+1))++l) []:=(z80 hp xs hx hl hl2).app hid
attribute [go_sem ↓] zau zat
attribute [go_sem] zau zat isS unS
end
section
variable {L:List Int} {a:Int} {h l:aA} {id:Nat} {K:jA}
end
section
variable {h:aA} {K:jA}
def orL:List Int->Int
 | []=>0
 | x::r=>if x≠0 then x else orL r
end
section
attribute [-go_sem] PV.cells splice
variable {h:aA} {K:jA}
end
section
attribute [-go_sem] PV.cells splice
variable {h:aA} {K:jA}
end
section
variable {L:List Int} {a:Int} {h l:aA} {id:Nat} {K:jA}
theorem z5G {b:Nat}{x:Esc}(hx:∀ y∈x,b<=y.1):∀k,vB k x b=b:=by
 have hb:PC x b=b:=by
  unfold PC;induction x with
  | nil=>rfl
  | cons y r ih=>
   simp only[List.foldl_cons];rw[if_neg (by have:=hx y (by simp);omega)]
   exact ih (λz hz=>hx z (by simp [hz]))
 intro k;induction k with
 | zero=>rfl
 | succ k ih=>unfold vB;rw[hb,ih]
theorem tN {b:Nat}{x0 x:Esc}{e:List (Nat × AV)}{h:aA}(hx:∀ y∈x,b<=y.1):mD b x0 ⟨e,h,x⟩=⟨yE b e,h.take b,x0⟩:=by
 unfold mD;simp only[z5G hx];have hc:xB x b=true:=by
  unfold xB;rw[List.all_eq_true];intro y hy;simp [hx y hy]
 have hf:x.filter (λy=>decide (y.1<b))=[]:=by
  rw[List.filter_eq_nil_iff];intro y hy;have:=hx y hy;simp;omega
 rw[if_pos hc,hf,List.nil_append]
theorem zrp {b i t:Nat}{x0:Esc}{e:List (Nat × AV)}{h:aA}(hi:i<b):mD b x0 ⟨e,h,[(i,t)]⟩=⟨yE (max b t) e,h.take (max b t),(i,t)::x0⟩:=by
 unfold mD;have hb:vB [(i,t)].length [(i,t)] b=max b t:=by simp [vB,PC,hi]
 simp only[hb];have hc:xB [(i,t)] (max b t)=true:=by simp [xB];omega
 have hf:[(i,t)].filter (λy=>decide (y.1<max b t))=[(i,t)]:=by simp;omega
 rw[if_pos hc,hf];rfl
end
section
variable {α:Type}
structure Ordr (c:α->α->Int):Prop where
 neg:∀a b,c b a = - c a b
 trans:∀a b d,c a b<=0->c b d<=0->c a d<=0
theorem Ordr.refl {c:α->α->Int}(o:Ordr c)(a:α):c a a=0:=by have:=o.neg a a;omega
variable {c:α->α->Int} {q:α->α->Bool} {a b:List α}
end
section
variable {h:aA} {K:jA}
def z3O (a b:Rec):Bool:=decide (a.unit=b.unit)&&(decide (a.time=b.time)&&(decide (a.site=b.site)&&decide (a.res=b.res)))
theorem zpQ (a b:Rec):z3O a b=true↔a=b:=by
 cases a;cases b
 simp [z3O]
theorem zo7 {b:Nat}{P:jA}{vs:List AV}{h:aA}{x:Esc}(hx:∀ y∈x,b<=y.1){v:AV}(h1:VA b h (XA vs)=some v)(h2:v.top<=b):bE false b P (some vs) h x=P v (h.take b) []:=by
 have e:max b v.top=b:=by omega
 have c:xB x b=true:=by
  unfold xB;rw[List.all_eq_true];intro y hy;simp [hx y hy]
 have f:x.filter (λy=>decide (y.1<b))=[]:=by
  rw[List.filter_eq_nil_iff];intro y hy;have:=hx y hy;simp;omega
 simp only[bE,h1,e,z5G hx,c,if_true,f];exact propext ⟨λh=>h.2,λh=>⟨h2,h⟩⟩
theorem zaj (l:List Int)(hl:l.length<=1000):bA X kI [AL l] h K=K (AI (orL l)) h []:=by
 refine sA ?_;rw[zes rfl];simp only[DR,go_sem];refine bB (λk:Nat=>⟨[(5,AL l),(6,AI l.length),(7,AI k)],h,[]⟩) (λk=>k<=l.length/\orL (l.drop k)=orL l) (λk=>l.length-k) 0 rfl ⟨by omega,rfl⟩ ?_
 rintro k ⟨hk,hp⟩
 rcases Nat.lt_or_ge k l.length with hlt|hge
 ·have g2:=VB eI hlt
  have w2:IntKind.i64.wrap ((k:Int)+1)=((k+1:Nat):Int):=BA _ (by omega) (by omega)
  rw[List.drop_eq_getElem_cons hlt,orL]at hp;by_cases hz:l[k]=0
  ·rw[if_neg (by simp [hz])]at hp
   simp only[go_sem,hlt,g2,hz,w2];exact⟨k+1,rfl,⟨by omega,hp⟩,by omega⟩
  ·rw[if_pos hz]at hp
   simp only[go_sem,hlt,g2,hz];rw[hp]
 ·have ek:k=l.length:=by omega
  subst ek;rw[List.drop_length]at hp;simp only[go_sem,Nat.lt_irrefl];rw[<-hp];rfl
end
section
attribute [-go_sem] PV.cells splice
variable {h:aA} {K:jA}
end
section
variable {h:aA} {K:jA}
end
section
variable {h:aA} {K:jA}
instance:DecidableEq Rec:=λa b=>decidable_of_iff (z3O a b=true) (zpQ a b)
end
section
variable {h:aA} {K:jA}
end
section
variable {h:aA} {K:jA}
end
section
variable {h:aA} {K:jA}
theorem zpn (s cs:List UInt8)(hs:s.length<=1000000)(hc:cs.length<=1000)(ha:cs.all (λb=>decide (b.toNat<128))=true):bA X kP [AS s,AS cs] h K=K (AS (EQ s cs)) h []:=by
 refine RT (X:=X) (by kernel_rfl) ?_
 first|rw[show X.ex2=KE GRL PRL from rfl]|skip
 show KE GRL PRL kP [AS s,AS cs] h=some (AS (EQ s cs),h,[])
 exact z1r (vs:=[.str s,.str cs]) (by kernel_rfl) (s:=trimS) (by kernel_rfl) rfl (by simp only[trimS];rw[if_pos ⟨hs,hc,ha⟩])
theorem lK (s:List UInt8)(hs:s.length<=1000000):bA X GE [AS s] h K=K (AB (GA s)) h []:=by
 refine sA ?_;rw[zer rfl];have e:=λh K=>zpn (h:=h) (K:=K) s [48,49] hs (by simp) (by decide)
 have b:decide (EQ s [48,49]=[])=GA s:=zrl s
 simp only[BR,go_sem,e,b]
theorem BW (s:List UInt8)(hs:s.length<=1000000):bA X gH [AS s] h K=K (AB (GA s)) h []:=by
 refine sA ?_;rw[zeD rfl];have e:=λh K=>zpy (h:=h) (K:=K) s [48,49] (by omega)
 have b:(s.all λc=>[48,49].contains c)=GA s:=rfl
 simp only[XR,go_sem,e,b]
end
section
variable {h:aA} {K:jA}
def Flt.pv (f:Flt):PV:=.agg [eI f.kind,.sl none (f.nets.map eI)]
theorem zbW {v:AV}(l:List Int)(hv:Shows none v (l.map eI) h)(x:Int)(hl:l.length<=1000000):bA X uL [v,AI x] h K=K (AI (if l.findIdx (λy=>decide (y=x))<l.length then(l.findIdx (λy=>decide (y=x)):Int) else -1)) h []:=by
 refine sA ?_;rw[zfb];have vl:=hv.len
 rw[List.length_map]at vl;simp only[yS,go_sem,vl];refine bB (λk:Nat=>⟨[(0,v),(1,AI x),(7,AI l.length),(8,AI k)],h,[]⟩) (λk=>k<=l.length/\∀y∈l.take k,decide (y=x)=false) (λk=>l.length-k) 0 rfl (by simp) ?_
 rintro k ⟨hk,hn⟩
 rcases Nat.lt_or_ge k l.length with hlt|hge
 ·obtain⟨a,ha,hb⟩:=hv.get k (by simpa using hlt)
  rw[List.getElem_map]at hb;have w2:IntKind.i64.wrap ((k:Int)+1)=((k+1:Nat):Int):=BA _ (by omega) (by omega)
  by_cases hpk:x=l[k]
  ·have hf:l.findIdx (λy=>decide (y=x))=k:=by
    rw[List.findIdx_eq hlt];refine⟨by simp [hpk],λj hj=>?_⟩
    have:=hn l[j] (by rw[List.mem_take_iff_getElem];exact⟨j,by omega,rfl⟩)
    simpa using this
   simp only[go_sem,hlt,ha,hb,hpk.symm,w2];simp only[hf,hlt,if_true]
  ·simp only[go_sem,hlt,ha,hb,hpk,w2]
   refine⟨k+1,rfl,⟨by omega,λy hy=>?_⟩,by omega⟩
   rw[List.take_succ_eq_append_getElem hlt,List.mem_append,List.mem_singleton]at hy;rcases hy with hy|hy
   ·exact hn y hy
   ·rw[hy];simp;exact λe=>hpk e.symm
 ·have e1:k=l.length:=by omega
  subst e1;simp only[go_sem,Nat.lt_irrefl];rw[List.take_length]at hn;have:¬l.findIdx (λy=>decide (y=x))<l.length:=by
   rw[Nat.not_lt,Nat.le_iff_lt_or_eq];right
   exact(List.findIdx_eq_length.2 (λy hy=>by simp [hn y hy])).symm
  rw[if_neg this]
theorem zbI {v:AV}(l:List Int)(hv:∀ h':aA,h'=h->Shows none v (l.map eI) h')(x:Int)(hl:l.length<=1000000):bA X jH [v,AI x] h K=K (AB (l.contains x)) h []:=by
 refine sA ?_;rw[zeT];have e:=λK=>zbW (h:=h) (K:=K) l (hv h rfl) x hl
 have hd:decide (0<=(if l.findIdx (λy=>decide (y=x))<l.length then(l.findIdx (λy=>decide (y=x)):Int) else -1))=l.contains x:=by
  rw[Bool.eq_iff_iff,decide_eq_true_eq,List.contains_iff_mem];constructor
  ·intro hq
   split at hq
   ·rename_i hlt
    have:=List.findIdx_getElem (w:=hlt);simp only[decide_eq_true_eq]at this;exact this ▸ List.getElem_mem hlt
   ·omega
  ·intro hm
   rw[if_pos (List.findIdx_lt_length_of_exists ⟨x,hm,by simp⟩)];omega
 simp only[nS,go_sem,e,hd]
theorem zoZ (l:List Int)(x:Int)(hl:l.length<=1000000):bA X jH [AL l,AI x] h K=K (AB (l.contains x)) h []:=zbI l (λh' _=>SI zqo) x hl
end
section
variable {h:aA} {K:jA}
abbrev xA (c:Cmd):PV:=.agg [.int .i64 c.k,.int .i64 c.s,.int .i64 c.cl,.str c.b,.str c.w,.str c.m]
abbrev ACm (c:Cmd):AV:=.p (xA c)
structure CmdOk (c:Cmd):Prop where
 b:c.b.length<=100000
 w:c.w.length<=100000
 m:c.m.length<=100000
theorem z3L (n:Int):bA X DL [AI n] h K=K (AB (JB n)) h []:=by
 refine sA ?_;rw[zfF rfl];unfold JB;by_cases h0:n=0
 ·subst h0;simp only[ZH,go_sem]
 by_cases h1:n=1
 ·subst h1;simp only[ZH,go_sem]
 by_cases h2:n=6
 ·subst h2;simp only[ZH,go_sem]
 by_cases h3:n=13
 ·subst h3;simp only[ZH,go_sem]
 have e:(n==0||n==1||n==6||n==13)=false:=by simp [h0,h1,h2,h3]
 rw[e];simp only[ZH,go_sem,h0,h1,h2,h3]
theorem za5 (n:Int):bA X sL [AI n] h K=K (AB (JB n)) h []:=by
 refine sA ?_;rw[zeM rfl];have e:([0,1,6,13]:List Int).contains n=JB n:=by
  unfold JB;simp only[List.contains_cons,List.contains_nil,Bool.or_false,Bool.or_assoc]
 have k:∀(h':aA) (K':jA),bA X jH [.p (.sl none [eI 0,eI 1,eI 6,eI 13]),AI n] h' K'=K' (AB (([0,1,6,13]:List Int).contains n)) h' []:=λh' K'=>zoZ (h:=h') (K:=K') [0,1,6,13] n (by decide)
 simp only[eS,go_sem,k,e]
theorem pF (n:Int):bA X bG [AI n] h K=K (AB (decide (n=7)||decide (n=8))) h []:=by
 refine sA ?_;rw[zf4 rfl];by_cases h0:n=7
 ·subst h0;simp only[TK,go_sem]
 by_cases h1:n=8
 ·subst h1;simp only[TK,go_sem]
 simp only[TK,go_sem,h0,h1]
theorem MG (n:Int):bA X rI [AI n] h K=K (AB (decide (1<=n)&&decide (n<=6))) h []:=by
 refine sA ?_;rw[zf5 rfl];by_cases h0:n<1
 ·have:¬(1<=n):=by omega
  simp only[UK,go_sem,BC,h0,this]
 ·have:1<=n:=by omega
  by_cases h1:6<n
  ·have h2:¬(n<=6):=by omega
   simp only[UK,go_sem,BC,h0,this,h1,h2]
  ·have h2:n<=6:=by omega
   simp only[UK,go_sem,BC,h0,this,h1,h2]
theorem zpB (c:Cmd)(hc:CmdOk c):bA X CL [ACm c] h K=K (AI (IC c:Nat)) h []:=by
 refine sA ?_;rw[zfC rfl];have b1:=hc.b;have b2:=hc.w;have b3:=hc.m
 have k1:=λ(h':aA) (K':jA)=>lK (h:=h') (K:=K') c.b (show c.b.length<=1000000 by omega)
 have k2:=λ(h':aA) (K':jA)=>lK (h:=h') (K:=K') c.w (show c.w.length<=1000000 by omega)
 have k3:=λ(h':aA) (K':jA)=>lK (h:=h') (K:=K') c.m (show c.m.length<=1000000 by omega)
 obtain⟨k,s,cl,b,w,m⟩:=c;simp only at b1 b2 b3 k1 k2 k3;have h0:=k1;have h0':=k2;have h0'':=k3
 unfold IC;by_cases h1:b=[]
 ·simp only[EE,go_sem,h1]
 rcases hb:GA b with _|_
 ·simp only[EE,go_sem,h1,k1,hb]
 by_cases h2:2000<b.length
 ·have h2':(2000:Int)<(b.length:Int):=by omega
  simp only[EE,go_sem,h1,k1,hb,h2,h2']
 have h2':¬(2000:Int)<(b.length:Int):=by omega
 by_cases h3:w=[]
 ·subst h3
  have hbn:GA []=true:=rfl
  rcases hm:GA m with _|_
  ·simp only[EE,go_sem,h1,k1,hb,h2,h2',k2,hbn,k3,hm]
  ·by_cases h4:m=[]
   ·subst h4
    simp only[EE,go_sem,h1,k1,hb,h2,h2',k2,hbn]
   ·simp only[EE,go_sem,h1,k1,hb,h2,h2',k2,hbn,k3,hm,h4]
 by_cases h4:w.length=b.length
 ·have h4':(w.length:Int)=(b.length:Int):=by omega
  by_cases h5:m.length=b.length
  ·have h5':(m.length:Int)=(b.length:Int):=by omega
   rcases hw:GA w with _|_
   ·simp only[EE,go_sem,h1,k1,hb,h2',h3,h4',h5',k2,hw]
    simp [h1,hb,h2,h3,h4,h5,hw]
   ·rcases hm:GA m with _|_
    ·simp only[EE,go_sem,h1,k1,hb,h2',h3,h4',h5',k2,hw,k3,hm]
     simp [h1,hb,h2,h3,h4,h5,hw,hm]
    ·simp only[EE,go_sem,h1,k1,hb,h2',h3,h4',h5',k2,hw,k3,hm]
     simp [h1,hb,h2,h3,h4,h5,hw,hm]
  ·have h5':¬(m.length:Int)=(b.length:Int):=by omega
   simp only[EE,go_sem,h1,k1,hb,h2',h3,h4',h5'];simp [h1,hb,h2,h3,h4,h5]
 ·have h4':¬(w.length:Int)=(b.length:Int):=by omega
  simp only[EE,go_sem,h1,k1,hb,h2',h3,h4'];simp [h1,hb,h2,h3,h4]
theorem zpC (c:Cmd)(hc:CmdOk c):bA X rL [ACm c] h K=K (AI (IC c:Nat)) h []:=by
 refine sA ?_;rw[zeL rfl];have b1:=hc.b;have b2:=hc.w;have b3:=hc.m
 have k1:=λ(h':aA) (K':jA)=>BW (h:=h') (K:=K') c.b (show c.b.length<=1000000 by omega)
 have k2:=λ(h':aA) (K':jA)=>BW (h:=h') (K:=K') c.w (show c.w.length<=1000000 by omega)
 have k3:=λ(h':aA) (K':jA)=>BW (h:=h') (K:=K') c.m (show c.m.length<=1000000 by omega)
 obtain⟨k,s,cl,b,w,m⟩:=c;simp only at b1 b2 b3 k1 k2 k3;have h0:=k1;have h0':=k2;have h0'':=k3
 unfold IC;by_cases h1:b=[]
 ·simp only[AE,go_sem,h1]
 rcases hb:GA b with _|_
 ·simp only[AE,go_sem,h1,k1,hb]
 by_cases h2:2000<b.length
 ·have h2':(2000:Int)<(b.length:Int):=by omega
  simp only[AE,go_sem,h1,k1,hb,h2,h2']
 have h2':¬(2000:Int)<(b.length:Int):=by omega
 by_cases h3:w=[]
 ·subst h3
  have hbn:GA []=true:=rfl
  rcases hm:GA m with _|_
  ·simp only[AE,go_sem,h1,k1,hb,h2,h2',k2,hbn,k3,hm]
  ·by_cases h4:m=[]
   ·subst h4
    simp only[AE,go_sem,h1,k1,hb,h2,h2',k2,hbn]
   ·simp only[AE,go_sem,h1,k1,hb,h2,h2',k2,hbn,k3,hm,h4]
 by_cases h4:w.length=b.length
 ·have h4':(w.length:Int)=(b.length:Int):=by omega
  by_cases h5:m.length=b.length
  ·have h5':(m.length:Int)=(b.length:Int):=by omega
   rcases hw:GA w with _|_
   ·simp only[AE,go_sem,h1,k1,hb,h2',h3,h4',h5',k2,hw]
    simp [h1,hb,h2,h3,h4,h5,hw]
   ·rcases hm:GA m with _|_
    ·simp only[AE,go_sem,h1,k1,hb,h2',h3,h4',h5',k2,hw,k3,hm]
     simp [h1,hb,h2,h3,h4,h5,hw,hm]
    ·simp only[AE,go_sem,h1,k1,hb,h2',h3,h4',h5',k2,hw,k3,hm]
     simp [h1,hb,h2,h3,h4,h5,hw,hm]
  ·have h5':¬(m.length:Int)=(b.length:Int):=by omega
   simp only[AE,go_sem,h1,k1,hb,h2',h3,h4',h5'];simp [h1,hb,h2,h3,h4,h5]
 ·have h4':¬(w.length:Int)=(b.length:Int):=by omega
  simp only[AE,go_sem,h1,k1,hb,h2',h3,h4'];simp [h1,hb,h2,h3,h4]
end
section
variable {h:aA} {K:jA}
theorem eqs6 {k s cl k' s' cl':Int}{b w m b' w' m':List UInt8}:eqs [.int .i64 k,.int .i64 s,.int .i64 cl,.str b,.str w,.str m] [.int .i64 k',.int .i64 s',.int .i64 cl',.str b',.str w',.str m']=some (decide ((⟨k,s,cl,b,w,m⟩:Cmd)=⟨k',s',cl',b',w',m'⟩)):=by
 by_cases e1:k=k' <;> by_cases e2:s=s' <;> by_cases e3:cl=cl' <;> by_cases e4:b=b' <;> by_cases e5:w=w' <;> by_cases e6:m=m' <;> simp [eqs,PV.eq1,e1,e2,e3,e4,e5,e6]
def IL (c:Cmd):Nat:=
 if c.k=1∨c.k=2∨c.k=10 then(if !JB c.s then 1 else 0)
 else if c.k=9 then(if c.cl<0∨20000<c.cl then 1 else 0)
 else if c.k=7∨c.k=8 then IC c
 else(if !GA c.b then 9 else if 2000<c.b.length then 2 else 0)
def DN (c:Cmd):Cmd:=
 if c.k=1∨c.k=2∨c.k=10 then { c with s:=0 }
 else if c.k=9 then { c with cl:=0 }
 else if c.k=7∨c.k=8 then { c with b:=[],w:=[],m:=[] }
 else { c with b:=[] }
theorem zge {c:Cmd}(h:1<=c.k/\c.k<=10):MA c=if IL c≠0 then IL c else if DN c=⟨c.k,0,0,[],[],[]⟩ then 0 else 3:=by
 obtain⟨k,s,cl,b,w,m⟩:=c;unfold MA IL DN;dsimp only at h ⊢;by_cases h1:k=1∨k=2∨k=10
 ·simp only[if_pos h1]
  rcases JB s with _|_ <;> simp [Cmd.mk.injEq]
 simp only[if_neg h1];by_cases h2:k=9
 ·simp only[if_pos h2]
  by_cases h3:cl<0∨20000<cl <;> simp [h3,Cmd.mk.injEq]
 simp only[if_neg h2];by_cases h3:k=7∨k=8
 ·simp only[if_pos h3]
  by_cases h4:IC ⟨k,s,cl,b,w,m⟩=0 <;> simp [h4,Cmd.mk.injEq]
 simp only[if_neg h3];rw[if_pos (by omega)]
 rcases GA b with _|_
 ·simp
 ·by_cases h4:2000<b.length <;> simp [h4,Cmd.mk.injEq]
theorem z5I {c:Cmd}(h:¬ (1<=c.k/\c.k<=10)):MA c=4:=by
 unfold MA;rw[if_neg (by omega),if_neg (by omega),if_neg (by omega),if_neg (by omega)]
theorem uD (n:Nat):n+1+1=n+2:=rfl
theorem zpx (c:Cmd)(hc:CmdOk c):bA X zL [ACm c] h K=K (.tup [ACm (DN c),AI (IL c:Nat)]) h []:=by
 refine sA ?_;rw[zf6 rfl];have b1:=hc.b;have b2:=hc.w;have b3:=hc.m
 have k1:=λ(h':aA) (K':jA)=>lK (h:=h') (K:=K') c.b (show c.b.length<=1000000 by omega)
 have k2:=λ(h':aA) (K':jA)=>zpB (h:=h') (K:=K') c hc
 obtain⟨k,s,cl,b,w,m⟩:=c;simp only at b1 b2 b3 k1 k2;unfold IL DN;dsimp only;by_cases h1:k=1
 ·rcases hs:JB s with _|_ <;> (simp only[DE,go_sem,uD,h1,z3L,hs];simp [h1,hs])
 by_cases h2:k=2
 ·rcases hs:JB s with _|_ <;> (simp only[DE,go_sem,uD,h1,h2,z3L,hs];simp [h1,h2,hs])
 by_cases h3:k=10
 ·rcases hs:JB s with _|_ <;> (simp only[DE,go_sem,uD,h1,h2,h3,z3L,hs];simp [h1,h2,h3,hs])
 by_cases h4:k=9
 ·by_cases g1:cl<0
  ·(simp only[DE,go_sem,uD,h1,h2,h3,h4,BC,g1];simp [h1,h2,h3,h4,g1])
  ·by_cases g2:20000<cl
   ·(simp only[DE,go_sem,uD,h1,h2,h3,h4,BC,g1,g2];simp [h1,h2,h3,h4,g1,g2])
   ·(simp only[DE,go_sem,uD,h1,h2,h3,h4,BC,g1,g2];simp [h1,h2,h3,h4,g1,g2])
 by_cases h5:k=7
 ·subst h5
  (simp only[DE,go_sem,uD,pF,k2];simp [uD])
 by_cases h6:k=8
 ·subst h6
  (simp only[DE,go_sem,uD,pF,k2];simp [uD])
 rcases hb:GA b with _|_
 ·(simp only[DE,go_sem,uD,h1,h2,h3,h4,h5,h6,pF,k1,hb];simp [h1,h2,h3,h4,h5,h6,hb])
 ·by_cases h7:2000<b.length
  ·have h7':(2000:Int)<(b.length:Int):=by omega
   (simp only[DE,go_sem,uD,h1,h2,h3,h4,h5,h6,pF,k1,hb,h7,h7'];simp [h1,h2,h3,h4,h5,h6,hb,h7])
  ·have h7':¬(2000:Int)<(b.length:Int):=by omega
   (simp only[DE,go_sem,uD,h1,h2,h3,h4,h5,h6,pF,k1,hb,h7,h7'];simp [h1,h2,h3,h4,h5,h6,hb,h7])
end
section
variable {h:aA} {K:jA}
end
section
variable {h:aA} {K:jA}
end
section
variable {h:aA} {K:jA}
end
section
variable {h:aA} {K:jA}
end
section
attribute [-go_sem] PV.cells splice
variable {h:aA} {K:jA}
end
section
variable {L:List Int} {a:Int} {h l:aA} {id:Nat} {K:jA}
def GenK (f:Nat)(args:List AV)(L:List Int)(a:Int)(sh:Sh)(Q:List PV->Int->Prop):Prop:=∀(h:aA) (id:Nat),h[id]?=some (uA L a)->∃xs a2,Q xs a2/\∀K:jA,bA X f (.ref id 0::args) h K=K (.own h.length xs.length 0 xs.length) (h.set id (uA L a2)++[.row sh xs 0]) []
theorem GenK.of {f:Nat}{args:List AV}{L:List Int}{a:Int}{sh:Sh}{Q:List PV->Int->Prop}(H:∀ (h:aA) (id:Nat),id<h.length->bA X f (.ref id 0::args) (h.set id (uA L a)) λv1 h1 x1=>∃ xs a2,Q xs a2/\v1 = .own h.length xs.length 0 xs.length/\h1=h.set id (uA L a2)++[.row sh xs 0]/\x1=[]):GenK f args L a sh Q:=by
 intro h id hh;have hid:=oH hh
 have k:=H h id hid
 rw[zql hh]at k;obtain⟨v,h',x,⟨xs,a2,q,e0,e1,e2⟩,r⟩:=bA.one z4K k;subst e0;subst e1;subst e2
 exact⟨xs,a2,q,r⟩
theorem wQ (s:List UInt8)(c:Int)(h0:0<=c)(hc:s.length*c.toNat<=1000000)(h1:c<=1000000):bA X DA [AS s,AI c] h K=K (AS (KI s c.toNat)) h []:=by
 refine RT (X:=X) (by kernel_rfl) ?_
 first|rw[show X.ex2=KE GRL PRL from rfl]|skip
 show KE GRL PRL DA [AS s,AI c] h=some (AS (KI s c.toNat),h,[])
 exact z1r (vs:=[.str s,.int .i64 c]) (by kernel_rfl) (s:=MI) (by kernel_rfl) rfl (by simp only[MI];rw[if_pos ⟨h0,hc,h1⟩])
end
section
variable {h:aA} {K:jA}
theorem cN (c:UInt8):∀n,KI [c] n=List.replicate n c
 | 0=>rfl
 | n+1=>by rw[KI,cN c n];rfl
theorem z3H (n:Int)(h0:0<=n)(h1:n<=1000000):bA X DA [AS [120],AI n] h K=K (AS (xsL n.toNat)) h []:=by
 rw[wQ [120] n h0 (by simp;omega) h1,cN];rfl
theorem JF (n:Int)(h0:0<=n)(h1:n<=1000000):bA X DA [AS [48],AI n] h K=K (AS (zs n.toNat)) h []:=by
 rw[wQ [48] n h0 (by simp;omega) h1,cN];rfl
def zC (c:Cmd)(i:Nat):List UInt8:=(List.range c.b.length).map λj=>if j<i then SC c j else 120
theorem zjA (c:Cmd):zC c 0=xsL c.b.length:=by
 unfold zC xsL;apply List.ext_getElem
 ·simp
 ·intro i h1 h2;simp
theorem z0Y (c:Cmd)(i:Nat):(zC c i).length=c.b.length:=by simp [zC]
theorem z0X (c:Cmd):zC c c.m.length=eC c:=by
 unfold zC eC;apply List.map_congr_left
 intro j _;split
 ·rfl
 ·rename_i h
  unfold SC;rw[List.getElem?_eq_none (by omega)];rfl
theorem zjC (c:Cmd)(i:Nat)(hi:i<c.b.length):zC c (i+1)=(zC c i).set i (SC c i):=by
 apply List.ext_getElem
 ·simp [zC]
 ·intro j h1 h2
  simp only[zC,List.length_map,List.length_range]at h1;rw[List.getElem_set];simp only[zC,List.getElem_map,List.getElem_range];by_cases hj:i=j
  ·subst hj;simp
  ·rw[if_neg hj]
   by_cases h3:j<i
   ·rw[if_pos h3,if_pos (by omega)]
   ·rw[if_neg h3,if_neg (by omega)]
theorem zjB (c:Cmd)(i:Nat)(hn:c.m[i]?≠some 49):zC c (i+1)=zC c i:=by
 unfold zC;apply List.map_congr_left
 intro j _;by_cases hj:j=i
 ·subst hj
  simp [SC,hn]
 ·by_cases h3:j<i
  ·rw[if_pos h3,if_pos (by omega)]
  ·rw[if_neg h3,if_neg (by omega)]
theorem zpv (c:Cmd)(hl:c.b.length<=100000)(hm:c.m.length<=c.b.length)(hw:c.m.length<=c.w.length):bA X pL [ACm c] h K=K (AS (eC c)) h []:=by
 refine sA ?_;rw[zeH rfl];have hmx:c.b.length<=LA:=by unfold LA;omega
 have hx:(xsL c.b.length).length=c.b.length:=by simp [xsL]
 have r1:=λ(h':aA) (K':jA)=>z3H (h:=h') (K:=K') (c.b.length:Int) (by omega) (by omega)
 simp only[Int.toNat_natCast]at r1;simp only[ZR,go_sem,r1,hx,hmx];refine bB (λi:Nat=>⟨[(1,.ref h.length 0),(3,.own (h.length+1) c.b.length 0 c.b.length),(12,AI c.m.length),(13,AI i)],h++[.box [AI c.k,AI c.s,AI c.cl,AS c.b,AS c.w,AS c.m],.row none (tA (zC c i)) 0],[]⟩) (λi=>i<=c.m.length) (λi=>c.m.length-i) 0 (by rw[zjA];rfl) (by omega) ?_
 intro i hi;have hbl:(tA (zC c i)).length=c.b.length:=by simp [tA,z0Y]
 rcases Nat.lt_or_ge i c.m.length with hlt|hge
 ·have hlt':(i:Int)<(c.m.length:Int):=by omega
  have hg:c.m[i]?=some c.m[i]:=List.getElem?_eq_getElem hlt
  have hgw:c.w[i]?=some (c.w[i]'(by omega)):=List.getElem?_eq_getElem (by omega)
  have w2:IntKind.i64.wrap ((i:Int)+1)=((i+1:Nat):Int):=BA _ (by omega) (by omega)
  by_cases h49:c.m[i]=49
  ·have hb':i<c.b.length:=by omega
   have hgb:(tA (zC c i))[i]?=some (.int .u8 ((zC c i)[i]'(by rw[z0Y];omega)).toNat):=by
    unfold tA;rw[List.getElem?_map,List.getElem?_eq_getElem (by rw[z0Y];omega)];rfl
   have t1:=λ(y:Int) (h1:aA)=>zqn (sh:=none) (x:=.int .u8 ((c.w[i]'(by omega)).toNat:Int)) (y:=.int .u8 y) rfl rfl (h.length+1) i 0 (tA (zC c i)) h1
   have e49:((49:UInt8).toNat:Int)=49:=rfl
   simp only[go_sem,hlt,hlt',hg,h49,w2,hgw,hbl,hb',hgb,t1,e49];refine⟨i+1,?_,by omega,by omega⟩
   have e1:SC c i=c.w[i]'(by omega):=by unfold SC;rw[hg,h49,hgw];rfl
   have e2:tA (zC c (i+1))=(tA (zC c i)).set i (.int .u8 ((c.w[i]'(by omega)).toNat:Int)):=by
    rw[zjC c i hb',e1];unfold tA;rw[List.map_set]
   rw[e2]
  ·have h49':¬((c.m[i].toNat:Int)=49):=λe=>h49 (UInt8.toNat_inj.1 (by rw[show(49:UInt8).toNat=49 from rfl];omega))
   simp only[go_sem,hlt,hlt',hg,h49',w2];refine⟨i+1,?_,by omega,by omega⟩
   rw[zjB c i (by rw[hg];exact λe=>h49 (Option.some.inj e))]
 ·obtain rfl:i=c.m.length:=by omega
  have hw0:win (tA (zC c c.m.length)) 0 c.b.length=tA (zC c c.m.length):=by
   unfold win;rw[List.drop_zero];exact List.take_of_length_le (by omega)
  have hbe:(tA (eC c)).length=c.b.length:=by rw[<-z0X];exact hbl
  have hwe:win (tA (eC c)) 0 c.b.length=tA (eC c):=by rw[<-z0X];exact hw0
  simp only[go_sem,Nat.lt_irrefl,Int.lt_irrefl,hbl,hw0,sN,z0X,hbe,hwe]
abbrev ZD (p:Part):PV:=.agg [.str p.tms,.str p.tdi,.str p.want,.int .i64 (p.fr:Int),.int .i64 (p.st:Int)]
theorem zl3 (l:List Cmd)(k:Int):BI (l.map xA) k=xA (mA l k):=by
 unfold BI mA;rw[<-List.map_reverse,List.find?_map];have:((λc=>uR c==k) ∘ xA)=λc:Cmd=>c.k==k:=rfl
 rw[this];cases (l.reverse.find? λc=>c.k==k) with
 | none=>rfl
 | some c=>rfl
theorem zkD (l:List Cmd):(l.map xA).all HJ=true:=by
 rw[List.all_map];exact List.all_eq_true.2 λx _=>rfl
abbrev ACs (l:List Cmd):AV:=.p (.sl (some 6) (l.map xA))
theorem z3J (l:List Cmd)(i:Nat)(k:Int)(hi:i<=l.length)(hl:l.length<=1000000):bA X iH [ACs l,AI i,AI k] h K=K (ACm (mA (l.take i) k)) h []:=by
 have e:RI [.sl (some 6) (l.map xA),.int .i64 (i:Int),.int .i64 k]=some (ACm (mA (l.take i) k)):=by
  show(if 0<=(i:Int)/\(i:Int)<=((l.map xA).length:Int)/\(l.map xA).length<=1000000/\(l.map xA).all HJ=true then some (AV.p (BI ((l.map xA).take (i:Int).toNat) k)) else none)=_
  rw[if_pos ⟨by omega,by simp;omega,by simpa using hl,zkD l⟩,Int.toNat_natCast,<-List.map_take,zl3]
 refine RT (X:=X) (by kernel_rfl) ?_
 first|rw[show X.ex2=KE GRL PRL from rfl]|skip
 exact z1r (vs:=[.sl (some 6) (l.map xA),.int .i64 (i:Int),.int .i64 k]) (by kernel_rfl) (s:=RI) (by kernel_rfl) rfl e
structure SetOk (pre:List Cmd):Prop where
 s1:JB (mA pre 1).s=true
 s2:JB (mA pre 2).s=true
 b1:∀k,3<=k->k<=6->GA (mA pre k).b=true/\(mA pre k).b.length<=2000
attribute [-go_sem] SA WG
variable {Kx:Ex->St->Prop}
theorem pk3 {T D W:List UInt8}{fr st:Int}{z1 z2 z3 z4 z5 c1 c2 c3 c4 c5 c6:AV}(hD:D.length<=T.length)(hW:W.length<=T.length)(hT:T.length<=1000000) :
 WG (bA X) X.gl (.ref h.length 0) (.ref (h.length+2) 0) (h++[.box [z1,z2,z3,z4,z5],.box [c1,c2,c3,c4,c5,c6],.box [AS T,AS D,AS W,AI fr,AI st]]) [] Kx =
  Kx .ret ⟨[(6,.ref h.length 0)],h++[.box [AS T,AS (D++zs (T.length-D.length)),AS (W++xsL (T.length-W.length)),AI fr,AI st],.box [c1,c2,c3,c4,c5,c6],.box [AS T,AS (D++zs (T.length-D.length)),AS (W++xsL (T.length-W.length)),AI fr,AI st]],[]⟩:=by
 have hz:∀n,(zs n).length=n:=λn=>by simp [zs]
 have hx:∀n,(xsL n).length=n:=λn=>by simp [xsL]
 have w3:IntKind.i64.wrap ((T.length:Int)-(D.length:Int))=((T.length-D.length:Nat):Int):=by
  rw[show(T.length:Int)-(D.length:Int)=((T.length-D.length:Nat):Int) by omega];exact BA _ (by omega) (by omega)
 have w4:IntKind.i64.wrap ((T.length:Int)-(W.length:Int))=((T.length-W.length:Nat):Int):=by
  rw[show(T.length:Int)-(W.length:Int)=((T.length-W.length:Nat):Int) by omega];exact BA _ (by omega) (by omega)
 have r4:=λ(h':aA) (K':jA)=>JF (h:=h') (K:=K') ((T.length-D.length:Nat):Int) (by omega) (by omega)
 have r5:=λ(h':aA) (K':jA)=>z3H (h:=h') (K:=K') ((T.length-W.length:Nat):Int) (by omega) (by omega)
 simp only[Int.toNat_natCast]at r4 r5;have lD2:D.length+(zs (T.length-D.length)).length<=QA:=by rw[hz];unfold QA;omega
 have lW2:W.length+(xsL (T.length-W.length)).length<=QA:=by rw[hx];unfold QA;omega
 generalize zs (T.length-D.length)=Z at r4 lD2 ⊢;generalize xsL (T.length-W.length)=Z2 at r5 lW2 ⊢;simp only[WG,go_sem,splice,w3,w4,r4,r5,lD2,lW2]
theorem zp0 (l:List Cmd)(i:Nat)(c:Cmd)(hi:l[i]?=some c)(h10:c.k=10)(hs:JB c.s=true)(state:Nat)(hst:state∈stb) :
 bA X AG [ACs l,AI i,AI state] h K=K (.p (ZD (qA kA (l.take i) c state))) h []:=by
 refine sA ?_;rw[FN rfl];obtain⟨n1,n2⟩:=vC hs;have hg:(l.map xA)[i]?=some (xA c):=by rw[List.getElem?_map,hi];rfl
 have hilt:i<l.length:=by
  rcases Nat.lt_or_ge i l.length with h|h
  ·exact h
  ·rw[List.getElem?_eq_none h]at hi;cases hi
 rw[GI kA h10];obtain⟨k,s,cl,b,w,m⟩:=c;dsimp only at h10 hs n1 n2 hg ⊢;obtain⟨n,rfl⟩:∃n:Nat,s=n:=⟨s.toNat,n2.symm⟩;simp only[Int.toNat_natCast]at n1 ⊢;have p1:=λ(h':aA) (K':jA)=>DW (h:=h') (K:=K') (RB hst) (fD n1)
 have pl:=(QB (RB hst) (fD n1)).2.1
 subst h10;generalize kA state n=w at p1 pl ⊢;have e1:ZD ⟨w,zs w.length,xsL w.length,0,n⟩=ZD (NB ⟨w,[],[],0,n⟩):=by rw[z9x]
 rw[e1];unfold NB ZD;dsimp only;have P3:=λ(z1 z2 z3 z4 z5 c1 c2 c3 c4 c5 c6:AV) (Kx:Ex->St->Prop)=>pk3 (h:=h) (Kx:=Kx) (T:=w) (D:=[]) (W:=[]) (fr:=0) (st:=n) (z1:=z1) (z2:=z2) (z3:=z3) (z4:=z4) (z5:=z5) (c1:=c1) (c2:=c2) (c3:=c3) (c4:=c4) (c5:=c5) (c6:=c6) (Nat.zero_le _) (Nat.zero_le _) (by omega)
 simp only[SH,go_sem,uD,hg,hilt,p1,P3]
end
section
variable {h:aA} {K:jA}
attribute [-go_sem] SA FB LB
structure PortS where
 d:TDev
 p:aD
 mi:SM
 mo:SM
def dvH (b:Nat):List PortS->List Obj
 | []=>[]
 | q::r=>.box (xC q.d)::OA PV.str tB q.mi::OA PV.str tB q.mo :: .box (fC q.d q.p (b+1) (b+2))::dvH (b+4) r
theorem ZF:∀ (l:List PortS) (b:Nat),(dvH b l).length=4*l.length
 | [],_=>rfl
 | q::r,b=>by simp only[dvH,List.length_cons,ZF r];omega
theorem z6n (q:PortS):∀(l:List PortS) (b:Nat),dvH b (l++[q])=dvH b l++[.box (xC q.d),OA PV.str tB q.mi,OA PV.str tB q.mo,.box (fC q.d q.p (b+4*l.length+1) (b+4*l.length+2))]
 | [],b=>rfl
 | a::r,b=>by
  have e:b+4+4*r.length=b+4*(a::r).length:=by simp only[List.length_cons];omega
  simp only[List.cons_append,dvH,z6n q r (b+4),e]
theorem z6k {q:PortS}:∀{l:List PortS} {b i:Nat},l[i]?=some q->(dvH b l)[4*i+3]?=some (.box (fC q.d q.p (b+4*i+1) (b+4*i+2)))
 | [],b,i,h=>by simp at h
 | a::r,b,0,h=>by simp at h;subst h;rfl
 | a::r,b,i+1,h=>by
  have e1:4*(i+1)+3=(4*i+3)+4:=by omega
  have e2:b+4*(i+1)=b+4+4*i:=by omega
  rw[e1,e2];exact z6k (l:=r) (b:=b+4) (i:=i) (by simpa using h)
theorem z6i {q:PortS}:∀{l:List PortS} {b i:Nat},l[i]?=some q->(dvH b l)[4*i+1]?=some (OA PV.str tB q.mi)
 | [],b,i,h=>by simp at h
 | a::r,b,0,h=>by simp at h;subst h;rfl
 | a::r,b,i+1,h=>by
  have e1:4*(i+1)+1=(4*i+1)+4:=by omega
  rw[e1];exact z6i (l:=r) (b:=b+4) (i:=i) (by simpa using h)
theorem z6j {q:PortS}:∀{l:List PortS} {b i:Nat},l[i]?=some q->(dvH b l)[4*i+2]?=some (OA PV.str tB q.mo)
 | [],b,i,h=>by simp at h
 | a::r,b,0,h=>by simp at h;subst h;rfl
 | a::r,b,i+1,h=>by
  have e1:4*(i+1)+2=(4*i+2)+4:=by omega
  rw[e1];exact z6j (l:=r) (b:=b+4) (i:=i) (by simpa using h)
theorem z6m {q:PortS}{p:aD}:∀{l:List PortS} {b i:Nat},l[i]?=some q->(dvH b l).set (4*i+3) (.box (fC q.d p (b+4*i+1) (b+4*i+2)))=dvH b (l.set i { q with p:=p })
 | [],b,i,h=>by simp at h
 | a::r,b,0,h=>by simp at h;subst h;rfl
 | a::r,b,i+1,h=>by
  have e1:4*(i+1)+3=(4*i+3)+4:=by omega
  have e2:b+4*(i+1)=b+4+4*i:=by omega
  rw[e1,e2];have:=z6m (p:=p) (l:=r) (b:=b+4) (i:=i) (by simpa using h)
  simp only[dvH,List.set_cons_succ,this]
theorem z6l {q:PortS}{m:SM}:∀{l:List PortS} {b i:Nat},l[i]?=some q->(dvH b l).set (4*i+2) (OA PV.str tB m)=dvH b (l.set i { q with mo:=m })
 | [],b,i,h=>by simp at h
 | a::r,b,0,h=>by simp at h;subst h;rfl
 | a::r,b,i+1,h=>by
  have e1:4*(i+1)+2=(4*i+2)+4:=by omega
  rw[e1];have:=z6l (m:=m) (l:=r) (b:=b+4) (i:=i) (by simpa using h)
  simp only[dvH,List.set_cons_succ,this]
def vD (b n:Nat):List AV:=(List.range n).map λi=>.ref (b+4*i+3) 0
theorem z9I {b n:Nat}:(vD b n).length=n:=by simp [vD]
theorem zop {b n:Nat}:vD b (n+1)=vD b n++[.ref (b+4*n+3) 0]:=by simp [vD,List.range_succ]
theorem zoo {b n i:Nat}(hi:i<n):(vD b n)[i]?=some (.ref (b+4*i+3) 0):=by simp [vD,hi]
def CH (h:aA)(st:Int)(l:List PortS)(t:aA):aA:=h++(.arow none (vD (h.length+2) l.length) :: .box [AI st,.bt 3 0 h.length l.length]::(dvH (h.length+2) l++t))
def tD (d:TDev):List TReg->SM->SM
 | [],m=>m
 | r::rs,m=>tD d rs (zB r.name (zs r.long.toNat) m)
theorem NT {k j:List UInt8}{v:List UInt8}:∀(m:SM),ZA j (zB k v m)=if j=k then some v else ZA j m
 | []=>by
  unfold zB ZA;by_cases h:j=k
  ·simp [h]
  ·simp [h,ZA]
 | e::r=>by
  unfold zB;by_cases h1:k=e.1
  ·rw[if_pos h1]
   unfold ZA;by_cases h2:j=k
   ·simp [h2]
   ·have:¬j=e.1:=λq=>h2 (by rw[q,h1])
    simp [h2,this]
  ·rw[if_neg h1]
   unfold ZA;by_cases h2:j=e.1
   ·have:¬j=k:=λq=>h1 (by rw[<-q,h2])
    simp [h2,this];intro q;exact absurd q.symm h1
   ·rw[if_neg h2,if_neg h2]
    exact NT r
theorem z8E (d:TDev):∀(rs:List TReg) (m:SM) (k:List UInt8),(∀r∈rs,r.name≠k)->ZA k (tD d rs m)=ZA k m
 | [],m,k,_=>rfl
 | r::rs,m,k,h=>by
  unfold tD;rw[z8E d rs _ k λx hx=>h x (List.mem_cons_of_mem _ hx),NT,if_neg λe=>h r List.mem_cons_self e.symm]
theorem z8F (d:TDev):∀(rs:List TReg) (m:SM),(rs.map TReg.name).Nodup->∀r∈rs,ZA r.name (tD d rs m)=some (zs r.long.toNat)
 | [],m,_,r,hr=>by cases hr
 | a::rs,m,h,r,hr=>by
  rw[List.map_cons,List.nodup_cons]at h;unfold tD;rcases List.mem_cons.1 hr with e|e
  ·subst e
   rw[z8E d rs _ r.name λx hx e=>h.1 (e ▸ List.mem_map_of_mem hx),NT,if_pos rfl]
  ·exact z8F d rs _ h.2 r e
def FF (d:TDev):PortS:=⟨d,([],[48]),tD d d.regs [],tD d d.regs []⟩
def dH (h:aA):Nat->Esc
 | 0=>[]
 | n+1=>(h.length,h.length+(2+4*(n+1)))::dH h n
end
theorem z5s (mid:Nat):∀(X:Esc) (m:Nat),(∀y∈X,y.1=mid)->mid<m->m<=PC X m/\(∀y∈X,y.2<=PC X m)/\∀B,m<=B->(∀y∈X,y.2<=B)->PC X m<=B
 | [],m,_,_=>⟨Nat.le_refl _,λ_ h=>(by cases h),λB h _=>h⟩
 | y::r,m,hX,hm=>by
  have e:PC (y::r) m=PC r (max m y.2):=by
   unfold PC;rw[List.foldl_cons,if_pos (by rw[hX y (by simp)];exact hm)]
  obtain⟨h1,h2,h3⟩:=z5s mid r (max m y.2) (λz hz=>hX z (by simp [hz])) (by omega)
  rw[e];refine⟨by omega,λz hz=>?_,λB hB hy=>h3 B (by have:=hy y (by simp);omega) λz hz=>hy z (by simp [hz])⟩
  rcases List.mem_cons.1 hz with e|hz
  ·rw[e];omega
  ·exact h2 z hz
theorem z5F (mid:Nat):∀(k:Nat) (X:Esc) (m:Nat),(∀y∈X,y.1=mid)->mid<m->m<=vB k X m/\(k≠0->∀y∈X,y.2<=vB k X m)/\∀B,m<=B->(∀y∈X,y.2<=B)->vB k X m<=B
 | 0,X,m,_,_=>⟨Nat.le_refl _,λh=>absurd rfl h,λB h _=>h⟩
 | k+1,X,m,hX,hm=>by
  obtain⟨b1,b2,b3⟩:=z5s mid X m hX hm;obtain⟨c1,_,c3⟩:=z5F mid k X (PC X m) hX (by omega)
  show m<=vB k X (PC X m)/\(_->∀y∈X,y.2<=vB k X (PC X m))/\∀B,m<=B->(∀y∈X,y.2<=B)->vB k X (PC X m)<=B
  exact⟨by omega,λ_ y hy=>by have:=b2 y hy;omega,λB hB hy=>c3 B (b3 B hB hy) hy⟩
theorem zgb {X:Esc}{mid b L:Nat}(hX:∀ y∈X,y.1=mid/\y.2<=L)(hm:mid<b)(hb:b<=L):∃n,vB X.length X b=n/\b<=n/\n<=L/\(∀y∈X,y.2<=n)/\xB X n=true/\X.filter (λy=>decide (y.1<n))=X:=by
 obtain⟨c1,c2,c3⟩:=z5F mid X.length X b (λy hy=>(hX y hy).1) hm
 have c3':=c3 L hb λy hy=>(hX y hy).2
 have c2':∀y∈X,y.2<=vB X.length X b:=by
  cases X with
  | nil=>intro y hy;cases hy
  | cons z r=>exact c2 (by simp)
 refine⟨_,rfl,c1,c3',c2',?_,?_⟩
 ·unfold xB
  rw[List.all_eq_true];intro y hy;have:=c2' y hy;simp [this]
 ·rw[List.filter_eq_self]
  intro y hy;have:=(hX y hy).1;simp only[decide_eq_true_eq];omega
section
variable {h:aA} {K:jA}
attribute [-go_sem] SA FB LB
theorem XI {st:Int}{l:List PortS}{t:aA}:(CH h st l t).length=h.length+(2+4*l.length)+t.length:=by
 unfold CH;simp only[List.length_append,List.length_cons,ZF];omega
theorem bX {st:Int}{l:List PortS}{t u:aA}:CH h st l t++u=CH h st l (t++u):=by unfold CH;simp
theorem CH_0 {st:Int}{l:List PortS}{t:aA}:(CH h st l t)[h.length]?=some (.arow none (vD (h.length+2) l.length)):=by unfold CH;rw[z4X];rfl
theorem CH_1 {st:Int}{l:List PortS}{t:aA}:(CH h st l t)[h.length+1]?=some (.box [AI st,.bt 3 0 h.length l.length]):=by unfold CH;rw[gE];rfl
theorem CH_t {st:Int}{l:List PortS}{t:aA}{n:Nat}:(CH h st l t)[h.length+(2+4*l.length)+n]?=t[n]?:=by
 unfold CH;have e:h.length+(2+4*l.length)+n=h.length+(2+(4*l.length+n)):=by omega
 rw[e,gE];have e2:2+(4*l.length+n)=(4*l.length+n)+1+1:=by omega
 rw[e2,List.getElem?_cons_succ,List.getElem?_cons_succ];have:=gE (dvH (h.length+2) l) t n;rw[ZF]at this;exact this
theorem cX {st:Int}{l:List PortS}{t:aA}{n:Nat}{o:Obj}:(CH h st l t).set (h.length+(2+4*l.length)+n) o=CH h st l (t.set n o):=by
 unfold CH;have e:h.length+(2+4*l.length)+n=h.length+(2+(4*l.length+n)):=by omega
 rw[e,rG];have e2:2+(4*l.length+n)=(4*l.length+n)+1+1:=by omega
 rw[e2,List.set_cons_succ,List.set_cons_succ];have:=rG (dvH (h.length+2) l) t n o;rw[ZF]at this;rw[this]
theorem z4x {st:Int}{l:List PortS}{t:aA}{n:Nat}:(CH h st l t).take (h.length+(2+4*l.length)+n)=CH h st l (t.take n):=by
 unfold CH;have e:h.length+(2+4*l.length)+n=h.length+(2+(4*l.length+n)):=by omega
 rw[e,dJ];have e2:2+(4*l.length+n)=(4*l.length+n)+1+1:=by omega
 rw[e2,List.take_succ_cons,List.take_succ_cons];have:=dJ (dvH (h.length+2) l) t n;rw[ZF]at this;rw[this]
theorem zrz {k v:List UInt8}:∀(m:SM),(ZA k (zB k v m)).getD []=v:=λm=>by rw[NT,if_pos rfl];rfl
attribute [-go_sem] zO UH
theorem zml {g:aA}{d:TDev}{pid mi mo:Nat}(D:DevOk d)(k:Nat)(m:SM)(hk:k<d.regs.length)
 (h1:g[pid]?=some (.box (fC d ([],[48]) mi mo))) (h2:g[mi]?=some (OA PV.str tB m)) (h3:g[mo]?=some (OA PV.str tB m)) (hne:mi≠mo) (hn1:pid≠mi) (hn2:pid≠mo) {v5 v18 v19 v20:AV} {x:Esc} {Kx:Ex->St->Prop} :
 (UH (bA X) X.gl [(5,v5),(8,.ref pid 0),(18,v18),(19,v19),(20,v20),(38,.p (.sl (some 2) (d.regs.map NA))),(39,AI d.regs.length),(40,AI k)] g x Kx).1 =
  Kx .normal ⟨[(5,v5),(8,.ref pid 0),(18,v18),(19,v19),(20,v20),(38,.p (.sl (some 2) (d.regs.map NA))),(39,AI d.regs.length),(40,AI ((k+1:Nat):Int))],((g.set mi (OA PV.str tB (zB d.regs[k].name (zs d.regs[k].long.toNat) m))).set mo (OA PV.str tB (zB d.regs[k].name (zs d.regs[k].long.toNat) m)))++[.box [AS d.regs[k].name,AI d.regs[k].long]],x⟩:=by
 have hg:=VB NA hk
 have w2:IntKind.i64.wrap ((k:Int)+1)=((k+1:Nat):Int):=BA _ (by have:=D.rn;omega) (by have:=D.rn;omega)
 have hrl:=D.rl _ (List.getElem_mem hk)
 have cx:rB (some 2) 0 (NA d.regs[k])=some (NA d.regs[k]):=rfl
 have fp:∀y:TReg,NA y = .agg [.str y.name,eI y.long]:=λ_=>rfl
 have hlt:(k:Int)<(d.regs.length:Int):=by omega
 generalize d.regs[k]=r at *;rw[fp]at hg cx;have lp:pid<g.length:=by rcases Nat.lt_or_ge pid g.length with q|q;exact q;rw[List.getElem?_eq_none q]at h1;cases h1
 have li:mi<g.length:=by rcases Nat.lt_or_ge mi g.length with q|q;exact q;rw[List.getElem?_eq_none q]at h2;cases h2
 have lo:mo<g.length:=by rcases Nat.lt_or_ge mo g.length with q|q;exact q;rw[List.getElem?_eq_none q]at h3;cases h3
 have a1:∀l:aA,(g++l)[pid]?=some (.box (fC d ([],[48]) mi mo)):=λl=>by rw[List.getElem?_append_left lp];exact h1
 have rz:=λh K=>JF (h:=h) (K:=K) r.long (by omega) (by omega)
 generalize hz:zs r.long.toNat=z at *;have hm1:∀l:aA,LB (none,[2]) (.mp mi) (AS r.name) (AS z) (g++l)=some (.und,(g.set mi (OA PV.str tB (zB r.name z m)))++l,[]):=λl=>by
  rw[z4d (by rw[List.getElem?_append_left li];exact h2),List.set_append_left _ _ li]
 have b1:∀l:aA,(g.set mi (OA PV.str tB (zB r.name z m))++l)[pid]?=some (.box (fC d ([],[48]) mi mo)):=λl=>by
  rw[List.getElem?_append_left (by simpa using lp),List.getElem?_set_ne (Ne.symm hn1)];exact h1
 have lk:∀l:aA,FB (none,[2]) false (.p (.str [])) (.mp mi) (AS r.name) (g.set mi (OA PV.str tB (zB r.name z m))++l)=some (AS z):=λl=>by
  rw[z8X (m:=zB r.name z m) (by rw[List.getElem?_append_left (by simpa using li),List.getElem?_set_self li]),zrz]
 have hm2:∀l:aA,LB (none,[2]) (.mp mo) (AS r.name) (AS z) (g.set mi (OA PV.str tB (zB r.name z m))++l)=some (.und,((g.set mi (OA PV.str tB (zB r.name z m))).set mo (OA PV.str tB (zB r.name z m)))++l,[]):=λl=>by
  rw[z4d (m:=m) (by rw[List.getElem?_append_left (by simpa using lo),List.getElem?_set_ne hne];exact h3),List.set_append_left _ _ (by simpa using lo)]
 have p7:∀y:aD,ldB none 7 (some (.box (fC d y mi mo)))=some (.mp mi):=λ_=>rfl
 have p8:∀y:aD,ldB none 8 (some (.box (fC d y mi mo)))=some (.mp mo):=λ_=>rfl
 have i1:mi≠g.length:=by omega
 have i2:mo≠g.length:=by omega
 simp only[UH,go_sem,hlt,hg,cx,fp,w2,a1,p7,p8,↓rz,rz,hm1,b1,lk,hm2,splice]
end
section
variable {h:aA} {K:jA}
attribute [-go_sem] SA FB LB
attribute [-go_sem] zO UH z0D aO z0E bO uT NK z0F cO
def BB (ds:List TDev)(k:Nat):List PortS:=(ds.take k).map FF
theorem z9l {ds:List TDev}{k:Nat}(hk:k<=ds.length):(BB ds k).length=k:=by simp [BB];omega
theorem zmh {ds:List TDev}{k:Nat}(hk:k<ds.length):BB ds (k+1)=BB ds k++[FF ds[k]]:=by
 unfold BB;rw[List.take_succ_eq_append_getElem hk,List.map_append];rfl
theorem zbC {st:Int}{l:List PortS}{q:PortS}:CH h st (l++[q]) []=h++(.arow none (vD (h.length+2) (l.length+1)) :: .box [AI st,.bt 3 0 h.length (l.length+1)]::(dvH (h.length+2) l++[.box (xC q.d),OA PV.str tB q.mi,OA PV.str tB q.mo,.box (fC q.d q.p (h.length+2+4*l.length+1) (h.length+2+4*l.length+2))])):=by
 unfold CH;rw[z6n,List.length_append];simp
theorem z8G (d:TDev)(r:TReg):∀(rs:List TReg) (m:SM),tD d (rs++[r]) m=zB r.name (zs r.long.toNat) (tD d rs m)
 | [],m=>rfl
 | a::rs,m=>z8G d r rs _
theorem zmk {st:Int}{l:List PortS}{d:TDev}(D:DevOk d){a b c:PV}{x:Esc}{Kx:Ex->St->Prop}
 (hK:Kx .normal ⟨[(5,.ref (h.length+1) 0),(8,.ref (h.length+(2+4*l.length)+3) 0),(18,.p a),(19,.p b),(20,.p c),(38,.p (.sl (some 2) (d.regs.map NA))),(39,AI d.regs.length),(40,AI d.regs.length),(41,AB false)],CH h st l [.box (xC d),OA PV.str tB (tD d d.regs []),OA PV.str tB (tD d d.regs []),.box (fC d ([],[48]) (h.length+(2+4*l.length)+1) (h.length+(2+4*l.length)+2))],x⟩) :
 UA (bA X) X.gl (.scope UJ) (qC 2 Kx) [(5,.ref (h.length+1) 0),(8,.ref (h.length+(2+4*l.length)+3) 0),(18,.p a),(19,.p b),(20,.p c),(38,.p (.sl (some 2) (d.regs.map NA))),(39,AI d.regs.length),(40,AI 0)] (CH h st l [.box (xC d),OA PV.str tB [],OA PV.str tB [],.box (fC d ([],[48]) (h.length+(2+4*l.length)+1) (h.length+(2+4*l.length)+2))]) x:=by
 obtain⟨P,hP⟩:∃P,P=h.length+(2+4*l.length):=⟨_,rfl⟩;rw[<-hP]at hK ⊢;have gl:∀t:aA,(CH h st l t).length=P+t.length:=λt=>by rw[XI,hP]
 have gg:∀(t:aA) (n:Nat),(CH h st l t)[P+n]?=t[n]?:=λt n=>by rw[hP];exact CH_t
 have gs:∀(t:aA) (n:Nat) (o:Obj),(CH h st l t).set (P+n) o=CH h st l (t.set n o):=λt n o=>by rw[hP];exact cX
 have gk:∀(t:aA) (n:Nat),(CH h st l t).take (P+n)=CH h st l (t.take n):=λt n=>by rw[hP];exact z4x
 refine bB (λj:Nat=>⟨[(5,.ref (h.length+1) 0),(8,.ref (P+3) 0),(18,.p a),(19,.p b),(20,.p c),(38,.p (.sl (some 2) (d.regs.map NA))),(39,AI d.regs.length),(40,AI j)],
  CH h st l [.box (xC d),OA PV.str tB (tD d (d.regs.take j) []),OA PV.str tB (tD d (d.regs.take j) []),.box (fC d ([],[48]) (P+1) (P+2))],x⟩) (λj=>j<=d.regs.length) (λj=>d.regs.length-j) 0 rfl (by omega) ?_
 intro j hj;have hP1:h.length+1<=P+4:=by omega
 have hP2:h.length<=P+2:=by omega
 rw[qG];rcases Nat.lt_or_ge j d.regs.length with hlt|hge
 ·rw[zO,zml (pid:=P+3) (mi:=P+1) (mo:=P+2) D j (tD d (d.regs.take j) []) hlt (by rw[gg];rfl) (by rw[gg];rfl) (by rw[gg];rfl) (by omega) (by omega) (by omega)]
  have em:tD d (d.regs.take (j+1)) []=zB d.regs[j].name (zs d.regs[j].long.toNat) (tD d (d.regs.take j) []):=by
   rw[List.take_succ_eq_append_getElem hlt,z8G]
  rw[<-em,gs,gs,bX];simp only[go_sem,gl,gk,hP1,hP2,List.length_cons,List.length_nil];exact⟨j+1,rfl,by omega,by omega⟩
 ·have ej:j=d.regs.length:=by omega
  subst ej;rw[List.take_length];rw[zO];simp only[UH,go_sem,Nat.lt_irrefl,gl,gk,hP1,hP2,List.length_cons,List.length_nil];exact hK
def CR (h:aA)(a b:Obj)(l:List PortS)(t:aA):aA:=h++(a::b::(dvH (h.length+2) l++t))
theorem CH_R {st:Int}{l:List PortS}{t:aA}:CH h st l t=CR h (.arow none (vD (h.length+2) l.length)) (.box [AI st,.bt 3 0 h.length l.length]) l t:=rfl
theorem CR_1 {a b:Obj}{l:List PortS}{t:aA}:(CR h a b l t)[h.length+1]?=some b:=by unfold CR;rw[gE];rfl
theorem CR_s0 {a b o:Obj}{l:List PortS}{t:aA}:(CR h a b l t).set h.length o=CR h o b l t:=by unfold CR;rw[z4Y];rfl
theorem z4y {a b o:Obj}{l:List PortS}{t:aA}:(CR h a b l t).set (h.length+1) o=CR h a o l t:=by unfold CR;rw[rG];rfl
theorem zbE {a b:Obj}{l:List PortS}{t:aA}{n:Nat}:(CR h a b l t).take (h.length+(2+4*l.length)+n)=CR h a b l (t.take n):=by
 unfold CR;have e:h.length+(2+4*l.length)+n=h.length+(2+(4*l.length+n)):=by omega
 rw[e,dJ];have e2:2+(4*l.length+n)=(4*l.length+n)+1+1:=by omega
 rw[e2,List.take_succ_cons,List.take_succ_cons];have:=dJ (dvH (h.length+2) l) t n;rw[ZF]at this;rw[this]
theorem zbD {l:List PortS}{d:TDev}{P:Nat}(hP:P=h.length+(2+4*l.length)):CR h (.arow none (vD (h.length+2) l.length++[.ref (P+3) 0])) (.box [AI 0,.bt 3 0 h.length (l.length+1)]) l [.box (xC d),OA PV.str tB (tD d d.regs []),OA PV.str tB (tD d d.regs []),.box (fC d ([],[48]) (P+1) (P+2))]=CH h 0 (l++[FF d]) []:=by
 subst hP;have e1:h.length+(2+4*l.length)+3=h.length+2+4*l.length+3:=by omega
 have e2:h.length+(2+4*l.length)+1=h.length+2+4*l.length+1:=by omega
 have e3:h.length+(2+4*l.length)+2=h.length+2+4*l.length+2:=by omega
 rw[zbC,e1,e2,e3,zop];rfl
theorem zoF {L:Nat}{P:jA}{x:Esc}(hx:∀ y∈x,y.1=h.length/\y.2<=L)(hL:(h.length,L)∈x){H:aA}(hH:H.length=L)(h2:h.length+2<=L)(k:P (.tup [.ref (h.length+1) 0,AI 0]) H x):bE false h.length P (some [.ref (h.length+1) 0,AI 0]) H x:=by
 have ht:(AV.tup [.ref (h.length+1) 0,AI 0]).top=h.length+2:=by simp [AV.top,AV.tops]
 have hmx:max h.length (h.length+2)=h.length+2:=by omega
 subst hH;obtain⟨n,c0,c1,c2,c3,c4,c5⟩:=zgb (b:=h.length+2) (mid:=h.length) (L:=H.length) hx (by omega) h2
 have en:n=H.length:=by have:=c3 _ hL;dsimp only at this;omega
 subst en;have e:∀m,VA m H (XA [.ref (h.length+1) 0,AI 0])=some (.tup [.ref (h.length+1) 0,AI 0]):=λm=>by
  simp only[go_sem]
 unfold bE;dsimp only;rw[e];dsimp only;rw[ht,hmx,c0,c4,if_pos rfl,e];dsimp only;rw[c5,ht,List.take_length];exact⟨c1,k⟩
theorem z0S:∀ {n:Nat} {y:Nat × Nat},y∈dH h n->y.1=h.length/\y.2<=h.length+(2+4*n)
 | 0,y,hy=>by cases hy
 | n+1,y,hy=>by
  rcases List.mem_cons.1 hy with e|e
  ·rw[e];exact⟨rfl,Nat.le_refl _⟩
  ·have:=z0S e;omega
theorem s_New (ds:List TDev)(hd:∀ d∈ds,DevOk d)(h0:ds≠[])(h20:ds.length<=20)(hck:∀ h K,bA X qI [nC ds] h K=K (AI 0) h []) :
 bA X nP [nC ds] h K=K (.tup [.ref (h.length+1) 0,AI 0]) (CH h 0 (BB ds ds.length) []) (dH h ds.length):=by
 refine sA ?_;rw[zfl rfl];simp only[GS,go_sem,↓hck,hck,List.length_map];refine bB (λk:Nat=>⟨[(5,.ref (h.length+1) 0),(18,nC ds),(19,AI ds.length),(20,AI k)],CH h 0 (BB ds k) [],dH h k⟩) (λk=>k<=ds.length) (λk=>ds.length-k) 0 ?_ (by omega) ?_
 ·simp [CH,BB,dvH,vD,dH]
 intro k hk;have lk:=z9l hk
 have gl:∀t:aA,(CH h 0 (BB ds k) t).length=h.length+(2+4*k)+t.length:=λt=>by rw[XI,lk]
 rw[qG];rcases Nat.lt_or_ge k ds.length with hlt|hge
 ·have D:=hd _ (List.getElem_mem hlt)
  have sn:=zmh hlt
  have hg:=VB RA hlt
  have w2:IntKind.i64.wrap ((k:Int)+1)=((k+1:Nat):Int):=BA _ (by omega) (by omega)
  have cx:rB (some 5) 0 (RA ds[k])=some (RA ds[k]):=rfl
  generalize ds[k]=d at *;have fp:∀y:TDev,RA y = .agg [.str y.name,eI y.long,eI y.id,.sl (some 2) (y.regs.map NA),.sl (some 2) (y.ins.map mB)]:=λ_=>rfl
  rw[fp]at hg cx;have c1:=λh K=>zoW (h:=h) (K:=K) d.regs (by have:=D.rn;omega)
  have c2:=λh K=>zoV (h:=h) (K:=K) d.ins (by have:=D.im;omega)
  have nin:=@zmk h 0 (BB ds k) d D
  have put:=@zbD h (BB ds k) d
  have ap:∀t u:aA,CH h 0 (BB ds k) t++u=CH h 0 (BB ds k) (t++u):=λt u=>bX
  have gg0:∀(t:aA) (n:Nat),(CH h 0 (BB ds k) t)[h.length+(2+4*(BB ds k).length)+n]?=t[n]?:=λt n=>CH_t
  have gs0:∀(t:aA) (n:Nat) (o:Obj),(CH h 0 (BB ds k) t).set (h.length+(2+4*(BB ds k).length)+n) o=CH h 0 (BB ds k) (t.set n o):=λt n o=>cX
  rw[lk]at nin put gg0 gs0;generalize hP:h.length+(2+4*k)=P at *;have gg1:∀(t:aA),(CH h 0 (BB ds k) t)[P]?=t[0]?:=λt=>gg0 t 0
  have gs1:∀(t:aA) (o:Obj),(CH h 0 (BB ds k) t).set P o=CH h 0 (BB ds k) (t.set 0 o):=λt o=>gs0 t 0 o
  rw[uT];simp only[NK,go_sem,hlt,hg,cx,fp,gl,ap,gg0,gs0,gg1,gs1,↓c1,c1,↓c2,c2,splice,List.length_nil,List.length_cons,List.nil_append,List.cons_append];refine nin ?_;have g0:∀t:aA,(CH h 0 (BB ds k) t)[h.length]?=some (.arow none (vD (h.length+2) k)):=λt=>by rw[CH_0,lk]
  have g1:∀t:aA,(CH h 0 (BB ds k) t)[h.length+1]?=some (.box [AI 0,.bt 3 0 h.length k]):=λt=>by rw[CH_1,lk]
  have rl:(vD (h.length+2) k).length=k:=z9I
  have ms:k+1<=LA:=by unfold LA;omega
  have f1:h.length<P+3+1:=by omega
  have s0:∀(t:aA) (o:Obj),(CH h 0 (BB ds k) t).set h.length o=CR h o (.box [AI 0,.bt 3 0 h.length k]) (BB ds k) t:=λt o=>by rw[CH_R,CR_s0,lk]
  have r1:∀(t:aA) (a:Obj),(CR h a (.box [AI 0,.bt 3 0 h.length k]) (BB ds k) t)[h.length+1]?=some (.box [AI 0,.bt 3 0 h.length k]):=λt a=>CR_1
  have s1:∀(t:aA) (a b o:Obj),(CR h a b (BB ds k) t).set (h.length+1) o=CR h a o (BB ds k) t:=λt a b o=>z4y
  have tk:∀(a b:Obj) (t:aA) (n:Nat),(CR h a b (BB ds k) t).take (P+n)=CR h a b (BB ds k) (t.take n):=λa b t n=>by
   have:=@zbE h a b (BB ds k) t n;rw[lk,hP]at this;exact this
  simp only[go_sem,z0D];simp only[aO,go_sem,g0,g1,gl,ap,gg0,rl,ms,f1,s0,r1,s1,List.length_nil,List.length_cons,List.nil_append,List.cons_append];rw[if_pos (by omega)]
  have es:GD (h.length+1) [AI 0,.bt 3 0 h.length k] (.bt 3 0 h.length (k+1))=[]:=by
   simp [GD,rC,eF,AV.top,AV.tops]
  rw[es,List.nil_append];have tr:∀(x0:Esc) (e:List (Nat×AV)) (H:aA),mD P x0 ⟨e,H,[(h.length,P+3+1)]⟩=⟨yE (P+4) e,H.take (P+4),(h.length,P+4)::x0⟩:=λx0 e H=>by
   rw[zrp (by omega)]
   have e1:max P (P+3+1)=P+4:=by omega
   rw[e1]
  have f2:h.length+2<=P+4:=by omega
  have f3:h.length+1+1<=P+4:=by omega
  rw[z0E];simp only[bO,go_sem,w2,tr,tk,f2,f3,put rfl];refine⟨k+1,?_,by omega,by omega⟩
  rw[sn];have e4:dH h (k+1)=(h.length,P+4)::dH h k:=by
   show(h.length,h.length+(2+4*(k+1)))::dH h k=_
   rw[<-hP];congr 2
  rw[e4]
 ·have ek:k=ds.length:=by omega
  subst ek;rw[uT];have hl:h.length+1+1<=(CH h 0 (BB ds ds.length) []).length:=by rw[gl];simp;omega
  simp only[NK,go_sem,Nat.lt_irrefl,hl,z0F,cO];have dl:0<ds.length:=List.length_pos_iff.2 h0
  refine zoF (L:=h.length+(2+4*ds.length)) (λy hy=>z0S hy) ?_ (by rw[gl];simp) (by omega) ⟨rfl,rfl,rfl⟩
  obtain⟨n,hn⟩:∃n,ds.length=n+1:=⟨ds.length-1,by omega⟩
  rw[hn];exact List.mem_cons_self
end
section
variable {h:aA} {K:jA}
attribute [-go_sem] SA FB LB
def actH (H:aA)(st:Nat)(d:TDev)(p:aD)(b:UInt8)(id mi mo:Nat)(m:SM):aA:=
 if st=8 then(if(tC d p.1).name≠IB/\(tC d p.1).name≠GB then H.set mo (OA PV.str tB (zB (tC d p.1).name p.2 m)) else H)
 else if st=0∨st=3∨st=4∨st=11∨st=10∨st=15 then H.set id (.box (fC d (OC st d p b).1 mi mo)) else H
theorem z1l {H:aA}{i:Nat}{o:Obj}(h1:H[i]?=some o):i<H.length:=by
 rcases Nat.lt_or_ge i H.length with q|q
 ·exact q
 ·rw[List.getElem?_eq_none q]at h1;cases h1
theorem oK {H:aA}{i:Nat}{o:Obj}:(H.set i o).take H.length=H.set i o:=List.take_of_length_le (by simp)
attribute [-go_sem] z0B zF z0C BE
theorem s_act {H:aA}{c id mi mo a n:Nat}{st:Nat}(d:TDev)(D:DevOk d)(p:aD)(P:PortOk p)(hst:st<16)(b:UInt8)(hb:jD b)
 (hc:H[c]?=some (.box [AI st,.bt 3 0 a n])) (hh:H[id]?=some (.box (fC d p mi mo))) {m m2:SM} (hm:H[mi]?=some (OA PV.str tB m)) (hI:InM d m) (ho:H[mo]?=some (OA PV.str tB m2)) :
 bA X lP [.ref c 0,.ref id 0,.p (.int .u8 b.toNat)] H K=K (.p (.int .u8 (OC st d p b).2.toNat)) (actH H st d p b id mi mo m2) []:=by
 refine sA ?_;rw[zfi rfl];have lc:=z1l hc
 have li:=z1l hh
 have lm:=z1l ho
 have hl:d.regs.length<=1000000:=by have:=D.rn;omega
 have hi:d.ins.length<=1000000:=by have:=D.im;omega
 have q1:=λK=>za3 (h:=H) (K:=K) d p mi mo hh hl hi
 have q2:=λK=>zpq (h:=H) (K:=K) d D p mi mo hh hm hI hl hi
 have e1:=@z0B
 have e2:=@z0C
 have c0:ldB none 0 H[c]?=some (AI st):=by rw[hc];rfl
 have g5:ldB none 5 H[id]?=some (AS p.1):=by rw[hh];rfl
 have g6:ldB none 6 H[id]?=some (AS p.2):=by rw[hh];rfl
 have g8:ldB none 8 H[id]?=some (.mp mo):=by rw[hh];rfl
 have g1:ldB none 1 H[id]?=some (AI d.long):=by rw[hh];rfl
 have w5:∀s:List UInt8,stB none id 5 (AS s) H H[id]? (some [AS s])=some (.und,H.set id (.box (fC d (s,p.2) mi mo)),[]):=λs=>by rw[hh];rfl
 have w6:∀s:List UInt8,stB none id 6 (AS s) H H[id]? (some [AS s])=some (.und,H.set id (.box (fC d (p.1,s) mi mo)),[]):=λs=>by rw[hh];rfl
 have hmu:LB (none,[2]) (.mp mo) (AS (tC d p.1).name) (AS p.2) H=some (.und,H.set mo (OA PV.str tB (zB (tC d p.1).name p.2 m2)),[]):=z4d ho
 have fp:∀y:TReg,NA y = .agg [.str y.name,eI y.long]:=λ_=>rfl
 rw[fp]at q1;unfold actH;have fin:∀{a b:UInt8} {A B:aA},a=b->A=B->(AV.p (.int .u8 (a.toNat:Int))=AV.p (.int .u8 (b.toNat:Int))/\A=B/\([]:Esc)=[]):=λh1 h2=>⟨by rw[h1],h2,rfl⟩
 by_cases s0:st=0
 ·subst s0
  rw[if_neg (by decide),if_pos (by decide)]
  simp only[XE,go_sem,c0,w5,e2,BE,oK];simp [OC]
 have s0':¬(st:Int)=0:=by omega
 by_cases s3:st=3
 ·subst s3
  rw[if_neg (by decide),if_pos (by decide)]
  simp only[XE,go_sem,c0,w6,e2,BE,oK,s0',↓q2,q2];simp [OC]
 have s3':¬(st:Int)=3:=by omega
 have mS:∀n:Nat,n<=2000000->n<=QA:=λn h=>by unfold QA;omega
 by_cases s4:st=4∨st=11
 ·rw[if_neg (by omega),if_pos (by omega)]
  have hne:=P.ne
  have hn:=P.n
  have ea:OC st d p b=((p.1,p.2.tail++[b]),p.2.headD 0):=by unfold OC;rw[if_neg s0,if_neg s3,if_pos s4]
  rw[ea];obtain⟨p1,p2⟩:=p;cases p2 with
  | nil=>exact absurd rfl hne
  | cons x r=>
   have hr:r.length+1<=QA:=mS _ (by simp at hn;omega)
   dsimp only at w6 g6;simp only[List.tail_cons,List.headD_cons];have wb:IntKind.i32.wrap (b.toNat:Int)=(b.toNat:Int):=by rcases hb with rfl|rfl <;> rfl
   have b1:(b.toNat:Int)<128:=by rcases hb with rfl|rfl <;> decide
   have b2:UInt8.ofNat b.toNat=b:=by simp
   have b0:0<=(b.toNat:Int):=by omega
   have b3:((b.toNat:Int)).toNat=b.toNat:=by omega
   have wn:win (x::r) 1 (r.length+1-1)=r:=by simp [win]
   by_cases h4:st=4
   ·subst h4
    simp only[XE,go_sem,c0,e1,zF,e2,BE,g6,w6,oK,s0',s3',wb,b1,b2,b0,b3,wn,hr]
   ·have h4':¬(st:Int)=4:=by omega
    have h11:(st:Int)=11:=by omega
    simp only[XE,go_sem,c0,e1,zF,e2,BE,g6,w6,oK,s0',s3',h4',h11,wb,b1,b2,b0,b3,wn,hr]
 have s4':¬(st:Int)=4:=by omega
 have s11':¬(st:Int)=11:=by omega
 by_cases s8:st=8
 ·subst s8
  rw[if_pos rfl];have ea:OC 8 d p b=(p,b):=rfl
  rw[ea];by_cases n1:(tC d p.1).name=IB
  ·rw[if_neg (by simp [n1])]
   unfold IB at n1;simp only[XE,go_sem,c0,e1,zF,e2,BE,s0',s3',s4',s11',↓q1,q1,n1]
  ·by_cases n2:(tC d p.1).name=GB
   ·rw[if_neg (by simp [n2])]
    unfold GB at n2;unfold IB at n1;simp only[XE,go_sem,c0,e1,zF,e2,BE,s0',s3',s4',s11',↓q1,q1,eq_false n1,eq_true n2]
   ·rw[if_pos ⟨n1,n2⟩]
    unfold GB at n2;unfold IB at n1;simp only[XE,go_sem,c0,e1,zF,e2,BE,s0',s3',s4',s11',↓q1,q1,n1,n2,g8,g6,hmu,oK]
 have s8':¬(st:Int)=8:=by omega
 rw[if_neg s8];by_cases s10:st=10
 ·subst s10
  rw[if_pos (by decide)]
  have w1:IntKind.i64.wrap (d.long-1)=d.long-1:=BA _ (by have:=D.lo;omega) (by have:=D.hi;omega)
  have rz:=λh K=>JF (h:=h) (K:=K) (d.long-1) (by have:=D.lo;omega) (by have:=D.hi;omega)
  have ln:(zs (d.long-1).toNat).length+1<=QA:=mS _ (by have:=D.hi;simp [zs];omega)
  have ln2:1+(zs (d.long-1).toNat).length<=QA:=by omega
  have ea:OC 10 d p b=((p.1,49::zs (d.long-1).toNat),b):=rfl
  rw[ea];simp only[XE,go_sem,c0,e1,zF,e2,BE,g1,w6,oK,s0',s3',s4',s11',s8',w1,↓rz,rz,ln,ln2]
 have s10':¬(st:Int)=10:=by omega
 by_cases s15:st=15
 ·subst s15
  rw[if_pos (by decide)]
  have ea:OC 15 d p b=((p.2,p.2),b):=rfl
  rw[ea];simp only[XE,go_sem,c0,e1,zF,e2,BE,g6,w5,oK,s0',s3',s4',s11',s8',s10']
 have s15':¬(st:Int)=15:=by omega
 rw[if_neg (by omega)]
 have ea:OC st d p b=(p,b):=by unfold OC;rw[if_neg s0,if_neg s3,if_neg s4,if_neg s10,if_neg s15]
 rw[ea];simp only[XE,go_sem,c0,e1,zF,e2,BE,s0',s3',s4',s11',s8',s10',s15']
end
section
variable {h:aA} {K:jA}
attribute [-go_sem] SA FB LB
def PortS.act (st:Nat)(q:PortS)(b:UInt8):PortS×UInt8:=
 (⟨q.d,(OC st q.d q.p b).1,q.mi,if st=8/\(tC q.d q.p.1).name≠IB/\(tC q.d q.p.1).name≠GB then zB (tC q.d q.p.1).name q.p.2 q.mo else q.mo⟩,(OC st q.d q.p b).2)
structure PSOk (q:PortS):Prop where
 D:DevOk q.d
 P:PortOk q.p
 I:InM q.d q.mi
theorem CH_p {st:Int}{l:List PortS}{t:aA}{i:Nat}{q:PortS}(hi:l[i]?=some q):(CH h st l t)[h.length+2+4*i+3]?=some (.box (fC q.d q.p (h.length+2+4*i+1) (h.length+2+4*i+2))):=by
 unfold CH;have lt:i<l.length:=by rcases Nat.lt_or_ge i l.length with c|c;exact c;rw[List.getElem?_eq_none c]at hi;cases hi
 have e:h.length+2+4*i+3=h.length+((4*i+3)+1+1):=by omega
 rw[e,gE,List.getElem?_cons_succ,List.getElem?_cons_succ,List.getElem?_append_left (by rw[ZF];omega),z6k hi]
theorem CH_mi {st:Int}{l:List PortS}{t:aA}{i:Nat}{q:PortS}(hi:l[i]?=some q):(CH h st l t)[h.length+2+4*i+1]?=some (OA PV.str tB q.mi):=by
 unfold CH;have lt:i<l.length:=by rcases Nat.lt_or_ge i l.length with c|c;exact c;rw[List.getElem?_eq_none c]at hi;cases hi
 have e:h.length+2+4*i+1=h.length+((4*i+1)+1+1):=by omega
 rw[e,gE,List.getElem?_cons_succ,List.getElem?_cons_succ,List.getElem?_append_left (by rw[ZF];omega),z6i hi]
theorem CH_mo {st:Int}{l:List PortS}{t:aA}{i:Nat}{q:PortS}(hi:l[i]?=some q):(CH h st l t)[h.length+2+4*i+2]?=some (OA PV.str tB q.mo):=by
 unfold CH;have lt:i<l.length:=by rcases Nat.lt_or_ge i l.length with c|c;exact c;rw[List.getElem?_eq_none c]at hi;cases hi
 have e:h.length+2+4*i+2=h.length+((4*i+2)+1+1):=by omega
 rw[e,gE,List.getElem?_cons_succ,List.getElem?_cons_succ,List.getElem?_append_left (by rw[ZF];omega),z6j hi]
theorem CH_sp {st:Int}{l:List PortS}{t:aA}{i:Nat}{q:PortS}{p:aD}(hi:l[i]?=some q):(CH h st l t).set (h.length+2+4*i+3) (.box (fC q.d p (h.length+2+4*i+1) (h.length+2+4*i+2)))=CH h st (l.set i { q with p:=p }) t:=by
 unfold CH;have lt:i<l.length:=by rcases Nat.lt_or_ge i l.length with c|c;exact c;rw[List.getElem?_eq_none c]at hi;cases hi
 have e:h.length+2+4*i+3=h.length+((4*i+3)+1+1):=by omega
 have e2:=z6m (p:=p) (b:=h.length+2) hi
 rw[e,rG,List.set_cons_succ,List.set_cons_succ,List.set_append_left _ _ (by rw[ZF];omega),e2,List.length_set]
theorem CH_so {st:Int}{l:List PortS}{t:aA}{i:Nat}{q:PortS}{m:SM}(hi:l[i]?=some q):(CH h st l t).set (h.length+2+4*i+2) (OA PV.str tB m)=CH h st (l.set i { q with mo:=m }) t:=by
 unfold CH;have lt:i<l.length:=by rcases Nat.lt_or_ge i l.length with c|c;exact c;rw[List.getElem?_eq_none c]at hi;cases hi
 have e:h.length+2+4*i+2=h.length+((4*i+2)+1+1):=by omega
 have e2:=z6l (m:=m) (b:=h.length+2) hi
 rw[e,rG,List.set_cons_succ,List.set_cons_succ,List.set_append_left _ _ (by rw[ZF];omega),e2,List.length_set]
theorem zaI {α:Type}{l:List α}{i:Nat}{a:α}(h:l[i]?=some a):l.set i a=l:=by
 apply List.ext_getElem?
 intro j;rw[List.getElem?_set];by_cases e:i=j
 ·subst e
  rw[if_pos rfl];rcases Nat.lt_or_ge i l.length with c|c
  ·rw[if_pos c,h]
  ·rw[List.getElem?_eq_none c]at h;cases h
 ·rw[if_neg e]
theorem zdk {st:Nat}{l:List PortS}{t:aA}{i:Nat}{q:PortS}{b:UInt8}(hi:l[i]?=some q) :
 actH (CH h st l t) st q.d q.p b (h.length+2+4*i+3) (h.length+2+4*i+1) (h.length+2+4*i+2) q.mo=CH h st (l.set i (q.act st b).1) t:=by
 unfold actH PortS.act;by_cases h8:st=8
 ·subst h8
  rw[if_pos rfl];have e:(OC 8 q.d q.p b).1=q.p:=rfl
  rw[e];by_cases hn:(tC q.d q.p.1).name≠IB/\(tC q.d q.p.1).name≠GB
  ·rw[if_pos hn,if_pos ⟨rfl,hn⟩,CH_so hi]
  ·rw[if_neg hn,if_neg (show ¬((8:Nat)=8/\(tC q.d q.p.1).name≠IB/\(tC q.d q.p.1).name≠GB) from λc=>hn c.2)]
   exact congrArg (λl=>CH h _ l t) (zaI hi).symm
 ·rw[if_neg h8,if_neg (show ¬(st=8/\(tC q.d q.p.1).name≠IB/\(tC q.d q.p.1).name≠GB) from λc=>h8 c.1)]
  by_cases hs:st=0∨st=3∨st=4∨st=11∨st=10∨st=15
  ·rw[if_pos hs,CH_sp hi]
  ·rw[if_neg hs]
   have e:(OC st q.d q.p b).1=q.p:=by
    unfold OC;rw[if_neg (by omega),if_neg (by omega),if_neg (by omega),if_neg (by omega),if_neg (by omega)]
   rw[e];exact congrArg (λl=>CH h _ l t) (zaI hi).symm
theorem JY {st:Nat}{q:PortS}{b:UInt8}(Q:PSOk q)(hb:jD b):PSOk (q.act st b).1/\jD (q.act st b).2:=by
 obtain⟨a1,a2⟩:=zdl Q.D Q.P st hb;exact⟨⟨Q.D,a1,Q.I⟩,a2⟩
def FC (st:Nat):List PortS->UInt8->List PortS×UInt8
 | q::r,b=>let y:=q.act st b;let z:=FC st r y.2; (y.1::z.1,z.2)
 | [],b=>([],b)
theorem z4M (st:Nat):∀(l:List PortS) (b:UInt8),(FC st l b).2=(HH st (l.map PortS.d) (l.map PortS.p) b).2/\(FC st l b).1.map PortS.p=(HH st (l.map PortS.d) (l.map PortS.p) b).1/\(FC st l b).1.map PortS.d=l.map PortS.d
 | [],b=>⟨rfl,rfl,rfl⟩
 | q::r,b=>by
  obtain⟨a1,a2,a3⟩:=z4M st r (q.act st b).2;exact⟨a1,by simp only[FC,HH,List.map_cons,a2];rfl,by simp only[FC,List.map_cons,a3];rfl⟩
theorem z4O (st:Nat):∀(l:List PortS) (b:UInt8),(∀q∈l,PSOk q)->jD b->(∀q∈(FC st l b).1,PSOk q)/\jD (FC st l b).2
 | [],b,_,hb=>⟨by simp [FC],hb⟩
 | q::r,b,hl,hb=>by
  obtain⟨a1,a2⟩:=JY (st:=st) (hl q List.mem_cons_self) hb;obtain⟨b1,b2⟩:=z4O st r _ (λx hx=>hl x (List.mem_cons_of_mem _ hx)) a2
  refine⟨λx hx=>?_,b2⟩
  rcases List.mem_cons.1 hx with e|e
  ·rw[e];exact a1
  ·exact b1 x e
theorem z4N (st:Nat):∀(l:List PortS) (b:UInt8),(FC st l b).1.length=l.length
 | [],_=>rfl
 | q::r,b=>by simp [FC,z4N st r]
theorem zmw:∀ s<16,∀ t<2,nxt s t=stp s t:=by decide
theorem zpK (s t:Nat)(hs:s<16)(ht:t<2):bA X BF [AI s,AI t] h K=K (AI (stp s t)) h []:=by
 rw[z82 (Y:=X) rfl s t hs ht,zmw s hs t ht]
def clkO (st:Nat)(b:UInt8):Int:=if st=4∨st=11 then(b.toNat:Int)-48 else -1
attribute [-go_sem] xO tJ yO uJ
theorem zpJ (tl:aA)(l:List PortS)(hl:∀ q∈l,PSOk q)(h20:l.length<=1000)(st:Nat)(hst:st<16)(tms tdi:UInt8)(h1:jD tms)(h2:jD tdi) :
 bA X mP [.ref (h.length+1) 0,AI ((tms.toNat-48:Nat):Int),AI ((tdi.toNat-48:Nat):Int)] (CH h st l tl) K=K (AI (clkO st (FC st l tdi).2)) (CH h (stW st tms) (FC st l tdi).1 tl) []:=by
 refine sA ?_;rw[zfj rfl];have w1:IntKind.i64.wrap (48+((tdi.toNat-48:Nat):Int))=((tdi.toNat:Nat):Int):=by rcases h2 with rfl|rfl <;> rfl
 have w2:IntKind.u8.wrap (tdi.toNat:Int)=(tdi.toNat:Int):=by rcases h2 with rfl|rfl <;> rfl
 have c1:(CH h st l tl)[h.length+1]?=some (.box [AI st,.bt 3 0 h.length l.length]):=CH_1
 have c1':ldB none 1 (CH h st l tl)[h.length+1]?=some (.bt 3 0 h.length l.length):=by rw[c1];rfl
 simp only[ES,go_sem,w1,w2,c1'];refine bB (λt:List PortS×List PortS×UInt8=>⟨[(0,.ref (h.length+1) 0),(1,AI ((tms.toNat-48:Nat):Int)),(7,.p (.int .u8 t.2.2.toNat)),(17,.bt 3 0 h.length l.length),(18,AI l.length),(19,AI t.1.length)],CH h st (t.1++t.2.1) tl,[]⟩)
  (λt=>(FC st l tdi=(t.1++(FC st t.2.1 t.2.2).1,(FC st t.2.1 t.2.2).2)/\t.1.length+t.2.1.length=l.length)/\(∀q∈t.1++t.2.1,PSOk q)/\jD t.2.2) (λt=>t.2.1.length) ([],l,tdi) rfl ⟨⟨rfl,by simp⟩,by simpa using hl,h2⟩ ?_
 rintro⟨dn,rs,b⟩ ⟨⟨i1,i2⟩,i3,i4⟩
 dsimp only at i1 i2 i3 i4 ⊢;have ll:(dn++rs).length=l.length:=by simpa using i2
 cases rs with
 | cons q rs=>
  have hq:(dn++q::rs)[dn.length]?=some q:=by simp
  have Q:=i3 q (by simp)
  have hlt:dn.length<l.length:=by simp at i2;omega
  have hlt':(dn.length:Int)<(l.length:Int):=by omega
  have hs:(dn++q::rs).set dn.length (q.act st b).1=(dn++[(q.act st b).1])++rs:=by simp
  have w3:IntKind.i64.wrap ((dn.length:Int)+1)=((dn.length+1:Nat):Int):=BA _ (by omega) (by omega)
  have ac:=λK=>s_act (H:=CH h st (dn++q::rs) tl) (K:=K) (c:=h.length+1) (a:=h.length) (n:=(dn++q::rs).length) q.d Q.D q.p Q.P hst b i4 CH_1 (CH_p hq) (CH_mi hq) Q.I (CH_mo hq)
  rw[zdk hq,hs]at ac;have c0:(CH h st (dn++q::rs) tl)[h.length]?=some (.arow none (vD (h.length+2) l.length)):=by rw[CH_0,ll]
  have rl:(vD (h.length+2) l.length).length=l.length:=z9I
  have rg:(vD (h.length+2) l.length)[dn.length]?=some (.ref (h.length+2+4*dn.length+3) 0):=zoo hlt
  have eo:(OC st q.d q.p b).2=(q.act st b).2:=rfl
  rw[eo]at ac;have sh1:gA none=1:=rfl
  simp only[go_sem,Nat.mul_one,hlt',hlt,c0,rl,rg,↓ac,ac,w3];refine⟨(dn++[(q.act st b).1],rs,(q.act st b).2),by simp,⟨⟨?_,?_⟩,λy hy=>?_,(JY Q i4).2⟩,by simp⟩
  ·rw[i1];simp [FC]
  ·simp at i2 ⊢;omega
  ·simp only[List.append_assoc,List.mem_append,List.mem_cons,List.not_mem_nil,or_false]at hy
   rcases hy with e|e|e
   ·exact i3 y (by simp [e])
   ·rw[e];exact(JY Q i4).1
   ·exact i3 y (by simp [e])
 | nil=>
  have hlen:dn.length=l.length:=by simpa using i2
  rw[List.append_nil]at ll i3 ⊢;have e1:(FC st l tdi).1=dn:=by rw[i1];simp [FC]
  have e2:(FC st l tdi).2=b:=by rw[i1];rfl
  rw[e1,e2];have n1:¬(dn.length:Int)<(l.length:Int):=by omega
  have c1:(CH h st dn tl)[h.length+1]?=some (.box [AI st,.bt 3 0 h.length dn.length]):=CH_1
  have c2:ldB none 0 (CH h st dn tl)[h.length+1]?=some (AI st):=by rw[c1];rfl
  have t2:tms.toNat-48<2:=by rcases h1 with rfl|rfl <;> decide
  have nx:=λK=>zpK (h:=CH h st dn tl) (K:=K) st (tms.toNat-48) hst t2
  have s1:∀v:Int,stB none (h.length+1) 0 (AI v) (CH h st dn tl) (CH h st dn tl)[h.length+1]? (some [AI v])=some (.und,CH h v dn tl,[]):=λv=>by
   rw[c1];show some (AV.und,(CH h st dn tl).set (h.length+1) _,_)=_
   rw[CH_R,z4y];rfl
  have tk:∀v:Int,(CH h v dn tl).take (CH h st l tl).length=CH h v dn tl:=λv=>List.take_of_length_le (by rw[XI,XI];omega)
  have f1:h.length+1+1<=(CH h st l tl).length:=by rw[XI];omega
  have es:stW st tms=stp st (tms.toNat-48):=rfl
  have w3:IntKind.u8.wrap ((b.toNat:Int)-48)=(b.toNat:Int)-48:=by rcases i4 with rfl|rfl <;> rfl
  have w4:IntKind.i64.wrap ((b.toNat:Int)-48)=(b.toNat:Int)-48:=by rcases i4 with rfl|rfl <;> rfl
  unfold clkO;by_cases s4:st=4
  ·rw[if_pos (by omega)]
   have s4':(st:Int)=4:=by omega
   simp only[go_sem,n1,yO,uJ,xO,tJ,c2,w3,w4,↓nx,nx,s1,tk,es,eq_true s4']
  ·have s4':¬(st:Int)=4:=by omega
   by_cases s11:st=11
   ·have s11':(st:Int)=11:=by omega
    rw[if_pos (by omega)]
    simp only[go_sem,n1,yO,uJ,xO,tJ,c2,w3,w4,↓nx,nx,s1,tk,es,s4',eq_true s11']
   ·have s11':¬(st:Int)=11:=by omega
    rw[if_neg (by omega)]
    simp only[go_sem,n1,yO,uJ,xO,tJ,c2,w3,w4,↓nx,nx,s1,tk,es,s4',s11']
end
section
variable {h l:aA} {K:jA} {r:Run}
attribute [-go_sem] SA splice
def rc (s:Sett)(st ck ni nd:Int)(a b c d e:AV)(w:Bool):List AV:=
 [AI s.e1.k,AI s.e1.s,AI s.e1.cl,AS s.e1.b,AS s.e1.w,AS s.e1.m,AI s.e2.k,AI s.e2.s,AI s.e2.cl,AS s.e2.b,AS s.e2.w,AS s.e2.m,
  AI s.h1.k,AI s.h1.s,AI s.h1.cl,AS s.h1.b,AS s.h1.w,AS s.h1.m,AI s.t1.k,AI s.t1.s,AI s.t1.cl,AS s.t1.b,AS s.t1.w,AS s.t1.m,
  AI s.h2.k,AI s.h2.s,AI s.h2.cl,AS s.h2.b,AS s.h2.w,AS s.h2.m,AI s.t2.k,AI s.t2.s,AI s.t2.cl,AS s.t2.b,AS s.t2.w,AS s.t2.m,
  AI st,AI ck,AI ni,AI nd,a,b,c,d,e,AB w]
section
variable {s:Sett} {st ck ni nd x:Int} {a b c d e o:AV} {w:Bool}
theorem ZV:(rc s st ck ni nd a b c d e w).length=46:=(rfl)
theorem YV:eF (rc s st ck ni nd a b c d e w)=false:=(rfl)
theorem rc_1:(rc s st ck ni nd a b c d e w)[1]?=some (AI s.e1.s):=(rfl)
theorem rc_7:(rc s st ck ni nd a b c d e w)[7]?=some (AI s.e2.s):=(rfl)
theorem TV:(rc s st ck ni nd a b c d e w)[15]?=some (AS s.h1.b):=(rfl)
theorem UV:(rc s st ck ni nd a b c d e w)[21]?=some (AS s.t1.b):=(rfl)
theorem VV:(rc s st ck ni nd a b c d e w)[27]?=some (AS s.h2.b):=(rfl)
theorem WV:(rc s st ck ni nd a b c d e w)[33]?=some (AS s.t2.b):=(rfl)
theorem GF:(rc s st ck ni nd a b c d e w)[36]?=some (AI st):=(rfl)
theorem JI:(rc s st ck ni nd a b c d e w)[37]?=some (AI ck):=(rfl)
theorem RM:(rc s st ck ni nd a b c d e w)[38]?=some (AI ni):=(rfl)
theorem TM:(rc s st ck ni nd a b c d e w)[39]?=some (AI nd):=(rfl)
theorem UM:(rc s st ck ni nd a b c d e w)[40]?=some a:=(rfl)
theorem VM:(rc s st ck ni nd a b c d e w)[41]?=some b:=(rfl)
theorem WM:(rc s st ck ni nd a b c d e w)[42]?=some c:=(rfl)
theorem XM:(rc s st ck ni nd a b c d e w)[43]?=some d:=(rfl)
theorem YM:(rc s st ck ni nd a b c d e w)[44]?=some e:=(rfl)
theorem XV:(rc s st ck ni nd a b c d e w)[45]?=some (AB w):=(rfl)
theorem aW:splice (rc s st ck ni nd a b c d e w) 36 [AI x]=rc s x ck ni nd a b c d e w:=(rfl)
theorem bW:splice (rc s st ck ni nd a b c d e w) 37 [AI x]=rc s st x ni nd a b c d e w:=(rfl)
theorem cW:splice (rc s st ck ni nd a b c d e w) 38 [AI x]=rc s st ck x nd a b c d e w:=(rfl)
theorem dW:splice (rc s st ck ni nd a b c d e w) 39 [AI x]=rc s st ck ni x a b c d e w:=(rfl)
theorem eW:splice (rc s st ck ni nd a b c d e w) 40 [o]=rc s st ck ni nd o b c d e w:=(rfl)
theorem fW:splice (rc s st ck ni nd a b c d e w) 41 [o]=rc s st ck ni nd a o c d e w:=(rfl)
theorem gW:splice (rc s st ck ni nd a b c d e w) 42 [o]=rc s st ck ni nd a b o d e w:=(rfl)
theorem iW:splice (rc s st ck ni nd a b c d e w) 43 [o]=rc s st ck ni nd a b c o e w:=(rfl)
theorem jW:splice (rc s st ck ni nd a b c d e w) 44 [o]=rc s st ck ni nd a b c d o w:=(rfl)
variable {q:Cmd}
end
abbrev eN (n:Nat):PV:=eI n
def rh (h:aA)(r:Run)(l:aA):aA:=h ++ .row none (r.sts.map eN) 0 :: .row none (r.frs.map eN) 0 :: .row none (tA r.tms) 0 :: .row none (tA r.tdi) 0 :: .row none (tA r.want) 0 ::
 .box (rc r.se r.st r.ck r.ni r.nd (.own h.length r.sts.length 0 r.sts.length) (.own (h.length+1) r.frs.length 0 r.frs.length) (.own (h.length+2) r.tms.length 0 r.tms.length) (.own (h.length+3) r.tdi.length 0 r.tdi.length) (.own (h.length+4) r.want.length 0 r.want.length) r.wr)::l
structure RunOk (r:Run):Prop where
 t:r.tms.length<=r.ck
 i:r.tdi.length<=r.ck
 w:r.want.length<=r.ck
theorem jK {L:List (UInt8 × UInt8 × UInt8)}(R:RunOk r):RunOk (r.clk L):=by
 unfold Run.clk;have:=R.t;have:=R.i;have:=R.w
 split <;> (refine⟨?_,?_,?_⟩ <;> simp <;> omega)
attribute [local go_sem] ZV YV rc_1 rc_7 TV UV VV WV GF JI RM TM UM VM WM XM YM XV aW bW cW dW eW fW gW iW jW
theorem EW (R:RunOk r)(hck:r.ck<=1000000000)(a b c:UInt8):bA X kH [.ref (h.length+5) 0,.p (.int .u8 a.toNat),.p (.int .u8 b.toNat),.p (.int .u8 c.toNat)] (rh h r l) K=K (.tup []) (rh h (r.clk [(a,b,c)]) l) []:=by
 refine sA ?_;rw[zf9 rfl];have hr:=R.t;have:=R.i;have:=R.w
 have w1:IntKind.i64.wrap ((r.ck:Int)+1)=((r.ck+1:Nat):Int):=BA _ (by omega) (by omega)
 obtain⟨se,st,ck,ni,nd,sts,frs,tms,tdi,want,wr⟩:=r;dsimp only at *;unfold rh Run.clk;have m1:tms.length+1<=LA:=by unfold LA;omega
 have m2:tdi.length+1<=LA:=by unfold LA;omega
 have m3:want.length+1<=LA:=by unfold LA;omega
 have e2:∀k n o m,k<5->rC (h.length+5) (.own (h.length+k) n o m)=[]:=λk n o m hk=>by unfold rC;rw[z4a,if_neg (by omega)]
 have e3:=λn o m=>e2 2 n o m (by decide)
 have e4:=λn o m=>e2 3 n o m (by decide)
 have e5:=λn o m=>e2 4 n o m (by decide)
 cases wr with
 | false=>simp only[rO,go_sem,w1]
 | true=>
  simp only[rO,go_sem,w1,RG,m1,m2,m3,e3,e4,e5,List.take_length];simp [tA]
end
section
variable {h l l2:aA} {K:jA} {r:Run} {n:Nat} {o:Obj}
attribute [-go_sem] SA splice
attribute [local go_sem] ZV YV rc_1 rc_7 TV UV VV WV GF JI RM TM UM VM WM XM YM XV aW bW cW dW eW fW gW iW jW
theorem mG:(rh h r l).length=h.length+(l.length+6):=by unfold rh;simp
theorem NI:rh h r l++l2=rh h r (l++l2):=by unfold rh;simp
theorem vH:(rh h r l)[h.length+(n+6)]?=l[n]?:=by unfold rh;rw[gE];rfl
theorem wH:(rh h r l).set (h.length+(n+6)) o=rh h r (l.set n o):=by unfold rh;rw[rG];rfl
theorem LG:(rh h r l).take (h.length+(n+6))=rh h r (l.take n):=by unfold rh;rw[dJ];rfl
theorem fK:(rh h r l).take h.length=h:=by unfold rh;rw[CN]
theorem mF:(rh h r l)[h.length+5]?=some (.box (rc r.se r.st r.ck r.ni r.nd (.own h.length r.sts.length 0 r.sts.length) (.own (h.length+1) r.frs.length 0 r.frs.length) (.own (h.length+2) r.tms.length 0 r.tms.length) (.own (h.length+3) r.tdi.length 0 r.tdi.length) (.own (h.length+4) r.want.length 0 r.want.length) r.wr)):=by unfold rh;rw[gE];rfl
section
variable {s:Sett} {x y z:Nat}
theorem sQ:(rh h r l).set (h.length+5) (.box (rc s x r.ck y z (.own h.length r.sts.length 0 r.sts.length) (.own (h.length+1) r.frs.length 0 r.frs.length) (.own (h.length+2) r.tms.length 0 r.tms.length) (.own (h.length+3) r.tdi.length 0 r.tdi.length) (.own (h.length+4) r.want.length 0 r.want.length) r.wr))=rh h { r with se:=s,st:=x,ni:=y,nd:=z } l:=by unfold rh;rw[rG];rfl
end
attribute [local go_sem] mG NI vH wH LG fK mF sQ
theorem oR:r.clk []=r:=by unfold Run.clk;split <;> simp
theorem pR {L:List (UInt8 × UInt8 × UInt8)}{x:UInt8 × UInt8 × UInt8}:(r.clk L).clk [x]=r.clk (L++[x]):=by
 unfold Run.clk;cases hw:r.wr <;> simp [hw,Nat.add_assoc]
theorem NN {L:List (UInt8 × UInt8 × UInt8)}:(r.clk L).ck=r.ck+L.length:=(RC r L).2.2.2.2.2.1
theorem kK {tov:Nat}(R:RunOk r):RunOk (r.go kA tov):=by
 have Q:=jK (L:=(kA r.st tov).map λc=>(c,48,120)) R
 exact⟨Q.t,Q.i,Q.w⟩
theorem FJ {tov:Nat}:(r.go kA tov).ck=r.ck+(kA r.st tov).length:=(EB kA r tov).2.2.2.2.2.1
theorem mN (R:RunOk r)(hck:r.ck<=900000000)(hf:r.st∈frS){tov:Nat}(ht:tov∈toS):bA X cG [.ref (h.length+5) 0,AI tov] (rh h r l) K=K (.tup []) (rh h (r.go kA tov) l) []:=by
 refine sA ?_;rw[zfB rfl];have to16:tov<16:=by simp only[toS,List.mem_cons,List.not_mem_nil,or_false]at ht;omega
 have hp:=λ(h':aA) (K':jA)=>zpg (h:=h') (K:=K') (z8a hf) to16
 obtain⟨pb,pl,_⟩:=QB hf ht;have hgo:r.go kA tov={ r.clk ((kA r.st tov).map λc=>(c,48,120)) with st:=tov }:=rfl
 rw[hgo];simp only[iT,go_sem,hp];generalize kA r.st tov=w at pl ⊢;refine bB (λk:Nat=>⟨[(0,.ref (h.length+5) 0),(1,AI tov),(4,AS w),(17,AI w.length),(18,AI k)],rh h (r.clk ((w.take k).map λc=>(c,48,120))) l,[]⟩) (λk=>k<=w.length) (λk=>w.length-k) 0 (by rw[List.take_zero,List.map_nil,oR];rfl) (by omega) ?_
 intro k hk;have hc:=λ(a:UInt8) (K':jA)=>EW (h:=h) (l:=l) (K:=K') (jK (L:=(w.take k).map λc=>(c,48,120)) R) (by rw[NN];simp;omega) a 48 120
 rcases Nat.lt_or_ge k w.length with hlt|hge
 ·have w2:IntKind.i64.wrap ((k:Int)+1)=((k+1:Nat):Int):=BA _ (by omega) (by omega)
  have hg:w[k]?=some w[k]:=List.getElem?_eq_getElem hlt
  have hlt':(k:Int)<(w.length:Int):=by omega
  have hc':=λ(K':jA)=>hc w[k] K'
  simp only[show(((48:UInt8).toNat:Nat):Int)=48 from rfl,show(((120:UInt8).toNat:Nat):Int)=120 from rfl]at hc'
  simp only[go_sem,hlt,hlt',hg,w2,hc'];refine⟨k+1,?_,by omega,by omega⟩
  rw[pR,List.take_succ_eq_append_getElem hlt,List.map_append];rfl
 ·obtain rfl:k=w.length:=by omega
  have hs:=(RC r ((w.map λc=>((c,48,120):UInt8×UInt8×UInt8)))).1
  simp only[go_sem,Nat.lt_irrefl,Int.lt_irrefl,List.take_length]
end
end Go.Am
