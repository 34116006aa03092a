/- Texts of the proof, laid together: Ctx, SpStream, SpMap, MathFrac, SpBase, SpList, PSort, SpShp, SpStr, SpFind, SpLimD, SpLim, SpLotA, SpRecD, PEnt, PFollow, PPass, PReplay, SpFlo1, PSplit, PTxt, PNum, PFlt, PFltR, PWrit, PEntT, SpRec, SpEnt1, SpEnt3, SpEnt2, SpEnt4, SpSortE, SpEnt5, SpIdx, SpLen, SpStrs, SpGenA, SpSome, SpGenL, SpSortRec, SpCompact, SpGenR, PMerge, SpMrgA, SpSort, SpMrgB, SpMrgC, SpMrgD, PFin, SpTxt, AmL4, AmL5, SpSplit, SpLines, SpNum, SpNums, SpQNum, SpFlt1, SpFlt2. -/
import Derived.Shelf.Strings.Repeat
import Derived.Shelf.Strings.SlTrimAscii
import Derived.Shelf.Spec.TrailingZeros
import Derived.Shelf.Strings.Count
import Derived.Shelf.Strings.OnBuilder
import Derived.Test.YtipnhkhacbdlkaaGreatDoorlawBZ6
set_option linter.all false
section
/- The functions together. -/
set_option linter.unusedVariables false
set_option maxRecDepth 100000
namespace Go.Am
def fns:List (Nat × AFun):=[(zfr,zi8),(z8S,ziI),(z8R,ziH),(z1x,ziG),(z9b,ziZ),(z9c,zja),(z6o,zej),(z6r,zek),(z7v,zi9),(z8Q,ziB),(z8T,ziK),(z1M,ziD),(z4M,zea),(z4S,zep),(z4R,zeo),(z1w,zeb),(z8O,zi6),(z3p,zez),(z4k,ze2),(z9d,zjb),(z7y,zem),(z27,ziF),(z1k,ziJ),(z3x,ziC),(z26,ziE),(z8Z,ziW),(z4i,ziN),(z8U,ziM),(z8X,ziU),(z7x,ziL),(z8W,ziS),(z4h,ziA),(z4j,zel),(z0I,zee),(z71,zes),(z7z,zeq),(z76,ze1),(z70,zer),(z3y,zey),(z6t,zet),(z9a,ziY),(z6q,ziT),(z28,ze3),(z3o,ziO),(z2g,ziQ),(z8V,ziP),(z8Y,ziV),(z4Q,zen),(z4N,zec),(z6n,zeg),(z4O,zef),(z74,zex),(z73,zev),(z4T,zew),(z75,ze0),(z6s,ziX),(z7u,zei),(z6p,ziR),(z4P,zeh),(z72,zeu),(z9e,zjc),(z8P,zi7)]
def GRL:List (Nat × Sh):=[]
def PRL:zdi:=[(zlF,trimS),(z7w,zvQ)]
def GLL:List (Nat × PV):=[]
def fnOf:List (Nat × AFun)→Nat→Option AFun
 | [],_=>none
 | (k,F)::r,n=>bif Nat.beq k n then some F else fnOf r n
def X:Ctx:=⟨fnOf fns,glOf GLL,extF z0h z0g,libF GRL PRL⟩
theorem zf1 {p:Nat→AFun→Bool}:∀ (l:List (Nat × AFun)),(l.all fun y=>p y.1 y.2)=true→∀ n F,fnOf l n=some F→p n F=true
 | [],_,n,F,h=>by cases h
 | (k,G)::r,ha,n,F,h=>by
  simp only[List.all_cons,Bool.and_eq_true] at ha
  simp only[fnOf] at h
  cases hk:Nat.beq k n with
  | true=>
   rw[hk] at h
   have:=Nat.eq_of_beq_eq_true hk
   simp only[cond_true,Option.some.injEq] at h
   subst this;subst h;exact ha.1
  | false=>
   rw[hk] at h
   exact zf1 r ha.2 n F h
def fns0:List (Nat × AFun):=[(z6o,zej),(z6r,zek),(z7w,a_q02x),(z4M,zea),(z4S,zep),(z4R,zeo),(z1w,zeb),(z3p,zez),(z4k,ze2),(z7y,zem),(zs5,a_q00e),(zsX,a_q02y),(zsL,a_q012),(ztg,a_q0a0),(zsS,a_q025),(ztd,a_q07u),(z4j,zel),(z0I,zee),(z71,zes),(z7z,zeq),(z76,ze1),(z70,zer),(z3y,zey),(z6t,zet),(zs3,a_q00c),(zsE,a_q00o),(zfq,a_q00p),(zsK,a_q011),(ztf,a_q09z),(zlI,a_q0a4),(zsV,a_q02j),(zsU,a_q02i),(zlD,a_q003),(z28,ze3),(z4Q,zen),(z4N,zec),(z6n,zeg),(z4O,zef),(z74,zex),(z73,zev),(z4T,zew),(z75,ze0),(zs4,a_q00d),(z7t,a_q000),(zs8,a_q00h),(zsZ,a_q05e),(zsM,a_q013),(zsO,a_q015),(zsR,a_q018),(zsQ,a_q017),(zsP,a_q016),(zti,a_q0a3),(zto,a_q0ac),(ztk,a_q0a7),(zsW,a_q02k),(zsT,a_q02d),(zs2,a_q004),(z7u,zei),(z4P,zeh),(z72,zeu),(zs9,a_q00i),(zsD,a_q00n),(zsF,a_q00q),(zsJ,a_q010),(zsI,a_q00z),(ztn,a_q0ab),(zlH,a_q0a1),(ztl,a_q0a9),(zth,a_q0a2),(ztm,a_q0aa),(ztj,a_q0a6),(zcq,a_q0a8),(zft,a_q0a5),(zs7,a_q00g),(zcp,a_q00m),(zlE,a_q05g),(zsA,a_q00j),(zsG,a_q00r),(zs6,a_q00f),(zsN,a_q014),(zta,a_q05j),(zte,a_q09n),(ztb,a_q05t),(zsB,a_q00k),(zsH,a_q00s),(ztc,a_q05y),(zlG,a_q09o),(z78,ze4),(zsY,a_q05a),(zsC,a_q00l),(z77,zaO)]
def PRL0:zdi:=[(zlF,trimS)]
def X0:Ctx:=⟨fnOf fns0,glOf GLL,extF z0h z0g,libF GRL PRL0⟩
theorem zdV:X0.fn z78=some ze4:=by kernel_rfl
theorem zdU:X0.fn z77=some zaO:=by kernel_rfl
theorem zdZ:X.NoNext:=fun f F h=>zf1 (p:=fun _ F=>F.isDet||F.body.noNext) fns (by kernel_rfl) f F h
theorem x_q02t:X.fn zfr=some zi8:=by kernel_rfl
theorem c_q02t {u0 v0:AV} {h h1:Heap} {P:Post} (hp:z0u h [u0]=some ([v0],h1)):z0d X zfr [u0] h P=zjK (z0d X) X.gl v0 h1 [] (finR [.t 2] false h.length P):=by rw[z0j x_q02t rfl hp rfl];exact e_q02t
theorem x_q03q:X.fn z8S=some ziI:=by kernel_rfl
theorem c_q03q {u0 v0:AV} {h h1:Heap} {P:Post} (hp:z0u h [u0]=some ([v0],h1)):z0d X z8S [u0] h P=zjP (z0d X) X.gl v0 h1 [] (finR [.cell 2 (some 2)] false h.length P):=by rw[z0j x_q03q rfl hp rfl];exact e_q03q
theorem x_q03p:X.fn z8R=some ziH:=by kernel_rfl
theorem c_q03p {u0 u1 v0 v1:AV} {h h1:Heap} {P:Post} (hp:z0u h [u0,u1]=some ([v0,v1],h1)):z0d X z8R [u0,u1] h P=zeQ (z0d X) X.gl z2E z5k v0 v1 h1 [] (finR [.t 4] false h.length P):=by rw[z0j x_q03p rfl hp rfl];exact e_q03p
theorem x_q03k:X.fn z1x=some ziG:=by kernel_rfl
theorem c_q03k {u0 u1 u2 v0 v1 v2:AV} {h h1:Heap} {P:Post} (hp:z0u h [u0,u1,u2]=some ([v0,v1,v2],h1)):z0d X z1x [u0,u1,u2] h P=zjO (z0d X) X.gl v0 v1 v2 h1 [] (finR [.t 6] false h.length P):=by rw[z0j x_q03k rfl hp rfl];exact e_q03k
theorem x_q07q:X.fn z9b=some ziZ:=by kernel_rfl
theorem c_q07q {u0 u1 u2 u3 v0 v1 v2 v3:AV} {h h1:Heap} {P:Post} (hp:z0u h [u0,u1,u2,u3]=some ([v0,v1,v2,v3],h1)):z0d X z9b [u0,u1,u2,u3] h P=z8J (z0d X) X.gl z2M z5s v0 v1 v2 v3 h1 [] (finR [.t 8,.t 9] false h.length P):=by rw[z0j x_q07q rfl hp rfl];exact e_q07q
theorem x_q080:X.fn z9c=some zja:=by kernel_rfl
theorem c_q080 {u0 u1 u2 u3 v0 v1 v2 v3:AV} {h h1:Heap} {P:Post} (hp:z0u h [u0,u1,u2,u3]=some ([v0,v1,v2,v3],h1)):z0d X z9c [u0,u1,u2,u3] h P=zbI (z0d X) X.gl z2P z5v v0 v1 v2 v3 h1 [] (finR [.t 8,.t 9] false h.length P):=by rw[z0j x_q080 rfl hp rfl];exact e_q080
theorem x_q02w:X.fn z6o=some zej:=by kernel_rfl
theorem c_q02w {u0 v0:AV} {h h1:Heap} {P:Post} (hp:z0u h [u0]=some ([v0],h1)):z0d X z6o [u0] h P=zeM (z0d X) X.gl z2C z5f v0 h1 [] (finR [.t 2] false h.length P):=by rw[z0j x_q02w rfl hp rfl];exact e_q02w
theorem x_q05i:X.fn z6r=some zek:=by kernel_rfl
theorem c_q05i {u0 u1 h P}:z0d X z6r [u0,u1] h P=zjV (z0d X) X.gl u0 u1 h [] (finR [.t 4] false h.length P):=by rw[z1W x_q05i rfl rfl];exact e_q05i
theorem x_q02u:X.fn z7v=some zi9:=by kernel_rfl
theorem c_q02u {u0 v0:AV} {h h1:Heap} {P:Post} (hp:z0u h [u0]=some ([v0],h1)):z0d X z7v [u0] h P=zjL (z0d X) X.gl v0 h1 [] (finR [.t 2] false h.length P):=by rw[z0j x_q02u rfl hp rfl];exact e_q02u
theorem x_q03c:X.fn z8Q=some ziB:=by kernel_rfl
theorem c_q03c {u0 u1 v0 v1:AV} {h h1:Heap} {P:Post} (hp:z0u h [u0,u1]=some ([v0,v1],h1)):z0d X z8Q [u0,u1] h P=zeO (z0d X) X.gl z2D z38 v0 v1 h1 [] (finR [.t 4] false h.length P):=by rw[z0j x_q03c rfl hp rfl];exact e_q03c
theorem x_q03v:X.fn z8T=some ziK:=by kernel_rfl
theorem c_q03v {u0 v0:AV} {h h1:Heap} {P:Post} (hp:z0u h [u0]=some ([v0],h1)):z0d X z8T [u0] h P=zbt (z0d X) X.gl z2F z5l v0 h1 [] (finR [.t 2] false h.length P):=by rw[z0j x_q03v rfl hp rfl];exact e_q03v
theorem x_q03h:X.fn z1M=some ziD:=by kernel_rfl
theorem c_q03h {u0 u1 v0 v1:AV} {h h1:Heap} {P:Post} (hp:z0u h [u0,u1]=some ([v0,v1],h1)):z0d X z1M [u0,u1] h P=zeP (z0d X) X.gl v0 v1 h1 [] (finR [.t 4] false h.length P):=by rw[z0j x_q03h rfl hp rfl];exact e_q03h
theorem x_q002:X.fn z4M=some zea:=by kernel_rfl
theorem c_q002 {u0 v0:AV} {h h1:Heap} {P:Post} (hp:z0u h [u0]=some ([v0],h1)):z0d X z4M [u0] h P=zeJ (z0d X) X.gl z29 z5c v0 h1 [] (finR [.t 2] false h.length P):=by rw[z0j x_q002 rfl hp rfl];exact e_q002
theorem x_q07s:X.fn z4S=some zep:=by kernel_rfl
theorem c_q07s {u0 v0:AV} {h h1:Heap} {P:Post} (hp:z0u h [u0]=some ([v0],h1)):z0d X z4S [u0] h P=z8K (z0d X) X.gl z2O z5u v0 h1 [] (finR [.t 2] false h.length P):=by rw[z0j x_q07s rfl hp rfl];exact e_q07s
theorem x_q07r:X.fn z4R=some zeo:=by kernel_rfl
theorem c_q07r {u0 v0:AV} {h h1:Heap} {P:Post} (hp:z0u h [u0]=some ([v0],h1)):z0d X z4R [u0] h P=zbE (z0d X) X.gl z2N z5t v0 h1 [] (finR [.t 2] false h.length P):=by rw[z0j x_q07r rfl hp rfl];exact e_q07r
theorem x_q005:X.fn z1w=some zeb:=by kernel_rfl
theorem c_q005 {u0 v0:AV} {h h1:Heap} {P:Post} (hp:z0u h [u0]=some ([v0],h1)):z0d X z1w [u0] h P=z6g (z0d X) X.gl z2A z5d v0 h1 [] (finR [.t 2] false h.length P):=by rw[z0j x_q005 rfl hp rfl];exact e_q005
theorem x_q00b:X.fn z8O=some zi6:=by kernel_rfl
theorem c_q00b {u0 v0:AV} {h h1:Heap} {P:Post} (hp:z0u h [u0]=some ([v0],h1)):z0d X z8O [u0] h P=zeK (z0d X) X.gl v0 h1 [] (finR [.t 2] false h.length P):=by rw[z0j x_q00b rfl hp rfl];exact e_q00b
theorem x_q08d:X.fn z3p=some zez:=by kernel_rfl
theorem c_q08d {u0 u1 v0 v1:AV} {h h1:Heap} {P:Post} (hp:z0u h [u0,u1]=some ([v0,v1],h1)):z0d X z3p [u0,u1] h P=zfa (z0d X) X.gl z2S z52 v0 v1 h1 [] (finR [.t 4] false h.length P):=by rw[z0j x_q08d rfl hp rfl];exact e_q08d
theorem x_q08l:X.fn z4k=some ze2:=by kernel_rfl
theorem c_q08l {u0 u1 v0 v1:AV} {h h1:Heap} {P:Post} (hp:z0u h [u0,u1]=some ([v0,v1],h1)):z0d X z4k [u0,u1] h P=zfd (z0d X) X.gl z2U z55 v0 v1 h1 [] (finR [.t 4] false h.length P):=by rw[z0j x_q08l rfl hp rfl];exact e_q08l
theorem x_q08j:X.fn z9d=some zjb:=by kernel_rfl
theorem c_q08j {u0 u1 u2 u3 v0 v1 v2 v3:AV} {h h1:Heap} {P:Post} (hp:z0u h [u0,u1,u2,u3]=some ([v0,v1,v2,v3],h1)):z0d X z9d [u0,u1,u2,u3] h P=z8M (z0d X) X.gl z53 v0 v1 v2 v3 h1 [] (finR [.t 8] false h.length P):=by rw[z0j x_q08j rfl hp rfl];exact e_q08j
theorem x_q05w:X.fn z7y=some zem:=by kernel_rfl
theorem c_q05w {u0 u1 h P}:z0d X z7y [u0,u1] h P=zeU (z0d X) X.gl z2I z5p u0 u1 h [] (finR [.t 4] false h.length P):=by rw[z1W x_q05w rfl rfl];exact e_q05w
theorem x_q03j:X.fn z27=some ziF:=by kernel_rfl
theorem c_q03j {u0 u1 v0 v1:AV} {h h1:Heap} {P:Post} (hp:z0u h [u0,u1]=some ([v0,v1],h1)):z0d X z27 [u0,u1] h P=zjN (z0d X) X.gl v0 v1 h1 [] (finR [.t 4] false h.length P):=by rw[z0j x_q03j rfl hp rfl];exact e_q03j
theorem x_q03s:X.fn z1k=some ziJ:=by kernel_rfl
theorem c_q03s {u0 u1 v0 v1:AV} {h h1:Heap} {P:Post} (hp:z0u h [u0,u1]=some ([v0,v1],h1)):z0d X z1k [u0,u1] h P=zjQ (z0d X) X.gl v0 v1 h1 [] (finR [.t 4] false h.length P):=by rw[z0j x_q03s rfl hp rfl];exact e_q03s
theorem x_q03f:X.fn z3x=some ziC:=by kernel_rfl
theorem c_q03f {u0 u1 v0 v1:AV} {h h1:Heap} {P:Post} (hp:z0u h [u0,u1]=some ([v0,v1],h1)):z0d X z3x [u0,u1] h P=zjM (z0d X) X.gl v0 v1 h1 [] (finR [.t 4] false h.length P):=by rw[z0j x_q03f rfl hp rfl];exact e_q03f
theorem x_q03i:X.fn z26=some ziE:=by kernel_rfl
theorem zeB {u0 u1 u2 v0 v1 v2:AV} {h h1:Heap} {P:Post} (hp:z0u h [u0,u1,u2]=some ([v0,v1,v2],h1)):z0d X z26 [u0,u1,u2] h P=z8H (z0d X) X.gl v0 v1 v2 h1 [] (finR [.t 6] false h.length P):=by rw[z0j x_q03i rfl hp rfl];exact e_q03i
theorem x_q062:X.fn z8Z=some ziW:=by kernel_rfl
theorem c_q062 {u0 u1 h P}:z0d X z8Z [u0,u1] h P=zjX (z0d X) X.gl u0 u1 h [] (finR [] false h.length P):=by rw[z1W x_q062 rfl rfl];exact e_q062
theorem x_q041:X.fn z4i=some ziN:=by kernel_rfl
theorem zsx {u0 u1 v0 v1:AV} {h h1:Heap} {P:Post} (hp:z0u h [u0,u1]=some ([v0,v1],h1)):z0d X z4i [u0,u1] h P=z6i (z0d X) X.gl v0 v1 h1 [] (finR [.t 4] false h.length P):=by rw[z0j x_q041 rfl hp rfl];exact e_q041
theorem x_q03z:X.fn z8U=some ziM:=by kernel_rfl
theorem c_q03z {u0 v0:AV} {h h1:Heap} {P:Post} (hp:z0u h [u0]=some ([v0],h1)):z0d X z8U [u0] h P=z6h (z0d X) X.gl z5m v0 h1 [] (finR [.t 2] false h.length P):=by rw[z0j x_q03z rfl hp rfl];exact e_q03z
theorem x_q05h:X.fn z8X=some ziU:=by kernel_rfl
theorem c_q05h {u0 u1 h P}:z0d X z8X [u0,u1] h P=zjU (z0d X) X.gl u0 u1 h [] (finR [.t 4] false h.length P):=by rw[z1W x_q05h rfl rfl];exact e_q05h
theorem x_q03w:X.fn z7x=some ziL:=by kernel_rfl
theorem c_q03w {u0 u1 v0 v1:AV} {h h1:Heap} {P:Post} (hp:z0u h [u0,u1]=some ([v0,v1],h1)):z0d X z7x [u0,u1] h P=zjR (z0d X) X.gl v0 v1 h1 [] (finR [.t 3] false h.length P):=by rw[z0j x_q03w rfl hp rfl];exact e_q03w
theorem x_q056:X.fn z8W=some ziS:=by kernel_rfl
theorem c_q056 {u0 u1 v0 v1:AV} {h h1:Heap} {P:Post} (hp:z0u h [u0,u1]=some ([v0,v1],h1)):z0d X z8W [u0,u1] h P=zeS (z0d X) X.gl v0 v1 h1 [] (finR [.t 4] false h.length P):=by rw[z0j x_q056 rfl hp rfl];exact e_q056
theorem x_q039:X.fn z4h=some ziA:=by kernel_rfl
theorem c_q039 {u0 u1 v0 v1:AV} {h h1:Heap} {P:Post} (hp:z0u h [u0,u1]=some ([v0,v1],h1)):z0d X z4h [u0,u1] h P=zeN (z0d X) X.gl z5g v0 v1 h1 [] (finR [.t 4] false h.length P):=by rw[z0j x_q039 rfl hp rfl];exact e_q039
theorem x_q05k:X.fn z4j=some zel:=by kernel_rfl
theorem c_q05k {u0 u1 h P}:z0d X z4j [u0,u1] h P=zjW (z0d X) X.gl u0 u1 h [] (finR [.t 4] false h.length P):=by rw[z1W x_q05k rfl rfl];exact e_q05k
theorem x_q00a:X.fn z0I=some zee:=by kernel_rfl
theorem c_q00a {u0 u1 u2 v0 v1 v2:AV} {h h1:Heap} {P:Post} (hp:z0u h [u0,u1,u2]=some ([v0,v1,v2],h1)):z0d X z0I [u0,u1,u2] h P=zjG (z0d X) X.gl v0 v1 v2 h1 [] (finR [.t 6] false h.length P):=by rw[z0j x_q00a rfl hp rfl];exact e_q00a
theorem x_q084:X.fn z71=some zes:=by kernel_rfl
theorem c_q084 {u0 v0:AV} {h h1:Heap} {P:Post} (hp:z0u h [u0]=some ([v0],h1)):z0d X z71 [u0] h P=z4H (z0d X) X.gl v0 h1 [] (finR [.t 2] false h.length P):=by rw[z0j x_q084 rfl hp rfl];exact e_q084
theorem x_q082:X.fn z7z=some zeq:=by kernel_rfl
theorem c_q082 {u0 u1 v0 v1:AV} {h h1:Heap} {P:Post} (hp:z0u h [u0,u1]=some ([v0,v1],h1)):z0d X z7z [u0,u1] h P=zjY (z0d X) X.gl v0 v1 h1 [] (finR [.t 4] false h.length P):=by rw[z0j x_q082 rfl hp rfl];exact e_q082
theorem x_q08k:X.fn z76=some ze1:=by kernel_rfl
theorem c_q08k {u0 v0:AV} {h h1:Heap} {P:Post} (hp:z0u h [u0]=some ([v0],h1)):z0d X z76 [u0] h P=zfc (z0d X) X.gl z2T z54 v0 h1 [] (finR [.t 2] false h.length P):=by rw[z0j x_q08k rfl hp rfl];exact e_q08k
theorem x_q083:X.fn z70=some zer:=by kernel_rfl
theorem c_q083 {u0 v0:AV} {h h1:Heap} {P:Post} (hp:z0u h [u0]=some ([v0],h1)):z0d X z70 [u0] h P=zeY (z0d X) X.gl z2Q z5w v0 h1 [] (finR [.t 2] false h.length P):=by rw[z0j x_q083 rfl hp rfl];exact e_q083
theorem x_q08a:X.fn z3y=some zey:=by kernel_rfl
theorem zeC {u0 u1 v0 v1:AV} {h h1:Heap} {P:Post} (hp:z0u h [u0,u1]=some ([v0,v1],h1)):z0d X z3y [u0,u1] h P=z2e (z0d X) X.gl z50 z51 v0 v1 h1 [] (finR [.t 4] false h.length P):=by rw[z0j x_q08a rfl hp rfl];exact e_q08a
theorem x_q085:X.fn z6t=some zet:=by kernel_rfl
theorem c_q085 {u0 u1 u2 v0 v1 v2:AV} {h h1:Heap} {P:Post} (hp:z0u h [u0,u1,u2]=some ([v0,v1,v2],h1)):z0d X z6t [u0,u1,u2] h P=zjZ (z0d X) X.gl v0 v1 v2 h1 [] (finR [.t 6] false h.length P):=by rw[z0j x_q085 rfl hp rfl];exact e_q085
theorem x_q07g:X.fn z9a=some ziY:=by kernel_rfl
theorem c_q07g {u0 u1 u2 h P}:z0d X z9a [u0,u1,u2] h P=zeX (z0d X) X.gl z2L z5r u0 u1 u2 h [] (finR [] false h.length P):=by rw[z1W x_q07g rfl rfl];exact e_q07g
theorem x_q057:X.fn z6q=some ziT:=by kernel_rfl
theorem c_q057 {u0 v0:AV} {h h1:Heap} {P:Post} (hp:z0u h [u0]=some ([v0],h1)):z0d X z6q [u0] h P=zbz (z0d X) X.gl v0 h1 [] (finR [.t 2] false h.length P):=by rw[z0j x_q057 rfl hp rfl];exact e_q057
theorem x_q091:X.fn z28=some ze3:=by kernel_rfl
theorem c_q091 {u0 u1 v0 v1:AV} {h h1:Heap} {P:Post} (hp:z0u h [u0,u1]=some ([v0,v1],h1)):z0d X z28 [u0,u1] h P=zkb (z0d X) X.gl v0 v1 h1 [] (finR [.t 4] false h.length P):=by rw[z0j x_q091 rfl hp rfl];exact e_q091
theorem x_q043:X.fn z3o=some ziO:=by kernel_rfl
theorem c_q043 {u0 v0:AV} {h h1:Heap} {P:Post} (hp:z0u h [u0]=some ([v0],h1)):z0d X z3o [u0] h P=z8I (z0d X) X.gl v0 h1 [] (finR [.t 2] false h.length P):=by rw[z0j x_q043 rfl hp rfl];exact e_q043
theorem x_q050:X.fn z2g=some ziQ:=by kernel_rfl
theorem c_q050 {u0 u1 u2 v0 v1 v2:AV} {h h1:Heap} {P:Post} (hp:z0u h [u0,u1,u2]=some ([v0,v1,v2],h1)):z0d X z2g [u0,u1,u2] h P=zjT (z0d X) X.gl v0 v1 v2 h1 [] (finR [.t 6] false h.length P):=by rw[z0j x_q050 rfl hp rfl];exact e_q050
theorem x_q046:X.fn z8V=some ziP:=by kernel_rfl
theorem c_q046 {u0 v0:AV} {h h1:Heap} {P:Post} (hp:z0u h [u0]=some ([v0],h1)):z0d X z8V [u0] h P=zjS (z0d X) X.gl v0 h1 [] (finR [.t 2] false h.length P):=by rw[z0j x_q046 rfl hp rfl];exact e_q046
theorem x_q05u:X.fn z8Y=some ziV:=by kernel_rfl
theorem c_q05u {u0 u1 h P}:z0d X z8Y [u0,u1] h P=zeT (z0d X) X.gl z2H z5o u0 u1 h [] (finR [.t 4] false h.length P):=by rw[z1W x_q05u rfl rfl];exact e_q05u
theorem x_q05z:X.fn z4Q=some zen:=by kernel_rfl
theorem c_q05z {u0 u1 h P}:z0d X z4Q [u0,u1] h P=zeV (z0d X) X.gl z2J z5q u0 u1 h [] (finR [.t 4] false h.length P):=by rw[z1W x_q05z rfl rfl];exact e_q05z
theorem x_q007:X.fn z4N=some zec:=by kernel_rfl
theorem c_q007 {u0 v0:AV} {h h1:Heap} {P:Post} (hp:z0u h [u0]=some ([v0],h1)):z0d X z4N [u0] h P=zjF (z0d X) X.gl v0 h1 [] (finR [.t 2] false h.length P):=by rw[z0j x_q007 rfl hp rfl];exact e_q007
theorem x_q00v:X.fn z6n=some zeg:=by kernel_rfl
theorem c_q00v {u0 v0:AV} {h h1:Heap} {P:Post} (hp:z0u h [u0]=some ([v0],h1)):z0d X z6n [u0] h P=zeL (z0d X) X.gl z2B z5e v0 h1 [] (finR [.t 2] false h.length P):=by rw[z0j x_q00v rfl hp rfl];exact e_q00v
theorem x_q00t:X.fn z4O=some zef:=by kernel_rfl
theorem c_q00t {u0 u1 v0 v1:AV} {h h1:Heap} {P:Post} (hp:z0u h [u0,u1]=some ([v0,v1],h1)):z0d X z4O [u0,u1] h P=zbh (z0d X) X.gl v0 v1 h1 [] (finR [.t 4] false h.length P):=by rw[z0j x_q00t rfl hp rfl];exact e_q00t
theorem x_q089:X.fn z74=some zex:=by kernel_rfl
theorem c_q089 {u0 u1 u2 v0 v1 v2:AV} {h h1:Heap} {P:Post} (hp:z0u h [u0,u1,u2]=some ([v0,v1,v2],h1)):z0d X z74 [u0,u1,u2] h P=z8L (z0d X) X.gl v0 v1 v2 h1 [] (finR [.t 6] false h.length P):=by rw[z0j x_q089 rfl hp rfl];exact e_q089
theorem x_q087:X.fn z73=some zev:=by kernel_rfl
theorem c_q087 {u0 u1 u2 v0 v1 v2:AV} {h h1:Heap} {P:Post} (hp:z0u h [u0,u1,u2]=some ([v0,v1,v2],h1)):z0d X z73 [u0,u1,u2] h P=z4I (z0d X) X.gl z5x z5y v0 v1 v2 h1 [] (finR [.t 6] false h.length P):=by rw[z0j x_q087 rfl hp rfl];exact e_q087
theorem x_q088:X.fn z4T=some zew:=by kernel_rfl
theorem c_q088 {u0 u1 u2 v0 v1 v2:AV} {h h1:Heap} {P:Post} (hp:z0u h [u0,u1,u2]=some ([v0,v1,v2],h1)):z0d X z4T [u0,u1,u2] h P=zeZ (z0d X) X.gl z2R z5z v0 v1 v2 h1 [] (finR [] false h.length P):=by rw[z0j x_q088 rfl hp rfl];exact e_q088
theorem x_q08g:X.fn z75=some ze0:=by kernel_rfl
theorem c_q08g {u0 v0:AV} {h h1:Heap} {P:Post} (hp:z0u h [u0]=some ([v0],h1)):z0d X z75 [u0] h P=zfb (z0d X) X.gl v0 h1 [] (finR [.t 2] false h.length P):=by rw[z0j x_q08g rfl hp rfl];exact e_q08g
theorem x_q06g:X.fn z6s=some ziX:=by kernel_rfl
theorem c_q06g {u0 u1 u2 u3 h P}:z0d X z6s [u0,u1,u2,u3] h P=zeW (z0d X) X.gl z2K u0 u1 u2 u3 h [] (finR [] false h.length P):=by rw[z1W x_q06g rfl rfl];exact e_q06g
theorem x_q01b:X.fn z7u=some zei:=by kernel_rfl
theorem c_q01b {u0 u1 v0 v1:AV} {h h1:Heap} {P:Post} (hp:z0u h [u0,u1]=some ([v0,v1],h1)):z0d X z7u [u0,u1] h P=zjI (z0d X) X.gl v0 v1 h1 [] (finR [.t 4] false h.length P):=by rw[z0j x_q01b rfl hp rfl];exact e_q01b
theorem x_q051:X.fn z6p=some ziR:=by kernel_rfl
theorem c_q051 {u0 u1 v0 v1:AV} {h h1:Heap} {P:Post} (hp:z0u h [u0,u1]=some ([v0,v1],h1)):z0d X z6p [u0,u1] h P=zeR (z0d X) X.gl z2G z5n v0 v1 h1 [] (finR [.t 4] false h.length P):=by rw[z0j x_q051 rfl hp rfl];exact e_q051
theorem x_q00w:X.fn z4P=some zeh:=by kernel_rfl
theorem c_q00w {u0 v0:AV} {h h1:Heap} {P:Post} (hp:z0u h [u0]=some ([v0],h1)):z0d X z4P [u0] h P=zjH (z0d X) X.gl v0 h1 [] (finR [.t 2] false h.length P):=by rw[z0j x_q00w rfl hp rfl];exact e_q00w
theorem x_q086:X.fn z72=some zeu:=by kernel_rfl
theorem c_q086 {u0 u1 v0 v1:AV} {h h1:Heap} {P:Post} (hp:z0u h [u0,u1]=some ([v0,v1],h1)):z0d X z72 [u0,u1] h P=zka (z0d X) X.gl v0 v1 h1 [] (finR [.t 4] false h.length P):=by rw[z0j x_q086 rfl hp rfl];exact e_q086
theorem x_q097:X.fn z9e=some zjc:=by kernel_rfl
theorem c_q097 {u0 u1 v0 v1:AV} {h h1:Heap} {P:Post} (hp:z0u h [u0,u1]=some ([v0,v1],h1)):z0d X z9e [u0,u1] h P=zkc (z0d X) X.gl v0 v1 h1 [] (finR [.t 4] false h.length P):=by rw[z0j x_q097 rfl hp rfl];exact e_q097
theorem x_q01z:X.fn z8P=some zi7:=by kernel_rfl
theorem c_q01z {u0 u1 v0 v1:AV} {h h1:Heap} {P:Post} (hp:z0u h [u0,u1]=some ([v0,v1],h1)):z0d X z8P [u0,u1] h P=zjJ (z0d X) X.gl v0 v1 h1 [] (finR [.t 4] false h.length P):=by rw[z0j x_q01z rfl hp rfl];exact e_q01z
attribute [go_sem] zk4 zk5 zmq zbr zbs zkR zkS zkT zkU zm2 zbB zbC z7f zbD zkY zkZ zla zm5 zbJ z7g zbK zkx zky zmo zbk zbl z7o zk0 z25 z7p zk1 zk2 zk3 zmp zbn zbo z1v z2d zbp z7a
attribute [go_sem] zbq zk6 zk7 zk8 z7q zmr zms zbu zbv zbw z4F zkr zks zml zbd zbe zkX z7r zm4 zbH z4G zkV zkW zm3 zbF zbG zkt zku zmm zbf zbg zln zlo zlp zm8 zbT z7l zbU zlt zlu
attribute [go_sem] zmA zbY zbZ zlq zbV zkE zkF zmv zb2 zb3 zk9 z0O zkz zbm zlr zls zm9 zbW zbX zlb zlc zld zm6 zbL z7h zbM zlk zll zlm zbR zbS z7k zkL zkM zkN zkO zkP zkQ zmz zm0
attribute [go_sem] zm1 zb8 zb9 zbA z7c z7d z7e zkC zkD zmu zb0 zb1 zkG zkH zmw zb4 zb5 zkv zkw zmn zbi zbj zle zlf zlg zbN zbO z7i zlh zli zlj zm7 zbP z7j zbQ zkI zkJ zkK zmx zmy
attribute [go_sem] zb6 zb7 z7b zkA zkB zmt zbx zby zlv zlw zlx zly zmB zmC zca z7m z7n zcb
end Go.Am
end
section
/- The stream of numbers out of which the laws draw. -/
open Go
namespace Go.Am
abbrev eI (n:Int):PV:=.int .i64 n
abbrev AL (l:List Int):AV:=.p (.sl none (l.map eI))
abbrev strm (L:List Int) (a:Int):Obj:=.box [AL L,AI a]
def zaU (x n:Int):Int:=if n<1 then 0 else if x.tmod n<0 then IntKind.i64.wrap (x.tmod n+n) else x.tmod n
theorem zoM (x n:Int) (h:Heap) (K:Post):z0d X z4h [AI x,AI n] h K=K (AI (zaU x n)) h []:=by
 refine rule ?_
 rw[c_q039 rfl]
 simp only[zeN,go_sem]
 unfold zaU
 by_cases h1:n<1
 ·simp only[h1,if_true]
 ·simp only[h1,if_false,show ¬ n=0 by omega]
  split <;> rfl
theorem zpQ (x n:Int) (h1:1≤n) (h2:n≤4611686018427387904):0≤zaU x n∧zaU x n<n:=by
 unfold zaU
 rw[if_neg (by omega)]
 have:=Int.tmod_lt_of_pos x (show 0<n by omega)
 have h3 : -n<x.tmod n:=by
  have:=Int.lt_tmod_of_pos x (show 0<n by omega)
  exact this
 split
 ·rw[z0k _ (by omega) (by omega)];omega
 ·omega
def z14 (L:List Int) (a n:Int):Int:=
 if L.length=0 then zaU (IntKind.i64.wrap ((a+1)*7919)) n
 else zaU (IntKind.i64.wrap (zaU (L.getD (a.tmod L.length).toNat 0) 1073741824+IntKind.i64.wrap (IntKind.i64.wrap (a.tdiv L.length)*IntKind.i64.wrap (7919+a.tmod L.length)))) n
theorem z5b (L:List Int) (a n:Int) (h1:1≤n) (h2:n≤4611686018427387904):0≤z14 L a n∧z14 L a n<n:=by
 unfold z14
 split <;> exact zpQ _ _ h1 h2
theorem z3Z {h:Heap} {id:Nat} {o':Obj} (hid:id<h.length):(h.set id o')[id]?=some o':=by simp [hid]
theorem z7C {h:Heap} {id:Nat} {o:Obj} (hh:h[id]?=some o):id<h.length:=(List.getElem?_eq_some_iff.1 hh).1
def posN (n:Nat) (a:Int):Prop:=0≤a∧a+n<4611686018427387904
theorem z0J {n m:Nat} {a b:Int} (H:posN m a) (h:a≤b) (hn:b+n≤a+m):posN n b:=by unfold posN at *;omega
theorem z57 {a:Int} (H:posN 14 a):posN 0 (a)∧posN 0 (a+1)∧posN 0 (a+1+1)∧posN 0 (a+1+1+1)∧posN 0 (a+1+1+1+1)∧posN 0 (a+1+1+1+1+1)∧posN 0 (a+1+1+1+1+1+1)∧posN 0 (a+1+1+1+1+1+1+1)∧posN 0 (a+1+1+1+1+1+1+1+1)∧posN 0 (a+1+1+1+1+1+1+1+1+1)∧posN 0 (a+1+1+1+1+1+1+1+1+1+1)∧posN 0 (a+1+1+1+1+1+1+1+1+1+1+1)∧posN 0 (a+1+1+1+1+1+1+1+1+1+1+1+1)∧posN 0 (a+1+1+1+1+1+1+1+1+1+1+1+1+1)∧posN 0 (a+1+1+1+1+1+1+1+1+1+1+1+1+1+1):=by
 unfold posN at *;omega
def Gen (f:Nat) (args:List AV) (L:List Int) (a a2:Int) (v:AV):Prop:=∀ (h:Heap) (id:Nat) (K:Post),h[id]?=some (strm L a)→z0d X f (.ref id 0::args) h K=K v (h.set id (strm L a2)) []
section
variable {f:Nat} {args:List AV} {L:List Int} {a a2:Int} {v:AV} {h l:Heap} {id:Nat} {K:Post}
theorem Gen.set (g:Gen f args L a a2 v) (hid:id<h.length):z0d X f (.ref id 0::args) (h.set id (strm L a)) K=K v (h.set id (strm L a2)) []:=by
 rw[g _ _ _ (z3Z hid),List.set_set]
theorem Gen.app (g:Gen f args L a a2 v) (hid:id<h.length):z0d X f (.ref id 0::args) (h.set id (strm L a)++l) K=K v (h.set id (strm L a2)++l) []:=by
 rw[g _ _ _ (by rw[zlY (by simpa using hid)];exact z3Z hid),zoY (by simpa using hid),List.set_set]
theorem Gen.hd (g:Gen f args L a a2 v):z0d X f (.ref 0 0::args) (strm L a::l) K=K v (strm L a2::l) []:=by
 rw[g _ _ _ rfl];rfl
theorem Gen.of (H:∀ (h:Heap) (id:Nat),id<h.length→z0d X f (.ref id 0::args) (h.set id (strm L a)) fun v1 h1 x1=>v1=v∧h1=h.set id (strm L a2)∧x1=[]):Gen f args L a a2 v:=by
 intro h id K hh
 have hid:=z7C hh
 have:h.set id (strm L a)=h:=by
  apply List.ext_getElem?
  intro i
  rw[List.getElem?_set]
  split
  ·rename_i e;subst e;rw[hh]
  ·rfl
 have k:=H h id hid
 rw[this] at k
 exact rule k
end
def GenE (f:Nat) (args:List AV) (L:List Int) (a:Int) (Q:AV→Int→Prop):Prop:=∀ (h:Heap) (id:Nat),h[id]?=some (strm L a)→∃ v a2,Q v a2∧∀ K:Post,z0d X f (.ref id 0::args) h K=K v (h.set id (strm L a2)) []
section
variable {f:Nat} {args:List AV} {L:List Int} {a:Int} {Q:AV→Int→Prop}
theorem GenE.set (g:GenE f args L a Q) {h:Heap} {id:Nat} (hid:id<h.length):∃ v a2,Q v a2∧∀ K:Post,z0d X f (.ref id 0::args) (h.set id (strm L a)) K=K v (h.set id (strm L a2)) []:=by
 obtain⟨v,a2,q,r⟩:=g _ _ (z3Z hid)
 exact⟨v,a2,q,fun K=>by rw[r,List.set_set]⟩
theorem GenE.app (g:GenE f args L a Q) {h l:Heap} {id:Nat} (hid:id<h.length):∃ v a2,Q v a2∧∀ K:Post,z0d X f (.ref id 0::args) (h.set id (strm L a)++l) K=K v (h.set id (strm L a2)++l) []:=by
 obtain⟨v,a2,q,r⟩:=g (h.set id (strm L a)++l) id (by rw[zlY (by simpa using hid)];exact z3Z hid)
 exact⟨v,a2,q,fun K=>by rw[r,zoY (by simpa using hid),List.set_set]⟩
theorem GenE.hd (g:GenE f args L a Q) {l:Heap}:∃ v a2,Q v a2∧∀ K:Post,z0d X f (.ref 0 0::args) (strm L a::l) K=K v (strm L a2::l) []:=g (strm L a::l) 0 rfl
theorem GenE.of (H:∀ (h:Heap) (id:Nat),id<h.length→z0d X f (.ref id 0::args) (h.set id (strm L a)) fun v1 h1 x1=>∃ a2,Q v1 a2∧h1=h.set id (strm L a2)∧x1=[]):GenE f args L a Q:=by
 intro h id hh
 have hid:=z7C hh
 have:h.set id (strm L a)=h:=by
  apply List.ext_getElem?
  intro i
  rw[List.getElem?_set]
  split
  ·rename_i e;subst e;rw[hh]
  ·rfl
 have k:=H h id hid
 rw[this] at k
 obtain⟨v,h',x,⟨a2,q,e1,e2⟩,r⟩:=z0d.one zdZ k
 subst e1;subst e2
 exact⟨v,a2,q,r⟩
end
def z4d (l:List Int) (L:List Int) (a:Int):Int:=l.getD (z14 L a l.length).toNat 0
theorem z7Z {l L:List Int} {a:Int} (hl:0<l.length) (hl2:l.length<4611686018427387904):z4d l L a∈l:=by
 obtain⟨b1,b2⟩:=z5b L a l.length (by omega) (by omega)
 unfold z4d
 have:(z14 L a l.length).toNat<l.length:=by omega
 simp only[List.getD,List.getElem?_eq_getElem this,Option.getD_some]
 exact List.getElem_mem _
def isI:PV→Bool
 | .int .i64 _=>true
 | _=>false
def unI:PV→Int
 | .int _ n=>n
 | _=>0
theorem zvS {xs:List PV} (h:xs.all isI=true):xs=(xs.map unI).map eI:=by
 induction xs with
 | nil=>rfl
 | cons x r ih=>
  simp only[List.all_cons,Bool.and_eq_true] at h
  simp only[List.map_cons]
  rw[← ih h.2]
  cases x with
  | int k n=>cases k <;> first | rfl | cases h.1
  | _=>cases h.1
set_option maxHeartbeats 400000 in
theorem zlT (L:List Int) (a n:Int) (hp:posN 0 a):Gen z1M [AI n] L a (a+1) (AI (z14 L a n)):=by
 refine Gen.of fun h id hid=>?_
 rw[c_q03h rfl]
 obtain⟨h0,h1⟩:=hp
 have w1:IntKind.i64.wrap (a+1)=a+1:=z0k _ (by omega) (by omega)
 have w2:IntKind.i64.wrap (a+1-1)=a:=by rw[z0k _ (by omega) (by omega)];omega
 have hs:∀ o',(h.set id o')[id]?=some o':=fun o'=>z3Z hid
 rcases Nat.eq_zero_or_pos L.length with hl | hl
 ·simp only[zeP,go_sem,hs,zoM,hl,w1]
  simp only[z14,hl,if_true]
 ·have e1:((L.length:Int)=0)=False:=by simp only[eq_iff_iff,iff_false];omega
  have e2:0≤a.tmod L.length:=Int.tmod_nonneg _ h0
  have e3:a.tmod L.length<L.length:=Int.tmod_lt_of_pos _ (by omega)
  have e4:=z7G (k:=.i64) e2
  have e5:(L.map eI)[(a.tmod L.length).toNat]?=some (eI (L.getD (a.tmod L.length).toNat 0)):=by
   rw[z0X eI (show (a.tmod L.length).toNat<L.length by omega)]
   simp [List.getD,show (a.tmod L.length).toNat<L.length by omega]
  simp only[zeP,go_sem,hs,zoM,e1,w1,w2,e4,e5]
  simp only[z14,show ¬ L.length=0 by omega,if_false]
section
variable {L:List Int} {a:Int} {h l:Heap} {id:Nat} {K:Post}
theorem z2a (hid:id<h.length) (hp:posN 0 a) (n:Int):z0d X z1M [.ref id 0,AI n] (h.set id (strm L a)) K=K (AI (z14 L a n)) (h.set id (strm L (a+1))) []:=(zlT L a n hp).set hid
theorem z9t (hid:id<h.length) (hp:posN 0 a) (n:Int):z0d X z1M [.ref id 0,AI n] (h.set id (strm L a)++l) K=K (AI (z14 L a n)) (h.set id (strm L (a+1))++l) []:=(zlT L a n hp).app hid
theorem zcF (hp:posN 0 a) (n:Int):z0d X z1M [.ref 0 0,AI n] (strm L a::l) K=K (AI (z14 L a n)) (strm L (a+1)::l) []:=(zlT L a n hp).hd
theorem zlS (hp:posN 0 a) (n:Int):Gen z3x [AI n] L a (a+1) (AB (decide (z14 L a n=0))):=by
 refine Gen.of fun h id hid=>?_
 rw[c_q03f rfl]
 simp only[zjM,go_sem,z2a hid hp]
theorem z9s (hid:id<h.length) (hp:posN 0 a) (n:Int):z0d X z3x [.ref id 0,AI n] (h.set id (strm L a)) K=K (AB (decide (z14 L a n=0))) (h.set id (strm L (a+1))) []:=(zlS hp n).set hid
theorem z9r (hid:id<h.length) (hp:posN 0 a) (n:Int):z0d X z3x [.ref id 0,AI n] (h.set id (strm L a)++l) K=K (AB (decide (z14 L a n=0))) (h.set id (strm L (a+1))++l) []:=(zlS hp n).app hid
theorem zcE (hp:posN 0 a) (n:Int):z0d X z3x [.ref 0 0,AI n] (strm L a::l) K=K (AB (decide (z14 L a n=0))) (strm L (a+1)::l) []:=(zlS hp n).hd
theorem zlU (hp:posN 0 a) (xs:List PV) (hx:xs.all isI=true) (hl:0<xs.length) (hl2:xs.length<4611686018427387904) :
 Gen z27 [.p (.sl none xs)] L a (a+1) (AI (z4d (xs.map unI) L a)):=by
 refine Gen.of fun h id hid=>?_
 rw[c_q03j rfl]
 obtain⟨b1,b2⟩:=z5b L a xs.length (by omega) (by omega)
 have e4:=z7G (k:=.i64) b1
 have e5:xs[(z14 L a xs.length).toNat]?=some (eI (z4d (xs.map unI) L a)):=by
  have hm:=zvS hx
  generalize hq:xs.map unI=q at *
  subst hm
  simp only[List.length_map] at *
  rw[z0X eI (show (z14 L a q.length).toNat<q.length by omega)]
  simp [z4d,List.getD,show (z14 L a q.length).toNat<q.length by omega]
 simp only[zjN,go_sem,z2a hid hp,e4,e5]
theorem z9v (hid:id<h.length) (hp:posN 0 a) {xs:List PV} (hx:xs.all isI=true) (hl:0<xs.length) (hl2:xs.length<4611686018427387904) :
 z0d X z27 [.ref id 0,.p (.sl none xs)] (h.set id (strm L a)) K=K (AI (z4d (xs.map unI) L a)) (h.set id (strm L (a+1))) []:=(zlU hp xs hx hl hl2).set hid
theorem z9u (hid:id<h.length) (hp:posN 0 a) {xs:List PV} (hx:xs.all isI=true) (hl:0<xs.length) (hl2:xs.length<4611686018427387904) :
 z0d X z27 [.ref id 0,.p (.sl none xs)] (h.set id (strm L a)++l) K=K (AI (z4d (xs.map unI) L a)) (h.set id (strm L (a+1))++l) []:=(zlU hp xs hx hl hl2).app hid
theorem zcG (hp:posN 0 a) {xs:List PV} (hx:xs.all isI=true) (hl:0<xs.length) (hl2:xs.length<4611686018427387904) :
 z0d X z27 [.ref 0 0,.p (.sl none xs)] (strm L a::l) K=K (AI (z4d (xs.map unI) L a)) (strm L (a+1)::l) []:=(zlU hp xs hx hl hl2).hd
def z0Q (u v:Int) (L:List Int) (a:Int):Int:=u+z14 L a (v-u+1)
theorem z1O {u v:Int} (L:List Int) (a:Int) (h1:u≤v) (h2:v≤u+4611686018427387900):u≤z0Q u v L a∧z0Q u v L a≤v:=by
 have:=z5b L a (v-u+1) (by omega) (by omega)
 unfold z0Q;omega
theorem zdz (hp:posN 0 a) (u v:Int) (huv:u≤v) (hu : -1152921504606846976≤u) (hv:v≤1152921504606846976) :
 Gen z1x [AI u,AI v] L a (a+1) (AI (z0Q u v L a)):=by
 refine Gen.of fun h id hid=>?_
 rw[c_q03k rfl]
 obtain⟨b1,b2⟩:=z1O L a huv (by omega)
 have w1:IntKind.i64.wrap (v-u)=v-u:=z0k _ (by omega) (by omega)
 have w2:IntKind.i64.wrap (v-u+1)=v-u+1:=z0k _ (by omega) (by omega)
 have w3:IntKind.i64.wrap (u+z14 L a (v-u+1))=z0Q u v L a:=z0k (z0Q u v L a) (by omega) (by omega)
 simp only[zjO,go_sem,show ¬ v<u by omega,w1,w2,z2a hid hp,w3]
theorem z8i (hid:id<h.length) (hp:posN 0 a) {u v:Int} (huv:u≤v) (hu : -1152921504606846976≤u) (hv:v≤1152921504606846976) :
 z0d X z1x [.ref id 0,AI u,AI v] (h.set id (strm L a)) K=K (AI (z0Q u v L a)) (h.set id (strm L (a+1))) []:=(zdz hp u v huv hu hv).set hid
theorem z8h (hid:id<h.length) (hp:posN 0 a) {u v:Int} (huv:u≤v) (hu : -1152921504606846976≤u) (hv:v≤1152921504606846976) :
 z0d X z1x [.ref id 0,AI u,AI v] (h.set id (strm L a)++l) K=K (AI (z0Q u v L a)) (h.set id (strm L (a+1))++l) []:=(zdz hp u v huv hu hv).app hid
theorem z9w (hp:posN 0 a) {u v:Int} (huv:u≤v) (hu : -1152921504606846976≤u) (hv:v≤1152921504606846976) :
 z0d X z1x [.ref 0 0,AI u,AI v] (strm L a::l) K=K (AI (z0Q u v L a)) (strm L (a+1)::l) []:=(zdz hp u v huv hu hv).hd
end
attribute [go_sem ↓] z2a z9t zcF z9s z9r zcE z9v z9u zcG z8i z8h z9w
attribute [go_sem] z2a z9t zcF z9s z9r zcE z9v z9u zcG z8i z8h z9w isI unI
end Go.Am
end
section
/- Maps,asv lists of keys with values. -/
open Go
set_option linter.all false
namespace Go.Am
section
variable {α β:Type} [DecidableEq α]
def mesF (key:α→PV) (val:β→AV):Nat→List (α × β)→List ME
 | _,[]=>[]
 | n,e::r=>⟨key e.1,val e.2,n⟩::mesF key val (n+1) r
def mobj (key:α→PV) (val:β→AV) (l:List (α × β)):Obj:=.amap (mesF key val 0 l) l.length
def z1n (k:α):List (α × β)→Option Nat
 | []=>none
 | e::r=>if k=e.1 then some 0 else (z1n k r).map (· + 1)
def getM (k:α):List (α × β)→Option β
 | []=>none
 | e::r=>if k=e.1 then some e.2 else getM k r
def updM (k:α) (v:β):List (α × β)→List (α × β)
 | []=>[(k,v)]
 | e::r=>if k=e.1 then (k,v)::r else e::updM k v r
def KeyI (key:α→PV):Prop:=∀ a b,PV.eqv (key a) (key b)=some (decide (a=b))
theorem z4W:KeyI PV.str:=fun a b=>rfl
theorem zal:KeyI (fun n:Int=>PV.int .i64 n):=fun a b=>by simp [PV.eqv,PV.eq1]
theorem z1N {s:List UInt8}:z2i (none,[2]) (.p (.str s))=some (.str s):=by simp [z2i,PV.key,PV.shp,PV.sc,PV.cells,PV.kind]
theorem z7D {n:Int} {k:IntKind}:z2i (none,[0]) (.p (.int k n))=some (.int k n):=by simp [z2i,PV.key,PV.shp,PV.sc,PV.cells,PV.kind]
variable {key:α→PV} {val:β→AV}
theorem z7E (hk:KeyI key) (k:α):∀ (l:List (α × β)) (n:Nat),z1R (key k) (mesF key val n l)=some (z1n k l)
 | [],n=>rfl
 | e::r,n=>by
  simp only[mesF,z1R,hk k e.1,z1n]
  by_cases h:k=e.1
  ·simp [h]
  ·simp [h,z7E hk k r (n+1)]
theorem zao:∀ (l:List (α × β)) (n i:Nat),(mesF key val n l)[i]?=(l[i]?).map fun e=>⟨key e.1,val e.2,n+i⟩
 | [],n,i=>rfl
 | e::r,n,0=>rfl
 | e::r,n,i+1=>by simp only[mesF,List.getElem?_cons_succ,zao r (n+1) i];rw[show n+1+i=n+(i+1) by omega]
theorem zgj {k:α}:∀ {l:List (α × β)} {i:Nat},z1n k l=some i→i<l.length
 | [],i,h=>by cases h
 | e::r,i,h=>by
  unfold z1n at h
  split at h
  ·cases h;simp
  ·obtain⟨j,hj,e2⟩:=Option.map_eq_some_iff.1 h
   have:=zgj hj
   simp;omega
theorem z8p {k:α}:∀ {l:List (α × β)} {i:Nat},z1n k l=some i→l[i]?=(getM k l).map fun v=>(k,v)
 | [],i,h=>by cases h
 | e::r,i,h=>by
  unfold z1n at h
  unfold getM
  split at h
  ·rename_i hk;cases h;simp [hk]
  ·rename_i hk
   obtain⟨j,hj,e2⟩:=Option.map_eq_some_iff.1 h
   subst e2
   rw[if_neg hk,List.getElem?_cons_succ]
   exact z8p hj
theorem z5X {k:α}:∀ {l:List (α × β)},z1n k l=none→getM k l=none
 | [],h=>rfl
 | e::r,h=>by
  unfold z1n at h
  unfold getM
  split at h
  ·cases h
  ·rename_i hk
   rw[if_neg hk]
   exact z5X (by simpa using h)
theorem z5Y {k:α}:∀ {l:List (α × β)} {i:Nat},z1n k l=some i→(getM k l).isSome=true
 | [],i,h=>by cases h
 | e::r,i,h=>by
  unfold z1n at h
  unfold getM
  split at h
  ·rename_i hk;simp [hk]
  ·rename_i hk
   obtain⟨j,hj,e2⟩:=Option.map_eq_some_iff.1 h
   rw[if_neg hk]
   exact z5Y hj
theorem z6x {k:α} {l:List (α × β)}:(z1n k l).isSome=(getM k l).isSome:=by
 generalize h:z1n k l=o
 cases o with
 | none=>rw[z5X h];rfl
 | some i=>rw[z5Y h];rfl
theorem zqX {k:α} {l:List (α × β)} {n:Nat}:((z1n k l).bind fun i=>(mesF key val n l)[i]?).map ME.val=(getM k l).map val:=by
 cases h:z1n k l with
 | none=>rw[z5X h];rfl
 | some i=>
  simp only[Option.bind_some,zao,z8p h]
  cases getM k l <;> rfl
theorem z6D {k:α} {v:β}:∀ {l:List (α × β)},z1n k l=none→updM k v l=l++[(k,v)]
 | [],h=>rfl
 | e::r,h=>by
  unfold z1n at h
  unfold updM
  split at h
  ·cases h
  ·rename_i hk
   rw[if_neg hk,z6D (by simpa using h)];rfl
theorem zgd {k:α} {v:β}:∀ {l:List (α × β)} {i:Nat},z1n k l=some i→updM k v l=l.set i (k,v)
 | [],i,h=>by cases h
 | e::r,i,h=>by
  unfold z1n at h
  unfold updM
  split at h
  ·rename_i hk;cases h;simp [hk]
  ·rename_i hk
   obtain⟨j,hj,e2⟩:=Option.map_eq_some_iff.1 h
   subst e2
   rw[if_neg hk,zgd hj];rfl
theorem zfA (k:α) (v:β):∀ (l:List (α × β)) (n:Nat),mesF key val n (l++[(k,v)])=mesF key val n l++[⟨key k,val v,n+l.length⟩]
 | [],n=>rfl
 | e::r,n=>by simp only[List.cons_append,mesF,zfA k v r (n+1),List.length_cons];rw[show n+1+r.length=n+(r.length+1) by omega]
theorem zgW {k:α} {v:β} {l:List (α × β)} {i n:Nat} (h:z1n k l=some i):(mesF key val n l).modify i (fun e=>{ e with val:=val v })=mesF key val n (l.set i (k,v)):=by
 apply List.ext_getElem?
 intro j
 rw[List.getElem?_modify,zao,zao,List.getElem?_set]
 have hi:=zgj h
 have hg:=z8p h
 by_cases hij:i=j
 ·subst hij
  rw[hg]
  simp only[if_true,hi]
  obtain⟨w,hw⟩:=Option.isSome_iff_exists.1 (z5Y h)
  rw[hw];rfl
 ·simp [hij]
variable {h:Heap} {id:Nat} {l:List (α × β)} {kk:Sh × List Nat} {k:α}
theorem zfB (hh:h[id]?=some (mobj key val l)):mget h (.mp id)=some (id,mesF key val 0 l,l.length):=by
 simp only[mget,hh,mobj]
theorem z3g (hk:KeyI key) (hh:h[id]?=some (mobj key val l)) (hq:z2i kk (.p (key k))=some (key k)) {ok:Bool} {z:AV} :
 z1p kk ok z (.mp id) (.p (key k)) h=some (bif ok then .tup [((getM k l).map val).getD z,AV.p (.bool (getM k l).isSome)] else ((getM k l).map val).getD z):=by
 simp only[z1p,hq,zfB hh,Option.map_some,z7E hk,zqX,Option.isSome_map]
 rfl
theorem z5a (hk:KeyI key) (hh:h[id]?=some (mobj key val l)) (hq:z2i kk (.p (key k))=some (key k)) {v:β} (hv:okIn (val v)=true) :
 z17 kk (.mp id) (.p (key k)) (val v) h=some (.und,h.set id (mobj key val (updM k v l)),z1X id (val v)):=by
 simp only[z17,hq,zfB hh,hv,z7E hk]
 cases hw:z1n k l with
 | none=>
  simp only[mobj,z6D hw,zfA,List.length_append,List.length_cons,List.length_nil,Nat.zero_add]
 | some i=>
  simp only[mobj,zgd hw,zgW hw,List.length_set]
theorem zak (k k':α) (v:β):∀ (l:List (α × β)),getM k' (updM k v l)=if k'=k then some v else getM k' l
 | []=>by simp [updM,getM]
 | e::r=>by
  unfold updM
  by_cases h1:k=e.1
  ·rw[if_pos h1];simp only[getM]
   by_cases h2:k'=k
   ·simp [h2]
   ·rw[if_neg h2,if_neg h2,if_neg (by rw[← h1];exact h2)]
  ·rw[if_neg h1];simp only[getM,zak k k' v r]
   by_cases h2:k'=e.1
   ·rw[if_pos h2,if_pos h2,if_neg (by rw[h2];exact fun h=>h1 h.symm)]
   ·rw[if_neg h2,if_neg h2]
end
end Go.Am
end
section
/- Plain laws of fractions in lowest terms. -/
namespace Go.Am
end Go.Am
end
section
/- Small functions of numbers and of lists of numbers. -/
open Go
namespace Go.Am
variable {h:Heap} {K:Post}
theorem s_Out (n a b:Int):z0d X z0I [AI n,AI a,AI b] h K=K (AB (decide (n<a)||decide (b<n))) h []:=by
 refine rule ?_
 rw[c_q00a rfl]
 by_cases h1:n<a <;> simp only[zjG,go_sem,h1]
theorem s_in (n a b:Int):z0d X z2g [AI n,AI a,AI b] h K=K (AB (decide (a≤n)&&decide (n≤b))) h []:=by
 refine rule ?_
 rw[c_q050 rfl]
 by_cases h1:a≤n <;> simp only[zjT,go_sem,h1]
theorem out_eq (n a b:Int):(decide (n<a)||decide (b<n)) = !(decide (a≤n)&&decide (n≤b)):=by
 rw[Bool.eq_iff_iff];simp
theorem zfU (n:Int):z0d X z6q [AI n] h K=K (AI n.sign) h []:=by
 refine rule ?_
 rw[c_q057 rfl]
 rcases Int.lt_trichotomy n 0 with h1 | h1 | h1
 ·simp only[zbz,go_sem,h1,Int.sign_eq_neg_one_of_neg h1]
 ·subst h1;simp only[zbz,go_sem,Int.sign_zero]
 ·simp only[zbz,go_sem,show ¬ n<0 by omega,h1,Int.sign_eq_one_of_pos h1]
def cmp3 (x y:Int):Int:=if x<y then -1 else if x=y then 0 else 1
theorem z4B (x y:Int):cmp3 x y=(x-y).sign:=by
 unfold cmp3
 rcases Int.lt_trichotomy x y with h | h | h
 ·rw[if_pos h,Int.sign_eq_neg_one_of_neg (by omega)]
 ·rw[if_neg (by omega),if_pos h,h];simp
 ·rw[if_neg (by omega),if_neg (by omega),Int.sign_eq_one_of_pos (by omega)]
end Go.Am
end
section
/- Functions of lists. -/
open Go
namespace Go.Am
variable {h:Heap} {K:Post}
theorem zdF (a:Int):z0d X z4P [AI a] h K=K (AB false) h []:=by
 refine rule ?_
 rw[c_q00w rfl]
 simp only[zjH,go_sem]
theorem zcI (a b:Int):z0d X z4O [AI a,AI b] h K=K (AI (cmp3 a b)) h []:=by
 refine rule ?_
 rw[c_q00t rfl]
 unfold cmp3
 by_cases h1:a<b
 ·simp only[zbh,go_sem,zdF,h1]
 ·by_cases h2:b<a
  ·simp only[zbh,go_sem,zdF,h1,h2,show ¬ a=b by omega]
  ·simp only[zbh,go_sem,zdF,h1,h2,show a=b by omega,Int.lt_irrefl]
def zpI (g:Nat) (caps:List AV) (p:PV→Bool) (xs:List PV) (h:Heap):Prop:=∀ x∈xs,∀ K:Post,z0d X g (.p x::caps) h K=K (AB (p x)) h []
def idxP (p:PV→Bool) (xs:List PV):Int:=if xs.findIdx p<xs.length then (xs.findIdx p:Int) else -1
theorem zf5 (p:PV→Bool) (xs:List PV):decide (0≤idxP p xs)=xs.any p:=by
 unfold idxP
 rw[Bool.eq_iff_iff]
 by_cases h:xs.findIdx p<xs.length
 ·rw[if_pos h];simp only[decide_eq_true_eq,List.any_eq_true]
  exact⟨fun _=>⟨_,List.getElem_mem h,List.findIdx_getElem⟩,fun _=>by omega⟩
 ·rw[if_neg h];simp only[decide_eq_true_eq,List.any_eq_true]
  refine⟨fun h=>by omega,fun ⟨x,hx,hp⟩=>absurd (List.findIdx_lt_length_of_exists ⟨x,hx,hp⟩) h⟩
def z3V:List Int→Int
 | []=>0
 | e::r=>if e=0 then z3V r else e
end Go.Am
end
section
/- Plain lists: insertion sort asv Go's package slices does it on short lists;deleting;compacting. -/
namespace Go.Am
variable {α:Type}
def insR (lt:α→α→Bool) (x:α):List α→List α
 | []=>[x]
 | y::r=>bif lt x y then y::insR lt x r else x::y::r
def z4l (lt:α→α→Bool) (l:List α):List α:=l.foldl (fun r x=>insR lt x r) []
def zcv (lt:α→α→Bool) (l:List α):List α:=(z4l lt l).reverse
theorem zcu (lt:α→α→Bool) (x:α):∀ r:List α,(insR lt x r).Perm (x::r)
 | []=>.refl _
 | y::r=>by
  unfold insR
  cases lt x y with
  | true=>exact ((zcu lt x r).cons y).trans (.swap _ _ _)
  | false=>exact .refl _
theorem z31 (lt:α→α→Bool):∀ (l r:List α),(l.foldl (fun r x=>insR lt x r) r).Perm (l++r)
 | [],r=>.refl _
 | x::l,r=>by
  simp only[List.foldl_cons,List.cons_append]
  refine (z31 lt l _).trans ?_
  exact ((zcu lt x r).append_left l).trans (List.perm_middle)
theorem z4v (lt:α→α→Bool) (l:List α):(z4l lt l).Perm l:=by
 have:=z31 lt l []
 rwa [List.append_nil] at this
theorem z9h (lt:α→α→Bool) (l:List α):(zcv lt l).Perm l:=(List.reverse_perm _).trans (z4v lt l)
theorem zmg (lt:α→α→Bool) (l:List α):(zcv lt l).length=l.length:=(z9h lt l).length_eq
theorem zmh {lt:α→α→Bool} {l:List α} {x:α}:x∈zcv lt l↔x∈l:=(z9h lt l).mem_iff
theorem zgU (lt:α→α→Bool) (l:List α):(z4l lt l).length=l.length:=(z4v lt l).length_eq
theorem z63 (lt:α→α→Bool) (l:List α) (k:Nat) (hk:k<l.length):z4l lt (l.take (k+1))=insR lt l[k] (z4l lt (l.take k)):=by
 rw[List.take_succ_eq_append_getElem hk];unfold z4l;rw[List.foldl_append];rfl
theorem z9g (lt:α→α→Bool) (x:α) (A:List α):∀ B:List α,(∀ b∈B,lt x b=true)→insR lt x (B++A)=B++insR lt x A
 | [],_=>rfl
 | b::B,h=>by
  simp only[List.cons_append,insR,h b (by simp),cond_true]
  rw[z9g lt x A B (fun b hb=>h b (by simp [hb]))]
theorem zu9 (A C:List α) (x:α):(A.reverse++x::C)[A.length]?=some x:=by
 rw[List.getElem?_append_right (by simp)];simp
theorem zqO (A C:List α) (x y:α):((y::A).reverse++x::C)[A.length]?=some y:=by
 rw[List.getElem?_append_left (by simp)];simp
theorem zqP (A C:List α) (x y:α):(((y::A).reverse++x::C).set (A.length+1) y).set A.length x=A.reverse++x::y::C:=by
 have e:(y::A).reverse++x::C=A.reverse++y::x::C:=by simp
 rw[e,List.set_append_right _ _ (by simp),List.length_reverse,Nat.add_sub_cancel_left,List.set_append_right _ _ (by simp),List.length_reverse,Nat.sub_self]
 rfl
theorem zf7 (lt:α→α→Bool) (x:α) (A B:List α) (hB:∀ b∈B,lt x b=true) (hA:∀ y r,A=y::r→lt x y=false):insR lt x (B++A)=B++x::A:=by
 rw[z9g lt x A B hB]
 cases A with
 | nil=>rfl
 | cons y r=>simp only[insR,hA y r rfl,cond_false]
end Go.Am
namespace Go.Am
variable {α:Type}
end Go.Am
end
section
/- Values of a shape: loads and stores in rows. -/
open Go
namespace Go.Am
variable {h:Heap} {K:Post}
theorem zdM {sh:Sh} {x:PV} (hx:x.shp sh=true):cutP sh 0 x=some x:=by
 cases sh with
 | none=>exact zum hx
 | some n=>
  cases x with
  | agg cs=>
   simp only[PV.shp,Bool.and_eq_true,beq_iff_eq] at hx
   simp [cutP,hx.1]
   exact List.take_of_length_le (by omega)
  | _=>cases hx
theorem zpb {sh:Sh} {x:PV} (hx:x.shp sh=true):x.cells.length=z0a sh:=by
 cases sh with
 | none=>cases x <;> first | rfl | cases hx
 | some n=>
  cases x with
  | agg cs=>simp only[PV.shp,Bool.and_eq_true,beq_iff_eq] at hx;exact hx.1
  | _=>cases hx
theorem zpa {sh:Sh} {x:PV} (hx:x.shp sh=true):x.cells.all PV.sc=true:=by
 cases sh with
 | none=>cases x <;> first | rfl | cases hx
 | some n=>
  cases x with
  | agg cs=>simp only[PV.shp,Bool.and_eq_true,beq_iff_eq] at hx;exact hx.2
  | _=>cases hx
theorem zt1 {sh:Sh} {x y:PV} (hx:x.shp sh=true) (hy:y.shp sh=true) (id i fz:Nat) (xs:List PV) (h1:Heap):stE sh id i 0 fz sh xs x h1 (some y)=some (.und,h1.set id (.row sh (xs.set i x) fz),[]):=by
 cases sh with
 | none=>
  cases y with
  | agg cs=>cases hy
  | _=>simp only[PV.shp] at hx;simp [stE,hx]
 | some n=>
  cases y with
  | agg cs=>
   cases x with
   | agg ds=>
    simp only[PV.shp,Bool.and_eq_true,beq_iff_eq] at hx hy
    simp [stE,PV.cells,splice,hx.1,hy.1,show cs.drop n=[] from List.drop_of_length_le (by omega)]
   | _=>cases hx
  | _=>cases hy
def shps (sh:Sh) (xs:List PV):Prop:=∀ x∈xs,x.shp sh=true
theorem zr1 {sh:Sh} {xs:List PV} (hx:shps sh xs) {i:Nat} (hi:i<xs.length):xs[i].shp sh=true:=hx _ (List.getElem_mem hi)
theorem zga {h:Heap} {id:Nat} {o:Obj} (hh:h[id]?=some o):h.set id o=h:=by
 apply List.ext_getElem?
 intro i
 rw[List.getElem?_set]
 split
 ·rename_i e;subst e;rw[hh];simp [z7C hh]
 ·rfl
def Cmps (g:Nat) (caps:List AV) (c:PV→PV→Int) (xs:List PV) (id:Nat) (h:Heap):Prop:=∀ (o:Obj) (x:PV),x∈xs→∀ y,y∈xs→∀ K:Post,z0d X g (.p x :: .p y::caps) (h.set id o) K=K (AI (c x y)) (h.set id o) []
def ltC (c:PV→PV→Int) (a b:PV):Bool:=decide (c a b<0)
structure Shows (sh:Sh) (v:AV) (xs:List PV) (h:Heap):Prop where
 len:oLen v=some (AI xs.length)
 get:∀ (k:Nat) (hk:k<xs.length),∃ a,z0y sh v (AI k) h=some a∧z0e sh a h=some (.p xs[k])
theorem zay {sh:Sh} {xs:List PV} (hs:shps sh xs):Shows sh (.p (.sl sh xs)) xs h:=by
 refine⟨rfl,fun k hk=>⟨.vp xs[k],?_,?_⟩⟩
 ·simp [z0y,z1a,hk]
 ·simp only[zmF,zdM (zr1 hs hk)];rfl
end Go.Am
end
section
/- Strings: keys,the library's functions without text. -/
open Go
set_option linter.unusedSimpArgs false
namespace Go.Am
variable {h:Heap} {K:Post}
abbrev AS (s:List UInt8):AV:=.p (.str s)
theorem X_ext:X.ext=extF z0h z0g:=rfl
theorem zry (s:List UInt8) (c:UInt8):z0d X z0h [AS s,.p (.int .u8 c.toNat)] h K=K (AI (idxB s c)) h []:=by
 have:=zfp (X:=X) (f:=z0h) (asv:=[AS s,.p (.int .u8 c.toNat)]) (vs:=[.str s,.int .u8 c.toNat]) (h:=h) (h1:=h) (r:=.int .i64 (idxB s c)) (K:=K) (by kernel_rfl) rfl rfl rfl ?_
 ·exact this
 ·rw[X_ext]
  unfold extF
  rw[show Nat.beq z0h z0h=true from by kernel_rfl]
  simp
theorem zrw (a b:List UInt8):z0d X z0g [AS a,AS b] h K=K (AI (cmpL a b)) h []:=by
 have:=zfp (X:=X) (f:=z0g) (asv:=[AS a,AS b]) (vs:=[.str a,.str b]) (h:=h) (h1:=h) (r:=.int .i64 (cmpL a b)) (K:=K) (by kernel_rfl) rfl rfl rfl ?_
 ·exact this
 ·rw[X_ext]
  unfold extF
  rw[show Nat.beq z0g z0h=false from by kernel_rfl,show Nat.beq z0g z0g=true from by kernel_rfl]
  rfl
theorem z3H (a b:List UInt8):z0d X z28 [AS a,AS b] h K=K (AI (cmpL a b)) h []:=by
 have key:∀ (h:Heap) (K:Post),z0d X z7u [AS a,AS b] h K=K (AI (cmpL a b)) h []:=by
  intro h K
  refine rule ?_
  rw[c_q01b rfl]
  simp only[zjI,go_sem,zrw]
 refine rule ?_
 rw[c_q091 rfl]
 simp only[zkb,go_sem,key]
theorem z8g (s:List UInt8) (c:UInt8):z0d X z9e [AS s,.p (.int .u8 c.toNat)] h K=K (AI (idxB s c)) h []:=by
 have key:∀ (h:Heap) (K:Post),z0d X z8P [AS s,.p (.int .u8 c.toNat)] h K=K (AI (idxB s c)) h []:=by
  intro h K
  refine rule ?_
  rw[c_q01z rfl]
  simp only[zjJ,go_sem,zry]
 refine rule ?_
 rw[c_q097 rfl]
 simp only[zkc,go_sem,key]
theorem z4C:∀ a,cmpL a a=0
 | []=>rfl
 | x::a=>by simp only[cmpL,UInt8.lt_irrefl,if_false];exact z4C a
theorem z5M:∀ {a b:List UInt8},cmpL a b=0→a=b
 | [],[],_=>rfl
 | [],_::_,h=>by simp [cmpL] at h
 | _::_,[],h=>by simp [cmpL] at h
 | x::a,y::b,h=>by
  simp only[cmpL] at h
  split at h
  ·cases h
  ·split at h
   ·cases h
   ·rename_i h1 h2
    have:x=y:=UInt8.le_antisymm (UInt8.not_lt.1 h2) (UInt8.not_lt.1 h1)
    rw[this,z5M h]
theorem z9V:∀ a b,cmpL b a = - cmpL a b
 | [],[]=>rfl
 | [],_::_=>rfl
 | _::_,[]=>rfl
 | x::a,y::b=>by
  simp only[cmpL]
  by_cases h1:x<y
  ·have h2:¬ y<x:=UInt8.lt_asymm h1
   simp [h1,h2]
  ·by_cases h2:y<x
   ·simp [h1,h2]
   ·simp [h1,h2,z9V a b]
theorem z8E:∀ {a b c:List UInt8},cmpL a b<0→cmpL b c<0→cmpL a c<0
 | [],[],_,h,_=>by simp [cmpL] at h
 | [],_::_,[],_,h=>by simp [cmpL] at h
 | [],_::_,_::_,_,_=>by simp [cmpL]
 | _::_,[],_,h,_=>by simp [cmpL] at h
 | _::_,_::_,[],_,h=>by simp [cmpL] at h
 | x::a,y::b,z::c,h1,h2=>by
  simp only[cmpL] at h1 h2 ⊢
  by_cases hxy:x<y
  ·by_cases hyz:y<z
   ·simp [UInt8.lt_trans hxy hyz]
   ·by_cases hzy:z<y
    ·simp [hyz,hzy] at h2
    ·have:y=z:=UInt8.le_antisymm (UInt8.not_lt.1 hzy) (UInt8.not_lt.1 hyz)
     subst this;simp [hxy]
  ·by_cases hyx:y<x
   ·simp [hxy,hyx] at h1
   ·have:x=y:=UInt8.le_antisymm (UInt8.not_lt.1 hyx) (UInt8.not_lt.1 hxy)
    subst this
    simp only[UInt8.lt_irrefl,if_false] at h1
    by_cases hyz:x<z
    ·simp [hyz]
    ·by_cases hzy:z<x
     ·simp [hyz,hzy] at h2
     ·simp only[hyz,hzy,if_false] at h2 ⊢
      exact z8E h1 h2
def z64 (c:UInt8):Bool:=decide ((97:Int)≤c.toNat)&&decide ((c.toNat:Int)≤122)||decide ((48:Int)≤c.toNat)&&decide ((c.toNat:Int)≤57)||decide ((c.toNat:Int)=45)||decide ((c.toNat:Int)=95)
def keyB (s:List UInt8):Bool:=match s with
 | []=>false
 | c::r=>decide (r.length<40)&&(decide ((97:Int)≤c.toNat)&&decide ((c.toNat:Int)≤122))&&(c::r).all z64
theorem zhk (s:List UInt8) (hl:s.length≤1000000000):z0d X z1w [AS s] h K=K (AB (keyB s)) h []:=by
 refine rule ?_
 rw[c_q005 rfl]
 cases s with
 | nil=>simp only[z6g,go_sem,keyB]
 | cons c r=>
  have n0:((c::r)=[])=False:=by simp
  have e1:(((r.length+1:Nat):Int)≤40)=(r.length<40):=by simp only[eq_iff_iff];omega
  by_cases h1:(40:Int)<((r.length+1:Nat):Int)
  ·have:¬ r.length<40:=by omega
   simp only[z6g,go_sem,n0,h1,keyB,this]
  have h1':r.length<40:=by omega
  by_cases h2:(c.toNat:Int)<97
  ·have:¬ (97:Int)≤c.toNat:=by omega
   simp only[z6g,go_sem,n0,h1,h2,keyB,this,h1']
  have h2':(97:Int)≤c.toNat:=by omega
  by_cases h3:(122:Int)<c.toNat
  ·have:¬ (c.toNat:Int)≤122:=by omega
   simp only[z6g,go_sem,n0,h1,h2,h3,keyB,this,h1',h2']
  have h3':(c.toNat:Int)≤122:=by omega
  have ek:keyB (c::r)=(c::r).all z64:=by simp [keyB,h1',h2',h3']
  rw[ek]
  generalize hB:(c::r).all z64=B
  simp only[z6g,go_sem,n0,h1,h2,h3]
  have hlen:(c::r).length=r.length+1:=rfl
  rw[← hlen]
  generalize c::r=s at *
  refine z0U (fun k:Nat=>⟨[(0,AS s),(23,AI s.length),(24,AI k)],h,[]⟩) (fun k=>k≤s.length∧(s.take k).all z64=true) (fun k=>s.length-k) 0 rfl ⟨by omega,rfl⟩ ?_
  rintro k ⟨hk,hp⟩
  rcases Nat.lt_or_ge k s.length with hlt | hge
  ·have hg:s[k]?=some s[k]:=List.getElem?_eq_getElem hlt
   have w2:IntKind.i64.wrap ((k:Int)+1)=((k+1:Nat):Int):=z0k _ (by omega) (by omega)
   generalize hc:s[k]=c at *
   have key:(decide ((97:Int)≤c.toNat)&&decide ((c.toNat:Int)≤122)||decide ((48:Int)≤c.toNat)&&decide ((c.toNat:Int)≤57)||decide ((c.toNat:Int)=45)||decide ((c.toNat:Int)=95))=z64 c:=rfl
   cases hkc:z64 c with
   | true=>
    rw[hkc] at key
    have hn:(s.take (k+1)).all z64=true:=by rw[List.take_succ_eq_append_getElem hlt,List.all_append,hp,hc];simp [hkc]
    by_cases b1:(97:Int)≤c.toNat <;> by_cases b2:(c.toNat:Int)≤122 <;> by_cases b3:(48:Int)≤c.toNat <;> by_cases b4:(c.toNat:Int)≤57 <;> by_cases b5:(c.toNat:Int)=45 <;> by_cases b6:(c.toNat:Int)=95
    all_goals first
     | (simp only[b1,b2,b3,b4,b5,b6,decide_true,decide_false,Bool.and_self,Bool.and_true,Bool.and_false,Bool.or_self,Bool.or_true,Bool.or_false,Bool.true_or,Bool.false_or,Bool.false_and,reduceCtorEq] at key;done)
     | (exfalso;omega)
     | (simp only[go_sem,hlt,hg,w2,b1,b2,b3,b4,b5,b6];exact⟨k+1,rfl,⟨by omega,hn⟩,by omega⟩)
   | false=>
    rw[hkc] at key
    have hn:s.all z64=false:=by rw[List.all_eq_false];exact⟨_,List.getElem_mem hlt,by rw[hc,hkc];simp⟩
    rw[hn] at hB
    subst hB
    by_cases b1:(97:Int)≤c.toNat <;> by_cases b2:(c.toNat:Int)≤122 <;> by_cases b3:(48:Int)≤c.toNat <;> by_cases b4:(c.toNat:Int)≤57 <;> by_cases b5:(c.toNat:Int)=45 <;> by_cases b6:(c.toNat:Int)=95
    all_goals first
     | (simp only[b1,b2,b3,b4,b5,b6,decide_true,decide_false,Bool.and_self,Bool.and_true,Bool.and_false,Bool.or_self,Bool.or_true,Bool.or_false,Bool.true_or,Bool.false_or,Bool.false_and,reduceCtorEq] at key;done)
     | (exfalso;omega)
     | (simp only[go_sem,hlt,hg,b1,b2,b3,b4,b5,b6])
  ·have ek:k=s.length:=by omega
   subst ek
   rw[List.take_length,hB] at hp
   subst hp
   simp only[go_sem,Nat.lt_irrefl]
theorem zqL (s:List UInt8) (c:UInt8):decide (idxB s c<0) = !s.contains c:=by
 unfold idxB
 rw[Bool.eq_iff_iff]
 by_cases hf:s.findIdx (· == c)<s.length
 ·rw[if_pos hf]
  have:=List.findIdx_getElem (w:=hf)
  simp only[beq_iff_eq] at this
  have hm:c∈s:=by rw[← this];exact List.getElem_mem hf
  simp [hm]
 ·rw[if_neg hf]
  have hm:¬ c∈s:=fun hm=>hf (List.findIdx_lt_length_of_exists ⟨c,hm,by simp⟩)
  simp [hm]
theorem ztz (s t:List UInt8) (hl:s.length≤1000000000):z0d X z6p [AS s,AS t] h K=K (AB (s.all fun c=>t.contains c)) h []:=by
 refine rule ?_
 rw[c_q051 rfl]
 simp only[zeR,go_sem]
 refine z0U (fun k:Nat=>⟨[(0,AS s),(1,AS t),(7,AI s.length),(8,AI k)],h,[]⟩) (fun k=>k≤s.length∧(s.take k).all (fun c=>t.contains c)=true) (fun k=>s.length-k) 0 rfl ⟨by omega,rfl⟩ ?_
 rintro k ⟨hk,hp⟩
 rcases Nat.lt_or_ge k s.length with hlt | hge
 ·have hg:s[k]?=some s[k]:=List.getElem?_eq_getElem hlt
  have w2:IntKind.i64.wrap ((k:Int)+1)=((k+1:Nat):Int):=z0k _ (by omega) (by omega)
  have hi:=zqL t s[k]
  by_cases hc:idxB t s[k]<0
  ·have:s.all (fun c=>t.contains c)=false:=by
    rw[List.all_eq_false]
    refine⟨_,List.getElem_mem hlt,?_⟩
    rw[decide_eq_true hc] at hi
    cases hq:t.contains s[k] with
    | true=>rw[hq] at hi;cases hi
    | false=>simp
   simp only[go_sem,hlt,hg,z8g,hc,this]
  ·rw[decide_eq_false hc] at hi
   have hq:t.contains s[k]=true:=by cases hq:t.contains s[k] with | true=>rfl | false=>rw[hq] at hi;cases hi
   simp only[go_sem,hlt,hg,z8g,hc,w2]
   exact⟨k+1,rfl,⟨by omega,by rw[List.take_succ_eq_append_getElem hlt,List.all_append,hp];simp only[List.all_cons,List.all_nil,hq];rfl⟩,by omega⟩
 ·have ek:k=s.length:=by omega
  subst ek
  rw[List.take_length] at hp
  simp only[go_sem,Nat.lt_irrefl,hp]
def z8l:List UInt8:=[97,98,99,100,101,102,103,104,105,106,107,108,109,110,111,112,113,114,115,116,117,118,119,120,121,122]
def zmk:List UInt8:=[97,98,99,100,101,102,103,104,105,106,107,108,109,110,111,112,113,114,115,116,117,118,119,120,121,122,48,49,50,51,52,53,54,55,56,57,45,95]
theorem zt3 {p:UInt8→Bool} (h:((List.range 256).all fun n=>p (UInt8.ofNat n))=true) (c:UInt8):p c=true:=by
 have:=List.all_eq_true.1 h c.toNat (by simp;exact c.toNat_lt)
 rwa [UInt8.ofNat_toNat] at this
theorem zhr (c:UInt8):z8l.contains c=(decide ((97:Int)≤c.toNat)&&decide ((c.toNat:Int)≤122)):=by
 have:=zt3 (p:=fun c=>z8l.contains c==(decide ((97:Int)≤c.toNat)&&decide ((c.toNat:Int)≤122))) (by kernel_rfl) c
 simpa using this
theorem zqS (c:UInt8):zmk.contains c=z64 c:=by
 have:=zt3 (p:=fun c=>zmk.contains c==z64 c) (by kernel_rfl) c
 simpa using this
theorem z6C (s:List UInt8) (hl:s.length≤1000000000):z0d X z3o [AS s] h K=K (AB (keyB s)) h []:=by
 refine rule ?_
 rw[c_q043 rfl]
 have o1:=fun h K=>ztz (h:=h) (K:=K) s zmk hl
 have e2:(s.all fun c=>zmk.contains c)=s.all z64:=by congr 1;funext c;exact zqS c
 rw[e2] at o1
 unfold zmk at o1
 cases s with
 | nil=>simp only[z8I,go_sem,s_in,keyB]
 | cons c r=>
  have o2:=fun h K=>ztz (h:=h) (K:=K) [c] z8l (by simp)
  have e3:([c].all fun c=>z8l.contains c)=(decide ((97:Int)≤c.toNat)&&decide ((c.toNat:Int)≤122)):=by simp only[List.all_cons,List.all_nil,Bool.and_true];exact zhr c
  rw[e3] at o2
  unfold z8l at o2
  have q1:(1:Int)≤((r.length+1:Nat):Int):=by omega
  have q2:1≤r.length+1:=by omega
  by_cases h1:r.length<40
  ·have h1':((r.length+1:Nat):Int)≤40:=by omega
   cases h2:(decide ((97:Int)≤c.toNat)&&decide ((c.toNat:Int)≤122)) with
   | true=>
    have ek:keyB (c::r)=(c::r).all z64:=by
     simp only[keyB,h1,decide_true,Bool.true_and,h2]
    rw[ek]
    simp only[z8I,go_sem,s_in,h1',q1,q2,win,↓o2,o2,h2,↓o1,o1]
   | false=>
    have ek:keyB (c::r)=false:=by simp only[keyB,h1,decide_true,Bool.true_and,h2,Bool.false_and]
    rw[ek]
    simp only[z8I,go_sem,s_in,h1',q1,q2,win,↓o2,o2,h2]
  ·have h1':¬ ((r.length+1:Nat):Int)≤40:=by omega
   have ek:keyB (c::r)=false:=by simp only[keyB,h1,decide_false,Bool.false_and]
   rw[ek]
   simp only[z8I,go_sem,s_in,h1',q1]
end Go.Am
end
section
/- Finding values in lists: printed by program. -/
open Go
set_option linter.unusedSimpArgs false
namespace Go.Am
attribute [-go_sem] PV.cells
variable {h:Heap} {K:Post}
theorem z9N {v:AV} {g:Nat} {caps:List AV} {p:PV→Bool} {xs:List PV} (hv:Shows none v xs h) (hp:zpI g caps p xs h) (hl:xs.length≤1000000000) :
 z0d X z7y [v,.fn g caps] h K=K (AI (idxP p xs)) h []:=by
 refine rule ?_
 rw[c_q05w]
 have vl:=hv.len
 simp only[zeU,go_sem,vl]
 refine z0U (fun k:Nat=>⟨[(0,v),(1,.fn g caps),(7,AI xs.length),(8,AI k)],h,[]⟩) (fun k=>k≤xs.length∧∀ x∈xs.take k,p x=false) (fun k=>xs.length-k) 0 rfl (by simp) ?_
 rintro k ⟨hk,hn⟩
 rcases Nat.lt_or_ge k xs.length with hlt | hge
 ·obtain⟨a,ha,hb⟩:=hv.get k hlt
  have w2:IntKind.i64.wrap ((k:Int)+1)=((k+1:Nat):Int):=z0k _ (by omega) (by omega)
  have ht:=hp _ (List.getElem_mem hlt)
  cases hpk:p xs[k] with
  | true=>
   have hf:xs.findIdx p=k:=by
    rw[List.findIdx_eq hlt]
    refine⟨hpk,fun j hj=>?_⟩
    have:=hn xs[j] (by rw[List.mem_take_iff_getElem];exact⟨j,by omega,rfl⟩)
    simpa using this
   simp only[go_sem,hlt,ha,hb,ht,hpk,w2]
   simp only[idxP,hf,hlt,if_true]
  | false=>
   simp only[go_sem,hlt,ha,hb,ht,hpk,w2]
   refine⟨k+1,rfl,⟨by omega,fun x hx=>?_⟩,by omega⟩
   rw[List.take_succ_eq_append_getElem hlt,List.mem_append,List.mem_singleton] at hx
   rcases hx with hx | hx
   ·exact hn x hx
   ·rw[hx];exact hpk
 ·have e1:k=xs.length:=by omega
  subst e1
  simp only[go_sem,Nat.lt_irrefl]
  rw[List.take_length] at hn
  have:¬ xs.findIdx p<xs.length:=by
   rw[Nat.not_lt,Nat.le_iff_lt_or_eq];right
   exact (List.findIdx_eq_length.2 (fun x hx=>by simp [hn x hx])).symm
  simp [idxP,this]
theorem z6y {g:Nat} {caps:List AV} {p:PV→Bool} {xs:List PV} (hp:zpI g caps p xs h) (hs:shps none xs) (hl:xs.length≤1000000000) :
 z0d X z6r [.p (.sl none xs),.fn g caps] h K=K (AB (xs.any p)) h []:=by
 refine rule ?_
 rw[c_q05i]
 have vi:=fun K=>z9N (h:=h) (K:=K) (zay hs) hp hl
 simp only[zjV,go_sem,vi,zf5]
end Go.Am
end
section
/- Limits: what they are,what is wrong with them. -/
open Go
namespace Go.Am
variable {h:Heap} {K:Post}
structure Lim where
 key:List UInt8
 lo:Int
 hi:Int
 bin:Int
def Lim.pv (x:Lim):PV:=.agg [.str x.key,eI x.lo,eI x.hi,eI x.bin]
def inB (a n b:Int):Bool:=decide (a≤n)&&decide (n≤b)
theorem z1T (n a b:Int):z0d X z0I [AI n,AI a,AI b] h K=K (AB (!inB a n b)) h []:=by rw[s_Out,out_eq];rfl
theorem z81 (n a b:Int):z0d X z2g [AI n,AI a,AI b] h K=K (AB (inB a n b)) h []:=s_in n a b
end Go.Am
end
section
/- What is wrong with limits,both ways: printed by program. -/
open Go
set_option linter.unusedSimpArgs false
namespace Go.Am
variable {h:Heap} {K:Post}
end Go.Am
end
section
/- Package lot on measured values,and what the reference says of them. -/
open Go
namespace Go.Am
variable {h:Heap} {K:Post}
theorem ztJ {l:List Int}:shps none (l.map eI):=fun x hx=>by obtain⟨n,_,rfl⟩:=List.mem_map.1 hx;rfl
end Go.Am
end
section
/- Records: what they are,what is wrong with them. -/
open Go
set_option linter.unusedSimpArgs false
namespace Go.Am
variable {h:Heap} {K:Post}
theorem zoD {b:Nat} {P:Post} {vs:List AV} {h:Heap}:retK true b P (some vs) h []=P (z0D vs) (h.take (max b (z0D vs).top)) []:=by
 simp [retK,close,z0L]
attribute [go_sem] zoD
structure Rec where
 unit:List UInt8
 time:Int
 site:List UInt8
 res:List Int
def Rec.pv (r:Rec):PV:=.agg [.str r.unit,eI r.time,.str r.site,.sl none (r.res.map eI)]
def z1D (n:Int):Bool:=inB 0 n 345686399999
theorem zeH (x y:Int):cmp3 y x = - cmp3 x y:=by
 unfold cmp3;split <;> split <;> (try split) <;> (try split) <;> omega
theorem z1Z (n:Int):z0d X z4N [AI n] h K=K (AB (z1D n)) h []:=by
 refine rule ?_
 rw[c_q007 rfl]
 simp only[zjF,go_sem,z1T,Bool.not_not]
 rfl
theorem z1l (n:Int):z0d X z8V [AI n] h K=K (AB (z1D n)) h []:=by
 refine rule ?_
 rw[c_q046 rfl]
 simp only[zjS,go_sem,z81]
 rfl
end Go.Am
end
section
/- Entries of stations,plainly: what is wrong with them. -/
set_option linter.all false
namespace Go.Am
structure Ent where
 site:List UInt8
 no:Int
 time:Int
 kind:Int
 board:List UInt8
 step:List UInt8
 of:List UInt8
 other:Int
 deriving DecidableEq
def Ent.pv (x:Ent):PV:=.agg [.str x.site,eI x.no,eI x.time,eI x.kind,.str x.board,.str x.step,.str x.of,eI x.other]
def noB (n:Int):Bool:=inB 1 n 1000000
def z9k (x:Ent):Bool:=if x.kind=7 then keyB x.of else if x.kind=2 then keyB x.board&&keyB x.step else keyB x.board
def zrM (x:Ent):Ent:=if x.kind=7 then ⟨x.site,x.no,x.time,x.kind,[],[],x.of,x.other⟩ else if x.kind=2 then ⟨x.site,x.no,x.time,x.kind,x.board,x.step,[],0⟩ else ⟨x.site,x.no,x.time,x.kind,x.board,[],[],0⟩
def entF (x:Ent):Int:=
 if keyB x.site=false then 5 else if noB x.no=false∨z1D x.time=false then 1 else if inB 1 x.kind 7=false then 4
 else if z9k x=false then 5 else if x.kind=7∧noB x.other=false then 1 else if x≠zrM x then 3 else 0
def z0W (a b:Ent):Int:=if cmp3 a.time b.time≠0 then cmp3 a.time b.time else if cmpL a.site b.site≠0 then cmpL a.site b.site else cmp3 a.no b.no
theorem zgH (a b:Ent):z0W b a = - z0W a b:=by
 unfold z0W
 rw[zeH a.time b.time,z9V a.site b.site,zeH a.no b.no]
 by_cases h1:cmp3 a.time b.time=0
 ·by_cases h2:cmpL a.site b.site=0
  ·simp [h1,h2]
  ·simp [h1,h2]
 ·simp [h1]
def z2X (a b:Ent):Bool:=decide (a.site=b.site)&&decide (a.no=b.no)
def z0A:Option Ent→List Ent→Int
 | _,[]=>0
 | p,x::r=>if entF x≠0 then entF x else if (match p with | some q=>decide (z0W x q≤0) | none=>false)=true then 7 else z0A (some x) r
def z2m (seen:List Ent):List Ent→Bool
 | []=>false
 | x::r=>if seen.any (fun o=>z2X o x) then true else z2m (seen++[x]) r
def z2y (l:List Ent):Int:=if (2000:Int)<l.length then 2 else if z0A none l≠0 then z0A none l else if z2m [] l then 6 else 0
end Go.Am
end
section
/- Boards followed through their steps,plainly: the program's floor and the reference's agree. -/
set_option linter.all false
namespace Go.Am
abbrev Nm:=List UInt8
section
variable {β:Type}
def getA (l:List (Nm × β)) (k:Nm):Option β:=(l.find? fun e=>decide (e.1=k)).map (·.2)
def putA (l:List (Nm × β)) (k:Nm) (v:β):List (Nm × β):=if l.any (fun e=>decide (e.1=k)) then l.map (fun e=>if e.1=k then (k,v) else e) else l++[(k,v)]
def delA (l:List (Nm × β)) (k:Nm):List (Nm × β):=l.filter fun e=>!decide (e.1=k)
theorem z16 (e:Nm × β) (l:List (Nm × β)) (k:Nm):getA (e::l) k=if e.1=k then some e.2 else getA l k:=by
 unfold getA
 rw[List.find?_cons]
 by_cases h:e.1=k <;> simp [h]
theorem zlX {l:List (Nm × β)} {k:Nm} (h:l.any (fun e=>decide (e.1=k))=false):getA l k=none:=by
 unfold getA
 rw[List.find?_eq_none.2 (fun x hx=>by rw[List.any_eq_false] at h;exact h x hx)]
 rfl
theorem zqB (l m:List (Nm × β)) (k:Nm):getA (l++m) k=(getA l k).or (getA m k):=by
 unfold getA
 rw[List.find?_append]
 cases l.find? (fun e=>decide (e.1=k)) <;> rfl
theorem zqC (l:List (Nm × β)) (k:Nm) (v:β) (j:Nm):getA (l.map fun e=>if e.1=k then (k,v) else e) j=if j=k then (getA l k).map (fun _=>v) else getA l j:=by
 induction l with
 | nil=>simp [getA]
 | cons e l ih=>
  rw[List.map_cons,z16,ih,z16,z16]
  by_cases h1:e.1=k
  ·rw[if_pos h1]
   by_cases h2:j=k
   ·subst h2;simp [h1]
   ·have h3:¬ k=j:=fun q=>h2 q.symm
    simp [h1,h2,h3]
  ·rw[if_neg h1]
   by_cases h2:j=k
   ·subst h2;simp [h1]
   ·simp [h2]
theorem z2s (l:List (Nm × β)) (k:Nm) (v:β) (j:Nm):getA (putA l k v) j=if j=k then some v else getA l j:=by
 unfold putA
 cases h:l.any (fun e=>decide (e.1=k)) with
 | true=>
  rw[if_pos rfl,zqC]
  by_cases hj:j=k
  ·rw[if_pos hj,if_pos hj]
   obtain⟨e,he,hk⟩:=List.any_eq_true.1 h
   have:getA l k≠none:=by
    unfold getA
    intro hn
    rw[Option.map_eq_none_iff,List.find?_eq_none] at hn
    exact hn e he hk
   cases hg:getA l k with
   | none=>exact absurd hg this
   | some x=>rfl
  ·rw[if_neg hj,if_neg hj]
 | false=>
  rw[if_neg (by simp),zqB,z16]
  by_cases hj:j=k
  ·subst hj
   rw[zlX h,if_pos rfl,if_pos rfl];rfl
  ·rw[if_neg (fun q=>hj q.symm),if_neg hj]
   cases getA l j <;> rfl
theorem zaj (l:List (Nm × β)) (k j:Nm):getA (delA l k) j=if j=k then none else getA l j:=by
 induction l with
 | nil=>simp [getA,delA]
 | cons e l ih=>
  unfold delA at ih ⊢
  rw[List.filter_cons,z16]
  by_cases h1:e.1=k
  ·rw[if_neg (by simp [h1]),ih]
   by_cases h2:j=k
   ·rw[if_pos h2,if_pos h2]
   ·rw[if_neg h2,if_neg h2,if_neg (by rw[h1];exact fun q=>h2 q.symm)]
  ·rw[if_pos (by simp [h1]),z16,ih]
   by_cases h2:e.1=j
   ·rw[if_pos h2,if_pos h2,if_neg (fun q=>h1 (h2.trans q))]
   ·rw[if_neg h2,if_neg h2]
end
structure Sta where
 state:Int
 since:Int
 step:Nm
 site:Nm
 failed:Int
 deriving DecidableEq
structure EndP where
 board:Nm
 step:Nm
 frm:Int
 til:Int
 pass:Bool
 deriving DecidableEq
structure RunP where
 site:Nm
 frm:Int
 til:Int
 deriving DecidableEq
structure RanQ where
 board:Nm
 site:Nm
 step:Nm
 frm:Int
 til:Int
 pass:Bool
 deriving DecidableEq
def RanQ.run (r:RanQ):RunP:=⟨r.site,r.frm,r.til⟩
def RanQ.fin (r:RanQ):EndP:=⟨r.board,r.step,r.frm,r.til,r.pass⟩
structure FlP where
 bs:List (Nm × Sta)
 sites:List (Nm × Nm)
 ends:List EndP
 runs:List RunP
structure FlQ where
 bs:List (Nm × Sta)
 runs:List RanQ
def z0B (steps:List Nm) (tries:Int) (s:Sta) (at_:Int) (pass:Bool):Sta:=
 if pass then (if steps.findIdx (fun y=>decide (y=s.step))+1=steps.length then ⟨4,at_,[],[],0⟩ else ⟨1,at_,(steps[steps.findIdx (fun y=>decide (y=s.step))+1]?).getD [],[],0⟩)
 else ⟨if s.failed+1=tries then 5 else 3,at_,s.step,[],s.failed+1⟩
def z1i (l:List RunP) (site:Nm) (at_:Int):List RunP:=l.map fun r=>if r.site=site∧r.til<0 then { r with til:=at_ } else r
def zbc (l:List RanQ) (board:Nm) (at_:Int) (pass:Bool):List RanQ:=l.map fun r=>if r.board=board∧r.til<0 then { r with til:=at_,pass:=pass } else r
def zcO (l:List RanQ) (board:Nm) (at_:Int):List RanQ:=l.map fun r=>if r.board=board∧r.til<0 then { r with til:=at_,board:=[] } else r
def actP (steps:List Nm) (tries:Int) (w:FlP) (x:Ent):FlP × Int:=
 if x.kind=1 then (match getA w.bs x.board with | some _=>(w,6) | none=>({ w with bs:=putA w.bs x.board ⟨1,x.time,steps.headD [],[],0⟩ },0))
 else match getA w.bs x.board with
 | none=>(w,8)
 | some b=>
  if x.kind=2 then (if b.state≠1 then (w,11) else if x.step≠b.step then (w,3) else if (getA w.sites x.site).isSome then (w,12)
   else ({ w with bs:=putA w.bs x.board { b with state:=2,since:=x.time,site:=x.site },sites:=putA w.sites x.site x.board,runs:=w.runs++[⟨x.site,x.time,-1⟩] },0))
  else if x.kind=3∨x.kind=4 then (if b.state≠2 then (w,11) else if b.site≠x.site then (w,13)
   else ({ bs:=putA w.bs x.board (z0B steps tries b x.time (decide (x.kind=3))),sites:=delA w.sites b.site,ends:=w.ends++[⟨x.board,b.step,b.since,x.time,decide (x.kind=3)⟩],runs:=z1i w.runs b.site x.time },0))
  else if x.kind=5 then (if b.state≠3 then (w,11) else ({ w with bs:=putA w.bs x.board { b with state:=1,since:=x.time } },0))
  else if b.state=4∨b.state=5 then (w,11)
  else if b.state=2 then ({ w with bs:=putA w.bs x.board { b with state:=5,since:=x.time,site:=[] },sites:=delA w.sites b.site,runs:=z1i w.runs b.site x.time },0)
  else ({ w with bs:=putA w.bs x.board { b with state:=5,since:=x.time } },0)
def zpU (bs:List (Nm × Sta)) (site:Nm):Prop:=∃ b st,getA bs b=some st∧st.state=2∧st.site=site
theorem zqD {β:Type} {l:List (Nm × β)} {k:Nm} {v:β} (h:getA l k=some v):(k,v)∈l:=by
 unfold getA at h
 obtain⟨e,h1,h2⟩:=Option.map_eq_some_iff.1 h
 have hm:=List.mem_of_find?_eq_some h1
 have hk:e.1=k:=by simpa using List.find?_some h1
 subst hk h2
 exact hm
theorem zjt (bs:List (Nm × Sta)) (site:Nm):(bs.any fun e=>decide (getA bs e.1=some e.2)&&(decide (e.2.state=2)&&decide (e.2.site=site)))=true↔zpU bs site:=by
 rw[List.any_eq_true]
 constructor
 ·rintro⟨e,_,h⟩
  simp only[Bool.and_eq_true,decide_eq_true_eq] at h
  exact⟨e.1,e.2,h.1,h.2.1,h.2.2⟩
 ·rintro⟨b,st,h1,h2,h3⟩
  exact⟨(b,st),zqD h1,by simp [h1,h2,h3]⟩
instance (bs:List (Nm × Sta)) (site:Nm):Decidable (zpU bs site):=decidable_of_iff _ (zjt bs site)
def doQ (steps:List Nm) (tries:Int) (w:FlQ) (x:Ent):FlQ × Int:=
 if x.kind=7 then (w,0)
 else if x.kind=1 then (match getA w.bs x.board with | some _=>(w,6) | none=>({ w with bs:=putA w.bs x.board ⟨1,x.time,steps.headD [],[],0⟩ },0))
 else match getA w.bs x.board with
 | none=>(w,8)
 | some b=>
  if x.kind=2 then (if b.state≠1 then (w,11) else if b.step≠x.step then (w,3) else if zpU w.bs x.site then (w,12)
   else ({ bs:=putA w.bs x.board { b with state:=2,since:=x.time,site:=x.site },runs:=w.runs++[⟨x.board,x.site,x.step,x.time,-1,false⟩] },0))
  else if x.kind=3∨x.kind=4 then (if b.state≠2 then (w,11) else if b.site≠x.site then (w,13)
   else ({ bs:=putA w.bs x.board (z0B steps tries b x.time (decide (x.kind=3))),runs:=zbc w.runs x.board x.time (decide (x.kind=3)) },0))
  else if x.kind=5 then (if b.state≠3 then (w,11) else ({ w with bs:=putA w.bs x.board { b with state:=1,since:=x.time } },0))
  else if b.state=4∨b.state=5 then (w,11)
  else ({ bs:=putA w.bs x.board { b with state:=5,since:=x.time,site:=[] },runs:=zcO w.runs x.board x.time },0)
def zgT (bs:List (Nm × Sta)) (b s:Nm):Prop:=∃ st,getA bs b=some st∧st.state=2∧st.site=s
structure Inv (p:FlP) (q:FlQ):Prop where
 bs:p.bs=q.bs
 sts:∀ s b,getA p.sites s=some b↔zgT p.bs b s
 idle:∀ b st,getA p.bs b=some st→st.state≠2→st.site=[]
 name:∀ st,getA p.bs []≠some st
 runs:p.runs=q.runs.map RanQ.run
 gone:∀ r∈q.runs,r.board=[]→0≤r.til
 brd:∀ b,b≠[]→∃ C:List RanQ,(∀ r∈C,0≤r.til)∧p.ends.filter (fun e=>decide (e.board=b))=C.map RanQ.fin ∧
  (((∀ st,getA p.bs b=some st→st.state≠2)∧q.runs.filter (fun r=>decide (r.board=b))=C) ∨
   (∃ st,getA p.bs b=some st∧st.state=2∧q.runs.filter (fun r=>decide (r.board=b))=C++[⟨b,st.site,st.step,st.since,-1,false⟩]))
theorem Inv.busy {p:FlP} {q:FlQ} (I:Inv p q) (s:Nm):(getA p.sites s).isSome=true↔zpU q.bs s:=by
 rw[Option.isSome_iff_exists]
 constructor
 ·rintro⟨b,h⟩
  obtain⟨st,h1,h2,h3⟩:=(I.sts s b).1 h
  exact⟨b,st,by rw[← I.bs];exact h1,h2,h3⟩
 ·rintro⟨b,st,h1,h2,h3⟩
  exact⟨b,(I.sts s b).2 ⟨st,by rw[I.bs];exact h1,h2,h3⟩⟩
theorem Inv.opened {p:FlP} {q:FlQ} (I:Inv p q) {r:RanQ} (hr:r∈q.runs) (ho:r.til<0):∃ st,getA p.bs r.board=some st∧st.state=2∧r=⟨r.board,st.site,st.step,st.since,-1,false⟩:=by
 have hb:r.board≠[]:=fun e=>by have:=I.gone r hr e;omega
 obtain⟨C,c1,c2,h⟩:=I.brd r.board hb
 have hm:r∈q.runs.filter (fun x=>decide (x.board=r.board)):=List.mem_filter.2 ⟨hr,by simp⟩
 rcases h with ⟨_,h⟩ | ⟨st,h1,h2,h⟩
 ·rw[h] at hm
  have:=c1 r hm
  omega
 ·rw[h] at hm
  rcases List.mem_append.1 hm with hm | hm
  ·have:=c1 r hm
   omega
  ·exact⟨st,h1,h2,List.mem_singleton.1 hm⟩
theorem Inv.close {p:FlP} {q:FlQ} (I:Inv p q) {board:Nm} {st:Sta} (h1:getA p.bs board=some st) (h2:st.state=2) (at_:Int) {f:RanQ→RanQ} (hf:∀ r,r.til<0→(f r).run=⟨r.site,r.frm,at_⟩) :
 z1i p.runs st.site at_=(q.runs.map fun r=>if r.board=board∧r.til<0 then f r else r).map RanQ.run:=by
 unfold z1i
 rw[I.runs,List.map_map,List.map_map]
 apply List.map_congr_left
 intro r hr
 simp only[Function.comp]
 by_cases ho:r.til<0
 ·obtain⟨st',a1,a2,a3⟩:=I.opened hr ho
  by_cases hb:r.board=board
  ·have e:st'=st:=by rw[hb,h1] at a1;exact (Option.some.inj a1).symm
   have hs:r.site=st.site:=by rw[a3,e]
   rw[if_pos (show (RanQ.run r).site=st.site∧(RanQ.run r).til<0 from ⟨hs,ho⟩),if_pos ⟨hb,ho⟩,hf r ho]
   rfl
  ·rw[if_neg (c:=r.board=board∧r.til<0) (fun z=>hb z.1),if_neg]
   rintro⟨z1,_⟩
   have z2:r.site=st.site:=z1
   have z3:r.site=st'.site:=by rw[a3]
   have u1:=(I.sts st.site board).2 ⟨st,h1,h2,rfl⟩
   have u2:=(I.sts st.site r.board).2 ⟨st',a1,a2,by rw[← z3,z2]⟩
   rw[u1] at u2
   exact hb (Option.some.inj u2).symm
 ·rw[if_neg (fun z=>ho z.2),if_neg (fun z=>ho z.2)]
theorem z3q {l:List RanQ} {f:RanQ→RanQ} (hf:∀ r∈l,(f r).board=r.board) (b:Nm):(l.map f).filter (fun r=>decide (r.board=b))=(l.filter fun r=>decide (r.board=b)).map f:=by
 rw[List.filter_map]
 congr 1
 apply List.filter_congr
 intro r hr
 simp only[Function.comp]
 rw[hf r hr]
theorem zqQ (steps:List Nm) (tries:Int) {p:FlP} {q:FlQ} (I:Inv p q) (x:Ent) (hb:x.kind≠7→x.board≠[]) (hs:x.kind=2→x.site≠[]) (ht:0≤x.time) (hk:1≤x.kind∧x.kind≤7) (h7:x.kind≠7) :
 (actP steps tries p x).2=(doQ steps tries q x).2∧Inv (actP steps tries p x).1 (doQ steps tries q x).1:=by
 have hb0:=hb h7
 unfold actP doQ
 rw[if_neg h7,I.bs]
 by_cases k1:x.kind=1
 ·rw[if_pos k1,if_pos k1]
  cases hg:getA q.bs x.board with
  | some s=>exact⟨rfl,I⟩
  | none=>
   refine⟨rfl,?_⟩
   have hgp:getA p.bs x.board=none:=by rw[I.bs];exact hg
   have upd:∀ b,getA (putA q.bs x.board ⟨1,x.time,steps.headD [],[],0⟩) b=if b=x.board then some ⟨1,x.time,steps.headD [],[],0⟩ else getA p.bs b:=fun b=>by rw[z2s,I.bs]
   refine⟨rfl,fun s b=>?_,fun b st h1 h2=>?_,fun st=>?_,I.runs,I.gone,fun b h=>?_⟩
   ·rw[I.sts s b]
    unfold zgT
    show _↔∃ st,getA (putA q.bs _ _) b=some st∧_
    rw[upd b]
    by_cases e:b=x.board
    ·rw[if_pos e,e,hgp]
     constructor
     ·rintro⟨_,h,_⟩;cases h
     ·rintro⟨st,h,h2,_⟩;cases h;cases h2
    ·rw[if_neg e]
   ·change getA (putA q.bs _ _) b=some st at h1
    rw[upd b] at h1
    split at h1
    ·cases h1;rfl
    ·exact I.idle b st h1 h2
   ·show getA (putA q.bs _ _) []≠some st
    rw[upd [],if_neg (fun e=>hb0 e.symm)]
    exact I.name st
   ·obtain⟨C,c1,c2,c3⟩:=I.brd b h
    refine⟨C,c1,c2,?_⟩
    show ((∀ st,getA (putA q.bs _ _) b=some st→_)∧_)∨∃ st,getA (putA q.bs _ _) b=some st∧_
    rw[upd b]
    by_cases e:b=x.board
    ·rw[if_pos e]
     left
     refine⟨fun st h=>by cases h;show (1:Int)≠2;decide,?_⟩
     rcases c3 with ⟨_,c3⟩ | ⟨st,c3,_⟩
     ·exact c3
     ·rw[e,hgp] at c3;cases c3
    ·rw[if_neg e];exact c3
 rw[if_neg k1,if_neg k1]
 cases hg:getA q.bs x.board with
 | none=>exact⟨rfl,I⟩
 | some b=>
  have hgp:getA p.bs x.board=some b:=by rw[I.bs];exact hg
  -- a board that does not run,and does not run behind it
  have quiet:∀ s:Sta,b.state≠2→s.state≠2→s.site=[]→Inv { p with bs:=putA q.bs x.board s } { q with bs:=putA q.bs x.board s }:=fun s n1 n2 n3=>by
   have upd:∀ c,getA (putA q.bs x.board s) c=if c=x.board then some s else getA p.bs c:=fun c=>by rw[z2s,I.bs]
   refine⟨rfl,fun s' c=>?_,fun c st h1 h2=>?_,fun st=>?_,I.runs,I.gone,fun c h=>?_⟩
   ·rw[I.sts s' c]
    unfold zgT
    show _↔∃ st,getA (putA q.bs _ _) c=some st∧_
    rw[upd c]
    by_cases e:c=x.board
    ·rw[if_pos e,e,hgp]
     constructor
     ·rintro⟨_,h,h2,_⟩;cases h;exact absurd h2 n1
     ·rintro⟨_,h,h2,_⟩;cases h;exact absurd h2 n2
    ·rw[if_neg e]
   ·change getA (putA q.bs _ _) c=some st at h1
    rw[upd c] at h1
    split at h1
    ·cases h1;exact n3
    ·exact I.idle c st h1 h2
   ·show getA (putA q.bs _ _) []≠some st
    rw[upd [],if_neg (fun e=>hb0 e.symm)]
    exact I.name st
   ·obtain⟨C,c1,c2,c3⟩:=I.brd c h
    refine⟨C,c1,c2,?_⟩
    show ((∀ st,getA (putA q.bs _ _) c=some st→_)∧_)∨∃ st,getA (putA q.bs _ _) c=some st∧_
    rw[upd c]
    by_cases e:c=x.board
    ·rw[if_pos e]
     left
     refine⟨fun st h=>by cases h;exact n2,?_⟩
     rcases c3 with ⟨_,c3⟩ | ⟨st,c3,c4,_⟩
     ·exact c3
     ·rw[e,hgp] at c3;cases c3;exact absurd c4 n1
    ·rw[if_neg e];exact c3
  by_cases k2:x.kind=2
  ·dsimp only
   rw[if_pos k2,if_pos k2]
   by_cases e1:b.state≠1
   ·rw[if_pos e1,if_pos e1];exact⟨rfl,I⟩
   rw[if_neg e1,if_neg e1]
   have e1':b.state=1:=by simpa using e1
   by_cases e2:x.step≠b.step
   ·rw[if_pos e2,if_pos (fun q=>e2 q.symm)];exact⟨rfl,I⟩
   have e2':x.step=b.step:=by simpa using e2
   rw[if_neg (c:=x.step≠b.step) e2,if_neg (c:=b.step≠x.step) (fun z=>z e2'.symm)]
   by_cases e3:(getA p.sites x.site).isSome=true
   ·rw[if_pos e3,if_pos ((I.busy _).1 e3)];exact⟨rfl,I⟩
   rw[if_neg e3,if_neg (fun z=>e3 ((I.busy _).2 z))]
   refine⟨rfl,?_⟩
   have e3':getA p.sites x.site=none:=by simpa using e3
   have upd:∀ c,getA (putA q.bs x.board { b with state:=2,since:=x.time,site:=x.site }) c=if c=x.board then some { b with state:=2,since:=x.time,site:=x.site } else getA p.bs c:=fun c=>by rw[z2s,I.bs]
   refine⟨rfl,fun s c=>?_,fun c st h1 h2=>?_,fun st=>?_,?_,fun r hr=>?_,fun c h=>?_⟩
   ·show getA (putA p.sites x.site x.board) s=some c↔∃ st,getA (putA q.bs _ _) c=some st∧_
    rw[z2s,upd c]
    by_cases es:s=x.site
    ·rw[if_pos es]
     by_cases ec:c=x.board
     ·rw[if_pos ec,ec]
      exact⟨fun _=>⟨_,rfl,rfl,es.symm⟩,fun _=>rfl⟩
     ·rw[if_neg ec]
      constructor
      ·intro h;exact absurd (Option.some.inj h).symm ec
      ·intro h
       have:=(I.sts s c).2 h
       rw[es,e3'] at this;cases this
    ·rw[if_neg es,I.sts s c]
     unfold zgT
     by_cases ec:c=x.board
     ·rw[if_pos ec,ec,hgp]
      constructor
      ·rintro⟨_,h,h2,_⟩;cases h;omega
      ·rintro⟨_,h,_,h3⟩;cases h;exact absurd h3.symm es
     ·rw[if_neg ec]
   ·change getA (putA q.bs _ _) c=some st at h1
    rw[upd c] at h1
    split at h1
    ·cases h1;exact absurd rfl h2
    ·exact I.idle c st h1 h2
   ·show getA (putA q.bs _ _) []≠some st
    rw[upd [],if_neg (fun e=>hb0 e.symm)]
    exact I.name st
   ·show p.runs++[_]=(q.runs++[_]).map RanQ.run
    rw[List.map_append,I.runs];rfl
   ·intro he
    rcases List.mem_append.1 hr with hr | hr
    ·exact I.gone r hr he
    ·rw[List.mem_singleton.1 hr] at he;exact absurd he hb0
   ·obtain⟨C,c1,c2,c3⟩:=I.brd c h
    refine⟨C,c1,c2,?_⟩
    dsimp only
    rw[upd c,List.filter_append]
    by_cases ec:c=x.board
    ·rw[if_pos ec]
     right
     refine⟨_,rfl,rfl,?_⟩
     rcases c3 with ⟨_,c3⟩ | ⟨st,c3,c4,_⟩
     ·rw[c3,ec,e2'];simp
     ·rw[ec,hgp] at c3;cases c3;omega
    ·rw[if_neg ec]
     have e0:([(⟨x.board,x.site,x.step,x.time,-1,false⟩:RanQ)]:List RanQ).filter (fun r=>decide (r.board=c))=[]:=by have ec':¬ x.board=c:=fun z=>ec z.symm;simp [ec']
     rw[e0,List.append_nil]
     exact c3
  dsimp only
  rw[if_neg k2,if_neg k2]
  by_cases k3:x.kind=3∨x.kind=4
  ·rw[if_pos k3,if_pos k3]
   by_cases e1:b.state≠2
   ·rw[if_pos e1,if_pos e1];exact⟨rfl,I⟩
   rw[if_neg e1,if_neg e1]
   have e1':b.state=2:=by simpa using e1
   by_cases e2:b.site≠x.site
   ·rw[if_pos e2,if_pos e2];exact⟨rfl,I⟩
   rw[if_neg e2,if_neg e2]
   refine⟨rfl,?_⟩
   generalize hps:decide (x.kind=3)=ps
   have s2:(z0B steps tries b x.time ps).state≠2∧(z0B steps tries b x.time ps).site=[]:=by
    unfold z0B
    split
    ·split
     ·exact⟨by show (4:Int)≠2;decide,rfl⟩
     ·exact⟨by show (1:Int)≠2;decide,rfl⟩
    ·refine⟨?_,rfl⟩;dsimp only;split <;> decide
   generalize z0B steps tries b x.time ps=s at s2
   obtain⟨n2,n3⟩:=s2
   have upd:∀ c,getA (putA q.bs x.board s) c=if c=x.board then some s else getA p.bs c:=fun c=>by rw[z2s,I.bs]
   have cb:∀ r∈q.runs,(if r.board=x.board∧r.til<0 then { r with til:=x.time,pass:=ps } else r:RanQ).board=r.board:=fun r _=>by split <;> rfl
   refine⟨rfl,fun s' c=>?_,fun c st h1 h2=>?_,fun st=>?_,?_,fun r hr=>?_,fun c h=>?_⟩
   ·show getA (delA p.sites b.site) s'=some c↔∃ st,getA (putA q.bs _ _) c=some st∧_
    rw[zaj,upd c]
    by_cases es:s'=b.site
    ·rw[if_pos es]
     constructor
     ·intro h;cases h
     ·by_cases ec:c=x.board
      ·rw[if_pos ec];rintro⟨_,h,h2,_⟩;cases h;exact absurd h2 n2
      ·rw[if_neg ec]
       intro h
       have u1:=(I.sts s' c).2 h
       have u2:=(I.sts b.site x.board).2 ⟨b,hgp,e1',rfl⟩
       rw[es,u2] at u1
       exact absurd (Option.some.inj u1).symm ec
    ·rw[if_neg es,I.sts s' c]
     unfold zgT
     by_cases ec:c=x.board
     ·rw[if_pos ec,ec,hgp]
      constructor
      ·rintro⟨_,h,_,h3⟩;cases h;exact absurd h3.symm es
      ·rintro⟨_,h,h2,_⟩;cases h;exact absurd h2 n2
     ·rw[if_neg ec]
   ·change getA (putA q.bs _ _) c=some st at h1
    rw[upd c] at h1
    split at h1
    ·cases h1;exact n3
    ·exact I.idle c st h1 h2
   ·show getA (putA q.bs _ _) []≠some st
    rw[upd [],if_neg (fun e=>hb0 e.symm)]
    exact I.name st
   ·exact I.close hgp e1' x.time (f:=fun r=>{ r with til:=x.time,pass:=ps }) (fun r _=>rfl)
   ·intro he
    obtain⟨r0,hr0,rfl⟩:=List.mem_map.1 hr
    rw[cb r0 hr0] at he
    have:=I.gone r0 hr0 he
    rw[if_neg (fun z=>by omega)];exact this
   ·obtain⟨C,c1,c2,c3⟩:=I.brd c h
    by_cases ec:c=x.board
    ·subst ec
     rcases c3 with ⟨c3,_⟩ | ⟨st,c3,c4,c5⟩
     ·exact absurd e1' (c3 b hgp)
     rw[hgp] at c3;cases c3
     refine⟨C++[⟨x.board,b.site,b.step,b.since,x.time,ps⟩],fun r hr=>?_,?_,.inl ⟨fun st hst=>?_,?_⟩⟩
     ·rcases List.mem_append.1 hr with hr | hr
      ·exact c1 r hr
      ·rw[List.mem_singleton.1 hr];exact ht
     ·show (p.ends++[_]).filter _=_
      rw[List.filter_append,c2,List.map_append]
      simp [RanQ.fin]
     ·change getA (putA q.bs _ _) x.board=some st at hst
      rw[upd,if_pos rfl] at hst;cases hst;exact n2
     ·show (zbc q.runs x.board x.time ps).filter _=_
      unfold zbc
      rw[z3q cb,c5,List.map_append]
      congr 1
      ·conv=>rhs;rw[← List.map_id C]
       apply List.map_congr_left
       intro r hr
       have:=c1 r hr
       rw[if_neg (fun z=>by omega)];rfl
      ·simp
    ·refine⟨C,c1,?_,?_⟩
     ·show (p.ends++[_]).filter _=_
      rw[List.filter_append,c2]
      have ec':¬ x.board=c:=fun z=>ec z.symm
      simp [ec']
     ·dsimp only
      rw[upd c,if_neg ec]
      have same:(zbc q.runs x.board x.time ps).filter (fun r=>decide (r.board=c))=q.runs.filter (fun r=>decide (r.board=c)):=by
       unfold zbc
       rw[z3q cb]
       conv=>rhs;rw[← List.map_id (q.runs.filter _)]
       apply List.map_congr_left
       intro r hr
       have hrb:r.board=c:=by simpa using (List.mem_filter.1 hr).2
       rw[if_neg (fun z=>ec (hrb.symm.trans z.1))];rfl
      rw[same]
      exact c3
  rw[if_neg k3,if_neg k3]
  by_cases k5:x.kind=5
  ·rw[if_pos k5,if_pos k5]
   by_cases e1:b.state≠3
   ·rw[if_pos e1,if_pos e1];exact⟨rfl,I⟩
   rw[if_neg e1,if_neg e1]
   have e1':b.state=3:=by simpa using e1
   exact⟨rfl,quiet _ (by omega) (by show (1:Int)≠2;decide) (I.idle x.board b hgp (by omega))⟩
  rw[if_neg k5,if_neg k5]
  by_cases e45:b.state=4∨b.state=5
  ·rw[if_pos e45,if_pos e45];exact⟨rfl,I⟩
  rw[if_neg e45,if_neg e45]
  by_cases e2:b.state=2
  ·rw[if_pos e2]
   refine⟨rfl,?_⟩
   have upd:∀ c,getA (putA q.bs x.board { b with state:=5,since:=x.time,site:=[] }) c=if c=x.board then some { b with state:=5,since:=x.time,site:=[] } else getA p.bs c:=fun c=>by rw[z2s,I.bs]
   refine⟨rfl,fun s' c=>?_,fun c st h1 h2=>?_,fun st=>?_,?_,fun r hr=>?_,fun c h=>?_⟩
   ·show getA (delA p.sites b.site) s'=some c↔∃ st,getA (putA q.bs _ _) c=some st∧_
    rw[zaj,upd c]
    by_cases es:s'=b.site
    ·rw[if_pos es]
     constructor
     ·intro h;cases h
     ·by_cases ec:c=x.board
      ·rw[if_pos ec];rintro⟨_,h,h2,_⟩;cases h;cases h2
      ·rw[if_neg ec]
       intro h
       have u1:=(I.sts s' c).2 h
       have u2:=(I.sts b.site x.board).2 ⟨b,hgp,e2,rfl⟩
       rw[es,u2] at u1
       exact absurd (Option.some.inj u1).symm ec
    ·rw[if_neg es,I.sts s' c]
     unfold zgT
     by_cases ec:c=x.board
     ·rw[if_pos ec,ec,hgp]
      constructor
      ·rintro⟨_,h,_,h3⟩;cases h;exact absurd h3.symm es
      ·rintro⟨_,h,h2,_⟩;cases h;cases h2
     ·rw[if_neg ec]
   ·change getA (putA q.bs _ _) c=some st at h1
    rw[upd c] at h1
    split at h1
    ·cases h1;rfl
    ·exact I.idle c st h1 h2
   ·show getA (putA q.bs _ _) []≠some st
    rw[upd [],if_neg (fun e=>hb0 e.symm)]
    exact I.name st
   ·exact I.close hgp e2 x.time (f:=fun r=>{ r with til:=x.time,board:=[] }) (fun r _=>rfl)
   ·intro he
    obtain⟨r0,hr0,rfl⟩:=List.mem_map.1 hr
    by_cases z:r0.board=x.board∧r0.til<0
    ·rw[if_pos z];exact ht
    ·rw[if_neg z] at he ⊢;exact I.gone r0 hr0 he
   ·obtain⟨C,c1,c2,c3⟩:=I.brd c h
    have fl:(zcO q.runs x.board x.time).filter (fun r=>decide (r.board=c))=(q.runs.filter (fun r=>decide (r.board=c))).filter (fun r=>!(decide (r.board=x.board)&&decide (r.til<0))):=by
     unfold zcO
     rw[List.filter_filter]
     induction q.runs with
     | nil=>rfl
     | cons r l ih=>
      rw[List.map_cons,List.filter_cons,List.filter_cons,ih]
      by_cases z:r.board=x.board∧r.til<0
      ·rw[if_pos z]
       have z2:(!(decide (r.board=x.board)&&decide (r.til<0))&&decide (r.board=c))=false:=by simp [z.1,z.2]
       have h':¬ ([]:List UInt8)=c:=fun z=>h z.symm
       simp [h',z.1,z.2]
      ·rw[if_neg z]
       have z3:(!(decide (r.board=x.board)&&decide (r.til<0)))=true:=by
        rw[← Bool.decide_and];simp [z]
       rw[z3,Bool.true_and]
    refine⟨C,c1,c2,?_⟩
    dsimp only
    rw[upd c,fl]
    have keepC:C.filter (fun r=>!(decide (r.board=x.board)&&decide (r.til<0)))=C:=by
     rw[List.filter_eq_self]
     intro r hr
     have:=c1 r hr
     have z:¬ r.til<0:=by omega
     simp [z]
    by_cases ec:c=x.board
    ·subst ec
     rw[if_pos rfl]
     left
     refine⟨fun st hst=>by cases hst;show (5:Int)≠2;decide,?_⟩
     rcases c3 with ⟨c3,_⟩ | ⟨st,c3,c4,c5⟩
     ·exact absurd e2 (c3 b hgp)
     ·rw[c5,List.filter_append,keepC];simp
    ·rw[if_neg ec]
     rcases c3 with ⟨c3,c5⟩ | ⟨st,c3,c4,c5⟩
     ·left;exact⟨c3,by rw[c5,keepC]⟩
     ·right
      refine⟨st,c3,c4,?_⟩
      rw[c5,List.filter_append,keepC]
      simp [ec]
  ·rw[if_neg e2]
   refine⟨rfl,?_⟩
   have e0:=I.idle x.board b hgp e2
   have eb:({ b with state:=5,since:=x.time,site:=[] }:Sta)={ b with state:=5,since:=x.time }:=by rw[← e0]
   have same:zcO q.runs x.board x.time=q.runs:=by
    unfold zcO
    conv=>rhs;rw[← List.map_id q.runs]
    apply List.map_congr_left
    intro r hr
    rw[if_neg]
    ·rfl
    ·rintro⟨z1,z2⟩
     obtain⟨st',a1,a2,_⟩:=I.opened hr z2
     rw[z1,hgp] at a1;cases a1
     exact e2 a2
   rw[eb,same]
   exact quiet _ e2 (by show (5:Int)≠2;decide) e0
theorem inv0:Inv ⟨[],[],[],[]⟩ ⟨[],[]⟩ where
 bs:=rfl
 sts s b:=⟨fun h=>(by cases h),fun h=>(by obtain⟨_,h,_⟩:=h;cases h)⟩
 idle b st h:=by cases h
 name st h:=by cases h
 runs:=rfl
 gone r hr:=by cases hr
 brd b _:=⟨[],fun r hr=>(by cases hr),rfl,.inl ⟨fun st h=>(by cases h),rfl⟩⟩
end Go.Am
end
section
/- First passes of steps,plainly: counted by ends,counted by boards. -/
set_option linter.all false
namespace Go.Am
end Go.Am
end
section
/- Entries that count,and what is followed of them,plainly. -/
set_option linter.all false
namespace Go.Am
def zpo (y x:Ent):Bool:=decide (y.kind=7)&&decide (y.of=x.site)&&decide (y.other=x.no)
def cntB:List Ent→List Bool
 | []=>[]
 | x::r=>(!((r.zip (cntB r)).any fun y=>y.2&&zpo y.1 x))::cntB r
theorem z1j:∀ l,(cntB l).length=l.length
 | []=>rfl
 | x::r=>by simp [cntB,z1j r]
def z1s:List Ent→List (Nm × Int)
 | []=>[]
 | x::r=>if decide ((x.site,x.no)∈z1s r)=false∧x.kind=7 then (x.of,x.other)::z1s r else z1s r
theorem z96:∀ (l:List Ent) (s:Nm) (n:Int),(s,n)∈z1s l↔((l.zip (cntB l)).any fun y=>y.2&&(decide (y.1.kind=7)&&decide (y.1.of=s)&&decide (y.1.other=n)))=true
 | [],s,n=>by simp [z1s,cntB]
 | x::r,s,n=>by
  have ih:=z96 r
  have hb:decide ((x.site,x.no)∈z1s r)=((r.zip (cntB r)).any fun y=>y.2&&zpo y.1 x):=by
   rw[Bool.eq_iff_iff,decide_eq_true_eq,ih x.site x.no];rfl
  unfold z1s
  rw[cntB,List.zip_cons_cons,List.any_cons,← hb]
  cases hd:decide ((x.site,x.no)∈z1s r) with
  | true=>
   rw[if_neg (by simp),ih s n]
   simp
  | false=>
   by_cases h7:x.kind=7
   ·rw[if_pos ⟨rfl,h7⟩,List.mem_cons,ih s n,Bool.or_eq_true]
    have:((s,n)=(x.of,x.other))↔((!false&&(decide (x.kind=7)&&decide (x.of=s)&&decide (x.other=n)))=true):=by
     simp only[Prod.mk.injEq,Bool.not_false,Bool.true_and,h7,decide_true,Bool.and_eq_true,decide_eq_true_eq]
     exact⟨fun h=>⟨h.1.symm,h.2.symm⟩,fun h=>⟨h.1.symm,h.2.symm⟩⟩
    rw[this]
   ·rw[if_neg (fun z=>h7 z.2),ih s n]
    simp [h7]
theorem zj7 (x:Ent) (r:List Ent):cntB (x::r)=(!decide ((x.site,x.no)∈z1s r))::cntB r:=by
 have hb:decide ((x.site,x.no)∈z1s r)=((r.zip (cntB r)).any fun y=>y.2&&zpo y.1 x):=by
  rw[Bool.eq_iff_iff,decide_eq_true_eq,z96 r x.site x.no];rfl
 rw[hb];rfl
structure EntW (x:Ent):Prop where
 b:x.kind≠7→x.board≠[]
 s:x.kind=2→x.site≠[]
 t:0≤x.time
 k:1≤x.kind∧x.kind≤7
theorem zd4 {s:List UInt8} (h:keyB s=true):s≠[]:=by
 intro e
 subst e
 revert h
 decide
theorem entF_W {x:Ent} (h:entF x=0):EntW x:=by
 unfold entF at h
 split at h
 ·cases h
 rename_i h1
 split at h
 ·cases h
 rename_i h2
 split at h
 ·cases h
 rename_i h3
 split at h
 ·cases h
 rename_i h4
 have k1:1≤x.kind∧x.kind≤7:=by
  have:inB 1 x.kind 7=true:=by simpa using h3
  unfold inB at this
  simpa using this
 have t1:0≤x.time:=by
  rw[not_or] at h2
  have:z1D x.time=true:=by simpa using h2.2
  unfold z1D inB at this
  simp at this
  exact this.1
 have hs:x.site≠[]:=zd4 (by simpa using h1)
 have hn:z9k x=true:=by simpa using h4
 refine⟨fun h7=>?_,fun _=>hs,t1,k1⟩
 unfold z9k at hn
 rw[if_neg h7] at hn
 split at hn
 ·rw[Bool.and_eq_true] at hn;exact zd4 hn.1
 ·exact zd4 hn
end Go.Am
end
section
/- The floor's memory: what lies where. -/
open Go
set_option linter.all false
set_option maxRecDepth 100000
namespace Go.Am
variable {h:Heap} {K:Post}
def FH (h:Heap) (o0 o1 o2 o3 o4 o5 o6 o7:Obj) (B l:Heap):Heap:=h++o0::o1::o2::o3::o4::o5::o6::o7::(B++l)
section
variable {o0 o1 o2 o3 o4 o5 o6 o7 o o':Obj} {B l l2:Heap} {n:Nat}
theorem z2q:(FH h o0 o1 o2 o3 o4 o5 o6 o7 B l).length=h.length+(8+B.length+l.length):=by unfold FH;simp;omega
theorem z3m:FH h o0 o1 o2 o3 o4 o5 o6 o7 B l++l2=FH h o0 o1 o2 o3 o4 o5 o6 o7 B (l++l2):=by unfold FH;simp
theorem z9C (n:Nat):(FH h o0 o1 o2 o3 o4 o5 o6 o7 B l)[h.length+n]?=(o0::o1::o2::o3::o4::o5::o6::o7::(B++l))[n]?:=by unfold FH;rw[List.getElem?_append_right (by omega)];simp
theorem z9K (n:Nat):(FH h o0 o1 o2 o3 o4 o5 o6 o7 B l).set (h.length+n) o=h++(o0::o1::o2::o3::o4::o5::o6::o7::(B++l)).set n o:=by unfold FH;rw[List.set_append_right _ _ (by omega)];simp
theorem z6z:(FH h o0 o1 o2 o3 o4 o5 o6 o7 B l)[h.length+1]?=some o1:=z9C 1
theorem z60:(FH h o0 o1 o2 o3 o4 o5 o6 o7 B l)[h.length+2]?=some o2:=z9C 2
theorem z8s:(FH h o0 o1 o2 o3 o4 o5 o6 o7 B l)[h.length+3]?=some o3:=z9C 3
theorem z8t:(FH h o0 o1 o2 o3 o4 o5 o6 o7 B l)[h.length+4]?=some o4:=z9C 4
theorem z9A:(FH h o0 o1 o2 o3 o4 o5 o6 o7 B l)[h.length+5]?=some o5:=z9C 5
theorem z9B:(FH h o0 o1 o2 o3 o4 o5 o6 o7 B l)[h.length+6]?=some o6:=z9C 6
theorem z8u:(FH h o0 o1 o2 o3 o4 o5 o6 o7 B l)[h.length+7]?=some o7:=z9C 7
theorem z9D:(FH h o0 o1 o2 o3 o4 o5 o6 o7 B l).set (h.length+1) o=FH h o0 o o2 o3 o4 o5 o6 o7 B l:=z9K 1
theorem z9E:(FH h o0 o1 o2 o3 o4 o5 o6 o7 B l).set (h.length+2) o=FH h o0 o1 o o3 o4 o5 o6 o7 B l:=z9K 2
theorem z9F:(FH h o0 o1 o2 o3 o4 o5 o6 o7 B l).set (h.length+3) o=FH h o0 o1 o2 o o4 o5 o6 o7 B l:=z9K 3
theorem z9G:(FH h o0 o1 o2 o3 o4 o5 o6 o7 B l).set (h.length+4) o=FH h o0 o1 o2 o3 o o5 o6 o7 B l:=z9K 4
theorem z9H:(FH h o0 o1 o2 o3 o4 o5 o6 o7 B l).set (h.length+5) o=FH h o0 o1 o2 o3 o4 o o6 o7 B l:=z9K 5
theorem z9I:(FH h o0 o1 o2 o3 o4 o5 o6 o7 B l).set (h.length+6) o=FH h o0 o1 o2 o3 o4 o5 o o7 B l:=z9K 6
theorem z9J:(FH h o0 o1 o2 o3 o4 o5 o6 o7 B l).set (h.length+7) o=FH h o0 o1 o2 o3 o4 o5 o6 o B l:=z9K 7
theorem zp8 (n:Nat):(FH h o0 o1 o2 o3 o4 o5 o6 o7 B l)[h.length+(8+B.length+n)]?=l[n]?:=by
 rw[z9C,show 8+B.length+n=(B.length+n)+8 by omega]
 show (B++l)[B.length+n]?=_
 rw[List.getElem?_append_right (by omega)]
 simp
theorem ztG (n:Nat):(FH h o0 o1 o2 o3 o4 o5 o6 o7 B l).set (h.length+(8+B.length+n)) o=FH h o0 o1 o2 o3 o4 o5 o6 o7 B (l.set n o):=by
 rw[z9K,show 8+B.length+n=(B.length+n)+8 by omega]
 unfold FH
 congr 1
 simp only[List.set_cons_succ]
 rw[List.set_append_right _ _ (by omega)]
 simp
theorem zig (n:Nat):(FH h o0 o1 o2 o3 o4 o5 o6 o7 B l).take (h.length+(8+B.length+n))=FH h o0 o1 o2 o3 o4 o5 o6 o7 B (l.take n):=by
 unfold FH
 rw[show h.length+(8+B.length+n)=h.length+((B.length+n)+8) by omega,List.take_append,List.take_of_length_le (by omega)]
 congr 1
 simp only[Nat.add_sub_cancel_left,List.take_succ_cons]
 rw[List.take_append,List.take_of_length_le (show B.length≤B.length+n by omega)]
 simp
end
def Ent.bx (x:Ent):Obj:=.box [AS x.site,AI x.no,AI x.time,AI x.kind,AS x.board,AS x.step,AS x.of,AI x.other]
def Sta.bx (s:Sta):Obj:=.box [AI s.state,AI s.since,AS s.step,AS s.site,AI s.failed]
def Sta.pv (s:Sta):PV:=.agg [eI s.state,eI s.since,.str s.step,.str s.site,eI s.failed]
abbrev Brds:=List (Ent × Sta)
def boxB:Brds→Heap
 | []=>[]
 | e::r=>e.1.bx::e.1.bx::e.2.bx::boxB r
theorem z05:∀ bs:Brds,(boxB bs).length=3*bs.length
 | []=>rfl
 | e::r=>by simp [boxB,z05 r];omega
theorem ze8:∀ a b:Brds,boxB (a++b)=boxB a++boxB b
 | [],b=>rfl
 | e::r,b=>by simp [boxB,ze8 r b]
theorem ze9:∀ (bs:Brds) (i:Nat) (e:Ent × Sta),bs[i]?=some e→(boxB bs)[3*i+2]?=some e.2.bx
 | [],i,e,h=>by simp at h
 | y::r,0,e,h=>by simp at h;subst h;rfl
 | y::r,i+1,e,h=>by
  have:=ze9 r i e (by simpa using h)
  rw[show 3*(i+1)+2=(3*i+2)+3 by omega]
  exact this
theorem zeA:∀ (bs:Brds) (i:Nat) (e:Ent × Sta) (s:Sta),bs[i]?=some e→(boxB bs).set (3*i+2) s.bx=boxB (bs.set i (e.1,s))
 | [],i,e,s,h=>by simp at h
 | y::r,0,e,s,h=>by simp at h;subst h;rfl
 | y::r,i+1,e,s,h=>by
  have:=zeA r i e s (by simpa using h)
  rw[show 3*(i+1)+2=(3*i+2)+3 by omega]
  simp only[boxB,List.set_cons_succ,this]
def qB (h:Heap) (i:Nat):Nat:=h.length+(8+(3*i+2))
section
variable {o0 o1 o2 o3 o4 o5 o6 o7:Obj} {l:Heap} {bs:Brds} {i:Nat} {e:Ent × Sta}
theorem FH_gq (hi:bs[i]?=some e):(FH h o0 o1 o2 o3 o4 o5 o6 o7 (boxB bs) l)[qB h i]?=some e.2.bx:=by
 unfold qB
 rw[z9C,show 8+(3*i+2)=(3*i+2)+8 by omega]
 show (boxB bs++l)[3*i+2]?=_
 have hl:i<bs.length:=by
  rcases Nat.lt_or_ge i bs.length with h | h
  ·exact h
  ·rw[List.getElem?_eq_none h] at hi;cases hi
 rw[List.getElem?_append_left (by rw[z05];omega)]
 exact ze9 bs i e hi
theorem FH_sq (hi:bs[i]?=some e) (s:Sta):(FH h o0 o1 o2 o3 o4 o5 o6 o7 (boxB bs) l).set (qB h i) s.bx=FH h o0 o1 o2 o3 o4 o5 o6 o7 (boxB (bs.set i (e.1,s))) l:=by
 unfold qB
 rw[z9K,show 8+(3*i+2)=(3*i+2)+8 by omega]
 unfold FH
 congr 1
 simp only[List.set_cons_succ]
 have hl:i<bs.length:=by
  rcases Nat.lt_or_ge i bs.length with h | h
  ·exact h
  ·rw[List.getElem?_eq_none h] at hi;cases hi
 rw[List.set_append_left _ _ (by rw[z05];omega),zeA bs i e s hi]
end
def refA (q:Nat):AV:=.ref q 0
def mapB:Nat→Brds→List (Nm × Nat)
 | _,[]=>[]
 | q,e::r=>(e.1.board,q+2)::mapB (q+3) r
theorem zcy:∀ (q:Nat) (bs:Brds) (e:Ent × Sta),mapB q (bs++[e])=mapB q bs++[(e.1.board,q+3*bs.length+2)]
 | q,[],e=>by simp [mapB]
 | q,y::r,e=>by
  have:=zcy (q+3) r e
  simp only[List.cons_append,mapB,this,List.length_cons]
  rw[show q+3+3*r.length+2=q+3*(r.length+1)+2 by omega]
theorem z4Z:∀ (q:Nat) (bs:Brds) (i:Nat) (e:Ent × Sta) (s:Sta),bs[i]?=some e→mapB q (bs.set i (e.1,s))=mapB q bs
 | q,[],i,e,s,h=>by simp at h
 | q,y::r,0,e,s,h=>by simp at h;subst h;rfl
 | q,y::r,i+1,e,s,h=>by
  have:=z4Z (q+3) r i e s (by simpa using h)
  simp only[List.set_cons_succ,mapB,this]
def asA (bs:Brds):List (Nm × Sta):=bs.map fun e=>(e.1.board,e.2)
def ixB (k:Nm):Brds→Option Nat
 | []=>none
 | e::r=>if k=e.1.board then some 0 else (ixB k r).map (· + 1)
theorem z4Y (k:Nm):∀ (q:Nat) (bs:Brds),getM k (mapB q bs)=(ixB k bs).map fun i=>q+(3*i+2)
 | q,[]=>rfl
 | q,e::r=>by
  unfold mapB getM ixB
  by_cases h:k=e.1.board
  ·simp [h]
  ·rw[if_neg h,if_neg h,z4Y k (q+3) r]
   cases ixB k r with
   | none=>rfl
   | some i=>simp;omega
theorem zd3 (k:Nm):∀ (bs:Brds),(ixB k bs=none→getA (asA bs) k=none)∧∀ i,ixB k bs=some i→∃ e,bs[i]?=some e∧e.1.board=k∧getA (asA bs) k=some e.2
 | []=>⟨fun _=>rfl,fun i h=>by cases h⟩
 | e::r=>by
  obtain⟨i1,i2⟩:=zd3 k r
  unfold ixB
  by_cases h:k=e.1.board
  ·refine⟨fun z=>by simp [h] at z,fun i hi=>?_⟩
   rw[if_pos h] at hi
   cases hi
   exact⟨e,rfl,h.symm,by unfold asA;rw[List.map_cons,z16,if_pos h.symm]⟩
  ·have hn:¬ e.1.board=k:=fun z=>h z.symm
   rw[if_neg h]
   refine⟨fun z=>?_,fun i hi=>?_⟩
   ·unfold asA
    rw[List.map_cons,z16,if_neg hn]
    exact i1 (by simpa using z)
   ·obtain⟨j,hj,e2⟩:=Option.map_eq_some_iff.1 hi
    obtain⟨y,y1,y2,y3⟩:=i2 j hj
    subst e2
    refine⟨y,by simpa using y1,y2,?_⟩
    unfold asA
    rw[List.map_cons,z16,if_neg hn]
    exact y3
theorem ztN {bs:Brds} {k:Nm} {i:Nat} {e:Ent × Sta} (hi:ixB k bs=some i) (he:bs[i]?=some e) (hu:(bs.map fun e=>e.1.board).Nodup) (s:Sta):asA (bs.set i (e.1,s))=putA (asA bs) k s:=by
 induction bs generalizing i with
 | nil=>cases hi
 | cons y r ih=>
  unfold ixB at hi
  rw[List.map_cons,List.nodup_cons] at hu
  by_cases h:k=y.1.board
  ·rw[if_pos h] at hi
   cases hi
   simp at he
   subst he
   unfold putA asA
   rw[if_pos (by simp [h])]
   simp only[List.set_cons_zero,List.map_cons,h,if_true]
   congr 1
   rw[List.map_map]
   apply List.map_congr_left
   intro z hz
   have:¬ z.1.board=y.1.board:=fun q=>hu.1 (q ▸ List.mem_map_of_mem hz)
   simp [this]
  ·rw[if_neg h] at hi
   obtain⟨j,hj,e2⟩:=Option.map_eq_some_iff.1 hi
   subst e2
   have hn:¬ y.1.board=k:=fun z=>h z.symm
   have he':r[j]?=some e:=by simpa using he
   have q:=ih hj he' hu.2
   simp only[List.set_cons_succ]
   unfold putA asA at q ⊢
   simp only[List.map_cons,List.any_cons,decide_eq_false hn,Bool.false_or,if_neg hn]
   rw[q]
   split
   ·rfl
   ·rfl
theorem ztM {bs:Brds} {k:Nm} (hi:ixB k bs=none) (x:Ent) (hx:x.board=k) (s:Sta):asA (bs++[(x,s)])=putA (asA bs) k s:=by
 have:(asA bs).any (fun e=>decide (e.1=k))=false:=by
  induction bs with
  | nil=>rfl
  | cons y r ih=>
   unfold ixB at hi
   by_cases h:k=y.1.board
   ·rw[if_pos h] at hi;cases hi
   ·rw[if_neg h] at hi
    have hn:¬ y.1.board=k:=fun z=>h z.symm
    have q:=ih (by simpa using hi)
    unfold asA at q ⊢
    rw[List.map_cons,List.any_cons,q]
    simp [hn]
 unfold putA
 rw[if_neg (by simp [this])]
 unfold asA
 simp [hx]
abbrev SMap:=List ((Nm × Nm) × Nat)
def dobj (m:SMap) (c:Nat):Obj:=.amap (m.map fun e=>⟨.str e.1.1,AS e.1.2,e.2⟩) c
def asS (m:SMap):List (Nm × Nm):=m.map (·.1)
def z4u (k:Nm):SMap→Option Nat
 | []=>none
 | e::r=>if k=e.1.1 then some 0 else (z4u k r).map (· + 1)
theorem zap (k:Nm):∀ m:SMap,z1R (.str k) (m.map fun e=>(⟨.str e.1.1,AS e.1.2,e.2⟩:ME))=some (z4u k m)
 | []=>rfl
 | e::r=>by
  have hk:PV.eqv (.str k) (.str e.1.1)=some (decide (k=e.1.1)):=rfl
  simp only[List.map_cons,z1R,hk,z4u]
  by_cases h:k=e.1.1
  ·simp [h]
  ·simp [h,zap k r]
theorem z7A (k:Nm):∀ m:SMap,(z4u k m).bind (fun i=>m[i]?)=m.find? (fun e=>decide (e.1.1=k))
 | []=>rfl
 | e::r=>by
  unfold z4u
  rw[List.find?_cons]
  by_cases h:k=e.1.1
  ·simp [h]
  ·have hn:¬ e.1.1=k:=fun z=>h z.symm
   rw[if_neg h,decide_eq_false hn]
   have:=z7A k r
   cases hf:z4u k r with
   | none=>rw[hf] at this;simpa using this
   | some i=>rw[hf] at this;simpa using this
theorem zaf (k:Nm):∀ (m:SMap) (i:Nat),z4u k m=some i→(m[i]?).isSome=true
 | [],i,h=>by cases h
 | e::r,i,h=>by
  unfold z4u at h
  split at h
  ·cases h;rfl
  ·obtain⟨j,hj,e2⟩:=Option.map_eq_some_iff.1 h
   subst e2
   have:=zaf k r j hj
   simpa using this
theorem look_d {id:Nat} {hp:Heap} {m:SMap} {c:Nat} {k:Nm} (hh:hp[id]?=some (dobj m c)) :
 z1p (none,[2]) true (AS []) (.mp id) (AS k) hp=some (.tup [AS ((getA (asS m) k).getD []),AB (getA (asS m) k).isSome]):=by
 have e1:z2i (none,[2]) (AS k)=some (.str k):=z1N
 have e2:mget hp (.mp id)=some (id,m.map fun e=>(⟨.str e.1.1,AS e.1.2,e.2⟩:ME),c):=by simp only[mget,hh,dobj]
 have e3:getA (asS m) k=(m.find? fun e=>decide (e.1.1=k)).map (fun e=>e.1.2):=by
  unfold getA asS
  rw[List.find?_map]
  cases h:m.find? (fun e=>decide (e.1.1=k)) with
  | none=>rw[show (List.find? ((fun e=>decide (e.1=k)) ∘ fun x=>x.1) m)=m.find? (fun e=>decide (e.1.1=k)) from rfl,h];rfl
  | some x=>rw[show (List.find? ((fun e=>decide (e.1=k)) ∘ fun x=>x.1) m)=m.find? (fun e=>decide (e.1.1=k)) from rfl,h];rfl
 simp only[z1p,e1,e2,Option.map_some,zap]
 have e4:=z7A k m
 rw[e3,← e4]
 cases hf:z4u k m with
 | none=>rfl
 | some i=>
  simp only[Option.bind_some,List.getElem?_map]
  have hs:(m[i]?).isSome=true:=zaf k m i hf
  obtain⟨y,hy⟩:=Option.isSome_iff_exists.1 hs
  rw[hy]
  rfl
end Go.Am
end
section
/- A text split at a byte. -/
set_option linter.all false
namespace Go.Am
end Go.Am
end
section
/- A text read line by line. -/
set_option linter.all false
namespace Go.Am
end Go.Am
end
section
/- Numbers in texts. -/
set_option linter.all false
namespace Go.Am
end Go.Am
end
section
/- Faults of nets: what the words mean,in plain Lean. -/
set_option linter.all false
namespace Go.Am
structure Flt where
 kind:Int
 nets:List Int
 deriving DecidableEq
end Go.Am
end
section
/- Faults read: the program's line and the reference's line agree. -/
set_option linter.all false
namespace Go.Am
end Go.Am
end
section
/- What is written is read: numbers,words,lines. -/
set_option linter.all false
namespace Go.Am
end Go.Am
end
section
/- Entries asv texts,plainly: written,read both ways. -/
set_option linter.all false
namespace Go.Am
def ent0:Ent:=⟨[],0,0,0,[],[],[],0⟩
end Go.Am
end
section
/- Records: what is wrong with them,both ways. -/
open Go
set_option linter.unusedSimpArgs false
namespace Go.Am
variable {h:Heap} {K:Post}
def orL:List Int→Int
 | []=>0
 | x::r=>if x≠0 then x else orL r
theorem zvv (l:List Int) (hl:l.length≤1000):z0d X z6n [AL l] h K=K (AI (orL l)) h []:=by
 refine rule ?_
 rw[c_q00v rfl]
 simp only[zeL,go_sem]
 refine z0U (fun k:Nat=>⟨[(3,AI 0),(6,AL l),(7,AI l.length),(8,AI k)],h,[]⟩) (fun k=>k≤l.length∧orL (l.drop k)=orL l) (fun k=>l.length-k) 0 rfl ⟨by omega,rfl⟩ ?_
 rintro k ⟨hk,hp⟩
 rcases Nat.lt_or_ge k l.length with hlt | hge
 ·have g2:=z0X eI hlt
  have w2:IntKind.i64.wrap ((k:Int)+1)=((k+1:Nat):Int):=z0k _ (by omega) (by omega)
  rw[List.drop_eq_getElem_cons hlt,orL] at hp
  by_cases hz:l[k]=0
  ·rw[if_neg (by simp [hz])] at hp
   simp only[go_sem,hlt,g2,hz,w2]
   exact⟨k+1,rfl,⟨by omega,hp⟩,by omega⟩
  ·rw[if_pos hz] at hp
   simp only[go_sem,hlt,g2,hz]
   rw[hp]
 ·have ek:k=l.length:=by omega
  subst ek
  rw[List.drop_length] at hp
  simp only[go_sem,Nat.lt_irrefl]
  rw[← hp];rfl
end Go.Am
end
section
/- Entries of stations: compared. -/
open Go
set_option linter.all false
set_option maxRecDepth 100000
namespace Go.Am
variable {h:Heap} {K:Post}
abbrev z19 (l:List Ent):AV:=.p (.sl (some 8) (l.map Ent.pv))
theorem zfi {l:List Ent}:shps (some 8) (l.map Ent.pv):=fun x hx=>by obtain⟨n,_,rfl⟩:=List.mem_map.1 hx;rfl
theorem z3v {x:Ent}:cutP (some 8) 0 x.pv=some x.pv:=rfl
structure EntOk (x:Ent):Prop where
 s:x.site.length≤1000000
 b:x.board.length≤1000000
 p:x.step.length≤1000000
 o:x.of.length≤1000000
structure EntB (x:Ent):Prop where
 n:1≤x.no∧x.no≤1000000
 t:0≤x.time∧x.time≤345686399999
theorem zfh {x:Ent} (h:entF x=0):EntB x:=by
 unfold entF at h
 split at h
 ·cases h
 split at h
 ·cases h
 rename_i h2
 rw[not_or] at h2
 have a:noB x.no=true:=by simpa using h2.1
 have b:z1D x.time=true:=by simpa using h2.2
 unfold noB inB at a
 unfold z1D inB at b
 simp at a b
 exact⟨a,b⟩
theorem zoO (a b:Ent):z0d X z7z [.p a.pv,.p b.pv] h K=K (AI (z0W a b)) h []:=by
 refine rule ?_
 rw[c_q082 rfl]
 have o:=fun h K=>zvv (h:=h) (K:=K) [cmp3 a.time b.time,cmpL a.site b.site,cmp3 a.no b.no] (by simp)
 simp only[AL,List.map_cons,List.map_nil] at o
 have e:orL [cmp3 a.time b.time,cmpL a.site b.site,cmp3 a.no b.no]=z0W a b:=by
  unfold z0W
  simp only[orL]
  split
  ·rfl
  ·split
   ·rfl
   ·split
    ·rfl
    ·rename_i h;simp only[ne_eq,Decidable.not_not] at h;rw[h]
 rw[e] at o
 simp only[zjY,Ent.pv,go_sem,zcI,z3H,o]
theorem zcD (a b:Ent) (ha:EntB a) (hb:EntB b):z0d X z4i [.p a.pv,.p b.pv] h K=K (AI (z0W a b)) h []:=by
 refine rule ?_
 rw[zsx rfl]
 have a1:=ha.t
 have a2:=hb.t
 have a3:=ha.n
 have a4:=hb.n
 have w:IntKind.i64.wrap (a.time-b.time)=a.time-b.time:=z0k _ (by omega) (by omega)
 have w2:IntKind.i64.wrap (a.no-b.no)=a.no-b.no:=z0k _ (by omega) (by omega)
 unfold z0W
 by_cases he:a.time=b.time
 ·have:cmp3 a.time b.time=0:=by rw[he];unfold cmp3;simp
  rw[if_neg (by simp [this])]
  by_cases hs:a.site=b.site
  ·have hc:cmpL a.site b.site=0:=by rw[hs];exact z4C _
   rw[if_neg (by simp [hc]),z4B]
   simp only[z6i,Ent.pv,go_sem,he,hs,w2,zfU]
  ·have hc:cmpL a.site b.site≠0:=fun e=>hs (z5M e)
   rw[if_pos hc]
   simp only[z6i,Ent.pv,go_sem,he,hs,z3H]
 ·have hc:cmp3 a.time b.time≠0:=by unfold cmp3;split <;> (try split) <;> omega
  rw[if_pos hc]
  rw[z4B]
  simp only[z6i,Ent.pv,go_sem,he,w,zfU]
theorem zdG (a b:Ent):z0d X z8W [.p a.pv,.p b.pv] h K=K (AB (z2X a b)) h []:=by
 refine rule ?_
 rw[c_q056 rfl]
 unfold z2X
 by_cases h1:a.site=b.site
 ·simp only[zeS,Ent.pv,go_sem,h1]
 ·simp only[zeS,Ent.pv,go_sem,h1]
end Go.Am
end
section
/- What is wrong with an entry: the reference. -/
open Go
set_option linter.all false
set_option maxRecDepth 100000
namespace Go.Am
variable {h:Heap} {K:Post}
attribute [-go_sem] oEqa
theorem eqa8 (ks:List Nat) (hk:ks=[2,0,0,0,2,2,2,0]) (neg:Bool) (c d:Ent):oEqa ks neg (.p c.pv) (.p d.pv)=some (AB (bif neg then !decide (c=d) else decide (c=d))):=by
 subst hk
 obtain⟨a1,a2,a3,a4,a5,a6,a7,a8⟩:=c
 obtain⟨b1,b2,b3,b4,b5,b6,b7,b8⟩:=d
 have e:decide ((⟨a1,a2,a3,a4,a5,a6,a7,a8⟩:Ent)=⟨b1,b2,b3,b4,b5,b6,b7,b8⟩)=(decide (a1=b1)&&(decide (a2=b2)&&(decide (a3=b3)&&(decide (a4=b4)&&(decide (a5=b5)&&(decide (a6=b6)&&(decide (a7=b7)&&(decide (a8=b8)&&true)))))))):=by
  rw[Bool.eq_iff_iff];simp [Ent.mk.injEq]
 rw[e]
 rfl
theorem eqa8n (c d:Ent):oEqa [2,0,0,0,2,2,2,0] true (.p c.pv) (.p d.pv)=some (AB (!decide (c=d))):=eqa8 _ rfl true c d
def Ent.box (x:Ent):Obj:=.box [AS x.site,AI x.no,AI x.time,AI x.kind,AS x.board,AS x.step,AS x.of,AI x.other]
def refE (x u:Ent) (nm:Bool):Int:=if keyB x.site=false then 5 else if noB x.no=false∨z1D x.time=false then 1 else if inB 1 x.kind 7=false then 4
 else if nm=false then 5 else if x.kind=7∧noB x.other=false then 1 else if x≠u then 3 else 0
theorem refE_F (x:Ent):refE x (zrM x) (z9k x)=entF x:=rfl
theorem ent_k1 (x u:Ent) (nm:Bool) (hs:x.site.length≤1000000) (K':Ex→St→Prop) :
 z0O (z0d X) X.gl (.ref h.length 0) (.ref (h.length+1) 0) (AB nm) (h++[x.box,u.box]) [] K'=K' .ret ⟨[(2,AI (refE x u nm))],h++[x.box,u.box],[]⟩:=by
 have k1:=fun h K=>z6C (h:=h) (K:=K) x.site (by omega)
 have hq:=eqa8n x u
 unfold refE noB
 unfold Ent.box
 simp only[Ent.pv] at hq
 cases h1:keyB x.site with
 | false=>simp only[z0O,go_sem,or_false,false_or,true_or,or_true,true_and,and_true,false_and,and_false,not_true_eq_false,not_false_eq_true,↓k1,k1,h1]
 | true=>
  cases h2:inB 1 x.no 1000000 with
  | false=>simp only[z0O,go_sem,or_false,false_or,true_or,or_true,true_and,and_true,false_and,and_false,not_true_eq_false,not_false_eq_true,↓k1,k1,z81,h1,h2]
  | true=>
   cases h3:z1D x.time with
   | false=>simp only[z0O,go_sem,or_false,false_or,true_or,or_true,true_and,and_true,false_and,and_false,not_true_eq_false,not_false_eq_true,↓k1,k1,z81,z1l,h1,h2,h3]
   | true=>
    cases h4:inB 1 x.kind 7 with
    | false=>simp only[z0O,go_sem,or_false,false_or,true_or,or_true,true_and,and_true,false_and,and_false,not_true_eq_false,not_false_eq_true,↓k1,k1,z81,z1l,h1,h2,h3,h4]
    | true=>
     cases nm with
     | false=>simp only[z0O,go_sem,or_false,false_or,true_or,or_true,true_and,and_true,false_and,and_false,not_true_eq_false,not_false_eq_true,↓k1,k1,z81,z1l,h1,h2,h3,h4]
     | true=>
      by_cases h7:x.kind=7
      ·cases h6:inB 1 x.other 1000000 with
       | false=>simp only[z0O,go_sem,or_false,false_or,true_or,or_true,true_and,and_true,false_and,and_false,not_true_eq_false,not_false_eq_true,↓k1,k1,z81,z1l,h1,h2,h3,h4,eq_true h7,h6]
       | true=>
        by_cases e:x=u
        ·rw[decide_eq_true e] at hq
         simp only[z0O,go_sem,or_false,false_or,true_or,or_true,true_and,and_true,false_and,and_false,not_true_eq_false,not_false_eq_true,↓k1,k1,z81,z1l,h1,h2,h3,h4,eq_true h7,h6,hq,eq_true e]
        ·rw[decide_eq_false e] at hq
         simp only[z0O,go_sem,or_false,false_or,true_or,or_true,true_and,and_true,false_and,and_false,not_true_eq_false,not_false_eq_true,↓k1,k1,z81,z1l,h1,h2,h3,h4,eq_true h7,h6,hq,e]
      ·by_cases e:x=u
       ·rw[decide_eq_true e] at hq
        simp only[z0O,go_sem,or_false,false_or,true_or,or_true,true_and,and_true,false_and,and_false,not_true_eq_false,not_false_eq_true,↓k1,k1,z81,z1l,h1,h2,h3,h4,h7,hq,eq_true e]
       ·rw[decide_eq_false e] at hq
        simp only[z0O,go_sem,or_false,false_or,true_or,or_true,true_and,and_true,false_and,and_false,not_true_eq_false,not_false_eq_true,↓k1,k1,z81,z1l,h1,h2,h3,h4,h7,hq,e]
attribute [-go_sem] z0O
theorem zcC (x:Ent) (hx:EntOk x):z0d X z8U [.p x.pv] h K=K (AI (entF x)) h []:=by
 refine rule ?_
 rw[c_q03z rfl]
 have k2:=fun h K=>z6C (h:=h) (K:=K) x.board (by have:=hx.b;omega)
 have k3:=fun h K=>z6C (h:=h) (K:=K) x.step (by have:=hx.p;omega)
 have k4:=fun h K=>z6C (h:=h) (K:=K) x.of (by have:=hx.o;omega)
 rw[← refE_F]
 have hs:x.site.length≤1000000:=hx.s
 have Q:=fun u nm K'=>ent_k1 (h:=h) x u nm hs K'
 unfold Ent.box at Q
 unfold zrM z9k
 by_cases h7:x.kind=7
 ·have q:=Q ⟨x.site,x.no,x.time,x.kind,[],[],x.of,x.other⟩ (keyB x.of)
  dsimp only at q
  simp only[z6h,Ent.pv,go_sem,↓k4,k4,h7] at q ⊢
  simp only[z6h,Ent.pv,go_sem,↓k4,k4,q,h7]
 ·by_cases h2:x.kind=2
  ·cases hb:keyB x.board with
   | false=>
    have q:=Q ⟨x.site,x.no,x.time,x.kind,x.board,x.step,[],0⟩ false
    simp only[z6h,Ent.pv,go_sem,↓k2,k2,↓k3,k3,h7,eq_true h2,hb,q]
   | true=>
    have q:=Q ⟨x.site,x.no,x.time,x.kind,x.board,x.step,[],0⟩ (keyB x.step)
    simp only[z6h,Ent.pv,go_sem,↓k2,k2,↓k3,k3,h7,eq_true h2,hb,q]
  ·have q:=Q ⟨x.site,x.no,x.time,x.kind,x.board,[],[],0⟩ (keyB x.board)
   simp only[z6h,Ent.pv,go_sem,↓k2,k2,↓k3,k3,h7,h2,q]
end Go.Am
end
section
/- What is wrong with an entry: the program. Printed by gen_ent.py. -/
open Go
set_option linter.all false
set_option maxRecDepth 100000
namespace Go.Am
variable {h:Heap} {K:Post}
set_option maxHeartbeats 4000000 in
theorem zcJ (x:Ent) (hx:EntOk x):z0d X z71 [.p x.pv] h K=K (AI (entF x)) h []:=by
 refine rule ?_
 rw[c_q084 rfl]
 have k1:=fun h K=>zhk (h:=h) (K:=K) x.site (by have:=hx.s;omega)
 have k2:=fun h K=>zhk (h:=h) (K:=K) x.board (by have:=hx.b;omega)
 have k3:=fun h K=>zhk (h:=h) (K:=K) x.step (by have:=hx.p;omega)
 have k4:=fun h K=>zhk (h:=h) (K:=K) x.of (by have:=hx.o;omega)
 obtain⟨site,no,time,kind,board,step,of,other⟩:=x
 dsimp only at k1 k2 k3 k4
 unfold entF z9k zrM noB
 dsimp only
 cases h1:keyB site with
 | false=>
  simp only[Ent.pv,go_sem,Ent.mk.injEq,or_false,false_or,true_or,or_true,true_and,and_true,and_self,false_and,and_false,not_true_eq_false,not_false_eq_true,Bool.not_true,Bool.not_false,z4H,↓k1,k1,z1T,z1Z,h1]
 | true=>
  cases h2:inB 1 no 1000000 with
  | false=>
   simp only[Ent.pv,go_sem,Ent.mk.injEq,or_false,false_or,true_or,or_true,true_and,and_true,and_self,false_and,and_false,not_true_eq_false,not_false_eq_true,Bool.not_true,Bool.not_false,z4H,↓k1,k1,z1T,z1Z,h1,h2]
  | true=>
   cases h3:z1D time with
   | false=>
    simp only[Ent.pv,go_sem,Ent.mk.injEq,or_false,false_or,true_or,or_true,true_and,and_true,and_self,false_and,and_false,not_true_eq_false,not_false_eq_true,Bool.not_true,Bool.not_false,z4H,↓k1,k1,z1T,z1Z,h1,h2,h3]
   | true=>
    cases h4:inB 1 kind 7 with
    | false=>
     simp only[Ent.pv,go_sem,Ent.mk.injEq,or_false,false_or,true_or,or_true,true_and,and_true,and_self,false_and,and_false,not_true_eq_false,not_false_eq_true,Bool.not_true,Bool.not_false,z4H,↓k1,k1,z1T,z1Z,h1,h2,h3,h4]
    | true=>
     by_cases h7:kind=7
     ·have h72:¬ kind=2:=by omega
      simp only[Ent.pv,go_sem,Ent.mk.injEq,or_false,false_or,true_or,or_true,true_and,and_true,and_self,false_and,and_false,not_true_eq_false,not_false_eq_true,Bool.not_true,Bool.not_false,z4H,↓k1,k1,z1T,z1Z,h1,h2,h3,h4,eq_true h7,h72]
      cases h5:keyB of with
      | false=>
       simp only[Ent.pv,go_sem,Ent.mk.injEq,or_false,false_or,true_or,or_true,true_and,and_true,and_self,false_and,and_false,not_true_eq_false,not_false_eq_true,Bool.not_true,Bool.not_false,↓k4,k4,h5,eq_true h7,h72]
      | true=>
       cases h6:inB 1 other 1000000 with
       | false=>
        simp only[Ent.pv,go_sem,Ent.mk.injEq,or_false,false_or,true_or,or_true,true_and,and_true,and_self,false_and,and_false,not_true_eq_false,not_false_eq_true,Bool.not_true,Bool.not_false,↓k4,k4,z1T,h5,h6,eq_true h7,h72]
       | true=>
        by_cases e1:board=[]
        ·by_cases e2:step=[]
         ·simp only[Ent.pv,go_sem,Ent.mk.injEq,or_false,false_or,true_or,or_true,true_and,and_true,and_self,false_and,and_false,not_true_eq_false,not_false_eq_true,Bool.not_true,Bool.not_false,↓k4,k4,z1T,h5,h6,eq_true e1,eq_true e2,eq_true h7,h72]
         ·simp only[Ent.pv,go_sem,Ent.mk.injEq,or_false,false_or,true_or,or_true,true_and,and_true,and_self,false_and,and_false,not_true_eq_false,not_false_eq_true,Bool.not_true,Bool.not_false,↓k4,k4,z1T,h5,h6,eq_true e1,e2,eq_true h7,h72]
        ·simp only[Ent.pv,go_sem,Ent.mk.injEq,or_false,false_or,true_or,or_true,true_and,and_true,and_self,false_and,and_false,not_true_eq_false,not_false_eq_true,Bool.not_true,Bool.not_false,↓k4,k4,z1T,h5,h6,e1,eq_true h7,h72]
     ·by_cases h2k:kind=2
      ·simp only[Ent.pv,go_sem,Ent.mk.injEq,or_false,false_or,true_or,or_true,true_and,and_true,and_self,false_and,and_false,not_true_eq_false,not_false_eq_true,Bool.not_true,Bool.not_false,z4H,↓k1,k1,z1T,z1Z,h1,h2,h3,h4,h7,eq_true h2k]
       cases h5:keyB board with
       | false=>
        simp only[Ent.pv,go_sem,Ent.mk.injEq,or_false,false_or,true_or,or_true,true_and,and_true,and_self,false_and,and_false,not_true_eq_false,not_false_eq_true,Bool.not_true,Bool.not_false,↓k2,k2,h5,h7,eq_true h2k]
       | true=>
        simp only[Ent.pv,go_sem,Ent.mk.injEq,or_false,false_or,true_or,or_true,true_and,and_true,and_self,false_and,and_false,not_true_eq_false,not_false_eq_true,Bool.not_true,Bool.not_false,↓k2,k2,h5,h7,eq_true h2k]
        cases h6:keyB step with
        | false=>
         simp only[Ent.pv,go_sem,Ent.mk.injEq,or_false,false_or,true_or,or_true,true_and,and_true,and_self,false_and,and_false,not_true_eq_false,not_false_eq_true,Bool.not_true,Bool.not_false,↓k3,k3,h6,h7,eq_true h2k]
        | true=>
         by_cases e1:of=[]
         ·by_cases e2:other=0
          ·simp only[Ent.pv,go_sem,Ent.mk.injEq,or_false,false_or,true_or,or_true,true_and,and_true,and_self,false_and,and_false,not_true_eq_false,not_false_eq_true,Bool.not_true,Bool.not_false,↓k3,k3,h6,eq_true e1,eq_true e2,h7,eq_true h2k]
          ·simp only[Ent.pv,go_sem,Ent.mk.injEq,or_false,false_or,true_or,or_true,true_and,and_true,and_self,false_and,and_false,not_true_eq_false,not_false_eq_true,Bool.not_true,Bool.not_false,↓k3,k3,h6,eq_true e1,e2,h7,eq_true h2k]
         ·simp only[Ent.pv,go_sem,Ent.mk.injEq,or_false,false_or,true_or,or_true,true_and,and_true,and_self,false_and,and_false,not_true_eq_false,not_false_eq_true,Bool.not_true,Bool.not_false,↓k3,k3,h6,e1,h7,eq_true h2k]
      ·simp only[Ent.pv,go_sem,Ent.mk.injEq,or_false,false_or,true_or,or_true,true_and,and_true,and_self,false_and,and_false,not_true_eq_false,not_false_eq_true,Bool.not_true,Bool.not_false,z4H,↓k1,k1,z1T,z1Z,h1,h2,h3,h4,h7,h2k]
       cases h5:keyB board with
       | false=>
        simp only[Ent.pv,go_sem,Ent.mk.injEq,or_false,false_or,true_or,or_true,true_and,and_true,and_self,false_and,and_false,not_true_eq_false,not_false_eq_true,Bool.not_true,Bool.not_false,↓k2,k2,h5,h7,h2k]
       | true=>
        by_cases e0:step=[]
        ·by_cases e1:of=[]
         ·by_cases e2:other=0
          ·simp only[Ent.pv,go_sem,Ent.mk.injEq,or_false,false_or,true_or,or_true,true_and,and_true,and_self,false_and,and_false,not_true_eq_false,not_false_eq_true,Bool.not_true,Bool.not_false,↓k2,k2,h5,eq_true e0,eq_true e1,eq_true e2,h7,h2k]
          ·simp only[Ent.pv,go_sem,Ent.mk.injEq,or_false,false_or,true_or,or_true,true_and,and_true,and_self,false_and,and_false,not_true_eq_false,not_false_eq_true,Bool.not_true,Bool.not_false,↓k2,k2,h5,eq_true e0,eq_true e1,e2,h7,h2k]
         ·simp only[Ent.pv,go_sem,Ent.mk.injEq,or_false,false_or,true_or,or_true,true_and,and_true,and_self,false_and,and_false,not_true_eq_false,not_false_eq_true,Bool.not_true,Bool.not_false,↓k2,k2,h5,eq_true e0,e1,h7,h2k]
        ·simp only[Ent.pv,go_sem,Ent.mk.injEq,or_false,false_or,true_or,or_true,true_and,and_true,and_self,false_and,and_false,not_true_eq_false,not_false_eq_true,Bool.not_true,Bool.not_false,↓k2,k2,h5,e0,h7,h2k]
end Go.Am
end
section
/- Lists of entries: what is wrong with them,the program. -/
open Go
set_option linter.all false
set_option maxRecDepth 100000
namespace Go.Am
variable {h:Heap} {K:Post}
def srcP (s:List UInt8 × Int):PV:=.agg [.str s.1,.int .i64 s.2]
def z3s (b:Bool):AV:=.p (.bool b)
theorem z69:KeyI srcP:=fun a b=>by
 obtain⟨a1,a2⟩:=a
 obtain⟨b1,b2⟩:=b
 have e:decide ((a1,a2)=(b1,b2))=(decide (a1=b1)&&(decide (a2=b2)&&true)):=by rw[Bool.eq_iff_iff];simp
 rw[e]
 rfl
theorem z4X {s:List UInt8 × Int}:z2i (some 2,[2,0]) (.p (srcP s))=some (srcP s):=by simp [srcP,z2i,PV.key,PV.shp,PV.sc,PV.cells,PV.kind]
def z65 (l:List Ent):List ((List UInt8 × Int) × Bool):=l.map fun x=>((x.site,x.no),true)
theorem z7B (x:Ent):∀ l:List Ent,getM (x.site,x.no) (z65 l)=if l.any (fun o=>z2X o x) then some true else none
 | []=>rfl
 | y::l=>by
  have ih:=z7B x l
  unfold z65 at ih ⊢
  rw[List.map_cons]
  unfold getM
  rw[ih,List.any_cons]
  have e:((x.site,x.no)=(y.site,y.no))↔z2X y x=true:=by
   unfold z2X
   simp only[Prod.mk.injEq,Bool.and_eq_true,decide_eq_true_eq]
   exact⟨fun h=>⟨h.1.symm,h.2.symm⟩,fun h=>⟨h.1.symm,h.2.symm⟩⟩
  by_cases hc:z2X y x=true
  ·rw[if_pos (e.2 hc),hc];rfl
  ·have hf:z2X y x=false:=by simpa using hc
   rw[if_neg (fun z=>hc (e.1 z)),hf,Bool.false_or]
theorem zpr (l:List Ent) (x:Ent) (h:l.any (fun o=>z2X o x)=false):updM (x.site,x.no) true (z65 l)=z65 (l++[x]):=by
 have:z1n (x.site,x.no) (z65 l)=none:=by
  have e:=z6x (k:=(x.site,x.no)) (l:=z65 l)
  rw[z7B,h] at e
  simpa using e
 rw[z6D this]
 unfold z65
 simp
attribute [-go_sem] z1p z17
theorem zv0 (l:List Ent) (hn:l.length≤1000000):z0d X z76 [z19 l] h K=K (AB (z2m [] l)) h []:=by
 refine rule ?_
 rw[c_q08k rfl]
 simp only[zfc,go_sem]
 refine z0U (fun k:Nat=>⟨[(3,.mp h.length),(8,z19 l),(9,AI l.length),(10,AI k)],h++[mobj srcP z3s (z65 (l.take k))],[]⟩) (fun k=>k≤l.length∧z2m (l.take k) (l.drop k)=z2m [] l) (fun k=>l.length-k) 0 rfl ⟨by omega,rfl⟩ ?_
 rintro k ⟨hkl,hp⟩
 rcases Nat.lt_or_ge k l.length with hlt | hge
 ·have hg:=z0X Ent.pv hlt
  have w2:IntKind.i64.wrap ((k:Int)+1)=((k+1:Nat):Int):=z0k _ (by omega) (by omega)
  have cx:=z3v (x:=l[k])
  rw[List.drop_eq_getElem_cons hlt,z2m,← List.take_succ_eq_append_getElem hlt] at hp
  have ek:l.take (k+1)=l.take k++[l[k]]:=List.take_succ_eq_append_getElem hlt
  generalize hx:l[k]=x at *
  generalize l.take k=S at *
  have lk:=fun (hp:Heap) (e:hp[h.length]?=some (mobj srcP z3s (z65 S)))=>z3g (kk:=(some 2,[2,0])) (k:=(x.site,x.no)) z69 e z4X (ok:=false) (z:=z3s false)
  have up:=fun (hp:Heap) (e:hp[h.length]?=some (mobj srcP z3s (z65 S)))=>z5a (kk:=(some 2,[2,0])) (k:=(x.site,x.no)) z69 e z4X (v:=true) rfl
  have l1:=fun t=>lk (h++mobj srcP z3s (z65 S)::t) (by simp)
  have u1:=fun t=>up (h++mobj srcP z3s (z65 S)::t) (by simp)
  rw[z7B] at l1
  simp only[z3s,srcP,cond_false,z1X,AV.top] at l1 u1
  cases hc:S.any (fun o=>z2X o x) with
  | true=>
   rw[hc,if_pos rfl] at hp
   rw[hc] at l1
   simp only[if_true,Option.map_some,Option.getD_some,z3s] at l1
   simp only[go_sem,hlt,hg,cx,Ent.pv,splice,l1]
   rw[← hp]
  | false=>
   rw[hc,if_neg (by simp)] at hp
   rw[hc] at l1
   have us:=zpr S x hc
   simp only[Bool.false_eq_true,if_false,Option.map_none,Option.getD_none] at l1
   have nl0:¬ h.length<0:=by omega
   simp only[nl0,if_false] at u1
   rw[us] at u1
   simp only[go_sem,hlt,hg,cx,Ent.pv,splice,l1,u1,w2]
   refine⟨k+1,?_,⟨by omega,?_⟩,by omega⟩
   ·rw[ek]
   ·rw[ek];rw[← ek];exact hp
 ·have ek:k=l.length:=by omega
  subst ek
  rw[List.drop_length] at hp
  simp only[go_sem,Nat.lt_irrefl]
  rw[← hp];rfl
theorem z4J {p:Option Ent} {x:Ent} {r:List Ent}:z0A p (x::r)=if entF x≠0 then entF x else if (match p with | some q=>decide (z0W x q≤0) | none=>false)=true then 7 else z0A (some x) r:=rfl
theorem z4o (r:List Ent) (hr:∀ x∈r,EntOk x) (hn:r.length≤1000000):z0d X z4R [z19 r] h K=K (AI (z2y r)) h []:=by
 refine rule ?_
 rw[c_q07r rfl]
 have tw:=fun h K=>zv0 (h:=h) (K:=K) r hn
 unfold z2y
 by_cases h1:(2000:Int)<r.length
 ·simp only[zbE,go_sem,h1]
 simp only[zbE,go_sem,h1]
 refine z0U (fun k:Nat=>⟨[(0,z19 r),(9,z19 r),(10,AI r.length),(11,AI k)],h,[]⟩) (fun k=>k≤r.length∧z0A (r.take k).getLast? (r.drop k)=z0A none r) (fun k=>r.length-k) 0 rfl ⟨by omega,rfl⟩ ?_
 rintro k ⟨hkl,hp⟩
 rcases Nat.lt_or_ge k r.length with hlt | hge
 ·have hg:=z0X Ent.pv hlt
  have w2:IntKind.i64.wrap ((k:Int)+1)=((k+1:Nat):Int):=z0k _ (by omega) (by omega)
  have hx:=hr _ (List.getElem_mem hlt)
  have hlast:(r.take (k+1)).getLast?=some r[k]:=by rw[List.take_succ_eq_append_getElem hlt];exact List.getLast?_concat
  rw[List.drop_eq_getElem_cons hlt,z4J] at hp
  have cx:=z3v (x:=r[k])
  have rf:=fun h K=>zcJ (h:=h) (K:=K) r[k] hx
  simp only[Ent.pv] at rf
  by_cases h2:entF r[k]=0
  ·rw[if_neg (by simp [h2])] at hp
   cases k with
   | zero=>
    simp only[List.take_zero,List.getLast?_nil,reduceCtorEq,if_false] at hp
    have hlt0:(0:Int)<r.length:=by omega
    simp only[go_sem,hlt0,hg,cx,Ent.pv,rf,h2,Int.lt_irrefl,splice,show IntKind.i64.wrap 1=1 from rfl]
    exact⟨0+1,rfl,⟨by omega,by rw[hlast];exact hp⟩,by omega⟩
   | succ j=>
    have hj:j<r.length:=by omega
    have hgj:=z0X Ent.pv hj
    have cj:=z3v (x:=r[j])
    have hlj:(r.take (j+1)).getLast?=some r[j]:=by rw[List.take_succ_eq_append_getElem hj];exact List.getLast?_concat
    have w3:IntKind.i64.wrap (((j+1:Nat):Int)-1)=(j:Int):=by rw[z0k _ (by omega) (by omega)];omega
    have p1:(0:Int)<((j+1:Nat):Int):=by omega
    have bt:=fun h K=>zoO (h:=h) (K:=K) r[j+1] r[j]
    simp only[Ent.pv] at bt
    rw[hlj] at hp
    by_cases h3:z0W r[j+1] r[j]≤0
    ·simp only[h3,decide_true,if_true] at hp
     simp only[go_sem,hlt,hj,hg,hgj,cx,cj,Ent.pv,rf,h2,p1,w3,bt,h3,splice]
     rw[← hp]
     rfl
    ·simp only[h3,decide_false,reduceCtorEq,if_false] at hp
     simp only[go_sem,hlt,hj,hg,hgj,cx,cj,Ent.pv,rf,h2,p1,w3,bt,h3,w2,splice]
     exact⟨j+1+1,rfl,⟨by omega,by rw[hlast];exact hp⟩,by omega⟩
  ·rw[if_pos h2] at hp
   simp only[go_sem,hlt,hg,cx,Ent.pv,rf,h2,splice]
   rw[← hp,if_pos h2]
 ·have ek:k=r.length:=by omega
  subst ek
  rw[List.drop_length] at hp
  have hz:z0A none r=0:=by rw[← hp];cases (r.take r.length).getLast? <;> rfl
  rw[if_neg (by simp [hz])]
  cases ht:z2m [] r with
  | true=>
   rw[ht] at tw
   simp only[go_sem,Nat.lt_irrefl,tw]
   first | done | rfl
  | false=>
   rw[ht] at tw
   simp only[go_sem,Nat.lt_irrefl,tw]
   first | done | rfl
end Go.Am
end
section
/- Lists of entries: sorted,looked through: printed by program. -/
open Go
set_option linter.unusedSimpArgs false
namespace Go.Am
attribute [-go_sem] PV.cells splice
variable {h:Heap} {K:Post}
theorem z61 (id n:Nat) (l tl:List PV) (hn:n=l.length+tl.length) (hs:shps (some 8) l) (hl:l.length≤1000) (hh:h[id]?=some (.row (some 8) (l++tl) 0)) {g:Nat} {caps:List AV} {c:PV→PV→Int} (hc:Cmps g caps c l id h) :
 z0d X z6s [.own id n 0 l.length,AI 0,AI l.length,.fn g caps] h K=K (.tup []) (h.set id (.row (some 8) (zcv (ltC c) l++tl) 0)) []:=by
 refine rule ?_
 rw[c_q06g]
 have hid:=z7C hh
 have hst:∀ o,(h.set id o)[id]?=some o:=fun o=>z3Z hid
 simp only[zeW,go_sem,show IntKind.i64.wrap 1=1 from rfl]
 refine z0U (fun i:Nat=>⟨[(0,.own id n 0 l.length),(1,AI 0),(2,AI l.length),(3,.fn g caps),(8,AI i)],h.set id (.row (some 8) ((z4l (ltC c) (l.take i)).reverse++(l.drop i++tl)) 0),[]⟩) (fun i=>1≤i∧(i≤l.length∨i=1)) (fun i=>l.length-i) 1 ?_ (by simp) ?_
 ·have:(z4l (ltC c) (l.take 1)).reverse++(l.drop 1++tl)=l++tl:=by cases l <;> rfl
  rw[this,zga hh];rfl
 rintro i ⟨hi1,hi2⟩
 rcases Nat.lt_or_ge i l.length with hlt | hge
 ·simp only[go_sem,hlt]
  have hxl:l[i]∈l:=List.getElem_mem hlt
  generalize hx:l[i]=x at *
  generalize hR:z4l (ltC c) (l.take i)=R
  have hRl:R.length=i:=by rw[← hR,zgU];simp;omega
  have hRm:∀ z∈R,z∈l:=fun z hz=>List.mem_of_mem_take ((z4v (ltC c) (l.take i)).mem_iff.1 (by rw[hR];exact hz))
  have hdrop:l.drop i=x::l.drop (i+1):=by rw[← hx];exact List.drop_eq_getElem_cons hlt
  have hnext:z4l (ltC c) (l.take (i+1))=insR (ltC c) x R:=by rw[z63 _ _ _ hlt,hR,hx]
  refine z0U (fun t:List PV × List PV=>⟨[(0,.own id n 0 l.length),(1,AI 0),(2,AI l.length),(3,.fn g caps),(8,AI i),(9,AI t.1.length)],h.set id (.row (some 8) (t.1.reverse++x::t.2) 0),[]⟩)
   (fun t=>∃ B,R=B++t.1∧t.2=B.reverse++(l.drop (i+1)++tl)∧∀ b∈B,ltC c x b=true) (fun t=>t.1.length) (R,l.drop (i+1)++tl) (by rw[hdrop,hRl];rfl) ⟨[],rfl,rfl,by simp⟩ ?_
  rintro⟨A,C⟩ ⟨B,q1,q2,q3⟩
  dsimp only at q1 q2 q3
  have hlen:(A.reverse++x::C).length=n:=by
   have:R.length=B.length+A.length:=by rw[q1];simp
   rw[q2];simp;omega
  have hBA:B.length+A.length<l.length:=by
   have:R.length=B.length+A.length:=by rw[q1];simp
   omega
  have hln:l.length≤n:=by omega
  have w1:IntKind.i64.wrap ((i:Int)+1)=((i+1:Nat):Int):=z0k _ (by omega) (by omega)
  cases A with
  | nil=>
   have hd:insR (ltC c) x R=B++[x]:=by rw[q1];exact zf7 (ltC c) x [] B q3 (fun y r h=>by cases h)
   simp only[go_sem,Int.lt_irrefl,w1]
   refine⟨i+1,?_,by omega,by omega⟩
   simp only[hnext,hd,q2,List.reverse_append,List.reverse_nil,List.nil_append,List.reverse_cons,List.append_assoc,List.cons_append]
  | cons y A=>
   have hyl:y∈l:=hRm y (by rw[q1];simp)
   have g1:=zu9 (y::A) C x
   have g2:=zqO A C x y
   have sw:=zqP A C x y
   simp only[List.length_cons] at hBA
   generalize hrow:(y::A).reverse++x::C=row at *
   simp only[List.length_cons] at g1
   have w2:IntKind.i64.wrap (((A.length+1:Nat):Int)-1)=(A.length:Int):=by rw[z0k _ (by omega) (by omega)];omega
   have p1:(0:Int)<((A.length+1:Nat):Int):=by omega
   have b1:A.length+1<l.length:=by omega
   have b2:A.length<l.length:=by omega
   have cx:=zdM (hs x hxl)
   have cy:=zdM (hs y hyl)
   have hcc:=fun o K=>hc o x hxl y hyl K
   by_cases hxy:c x y<0
   ·have g3:(row.set (A.length+1) y)[A.length]?=some y:=by rw[List.getElem?_set_ne (by omega),g2]
    have lx:=zpb (hs x hxl)
    have ly:=zpb (hs y hyl)
    have sx:=zpa (hs x hxl)
    have sy:=zpa (hs y hyl)
    simp only[z0a] at lx ly
    have t1:=fun i xs h1=>zt1 (hs x hxl) (hs y hyl) id i 0 xs h1
    have t2:=fun i xs h1=>zt1 (hs y hyl) (hs x hxl) id i 0 xs h1
    simp only[go_sem,hst,p1,hlen,g1,g2,g3,w2,b1,b2,hln,cx,cy,hcc,hxy,lx,ly,sx,sy,t1,t2,sw]
    refine⟨(A,y::C),rfl,⟨B++[y],by simp [q1],by simp [q2],fun b hb=>?_⟩,by simp⟩
    rw[List.mem_append,List.mem_singleton] at hb
    rcases hb with hb | rfl
    ·exact q3 b hb
    ·simpa [ltC] using hxy
   ·have hd:insR (ltC c) x R=B++x::y::A:=by rw[q1];exact zf7 (ltC c) x (y::A) B q3 (fun z r h=>by cases h;simpa [ltC] using hxy)
    simp only[go_sem,hst,p1,hlen,g1,g2,w2,b1,b2,hln,cx,cy,hcc,hxy,w1]
    refine⟨i+1,?_,by omega,by omega⟩
    simp only[hnext,hd,← hrow,q2,List.reverse_append,List.reverse_cons,List.append_assoc,List.cons_append,List.nil_append]
 ·have hge':¬ i<l.length:=by omega
  have e1:l.take i=l:=List.take_of_length_le hge
  have e2:l.drop i=[]:=List.drop_of_length_le hge
  simp only[go_sem,hge',e1,e2]
  rfl
theorem z66 (id:Nat) (l:List PV) (hs:shps (some 8) l) (hl:l.length≤19) (hh:h[id]?=some (.row (some 8) l 0)) {g:Nat} {caps:List AV} {c:PV→PV→Int} (hc:Cmps g caps c l id h) :
 z0d X z8Z [.own id l.length 0 l.length,.fn g caps] h K=K (.tup []) (h.set id (.row (some 8) (zcv (ltC c) l) 0)) []:=by
 refine rule ?_
 rw[c_q062]
 have key:∀ K:Post,z0d X z9a [.own id l.length 0 l.length,AI l.length,.fn g caps] h K=K (.tup []) (h.set id (.row (some 8) (zcv (ltC c) l) 0)) []:=by
  intro K
  refine rule ?_
  rw[c_q07g]
  have is:=fun K=>z61 (h:=h) (K:=K) id l.length l [] rfl hs (by omega) (by rw[List.append_nil];exact hh) hc
  simp only[List.append_nil] at is
  have b1:¬ ((20:Int)≤(l.length:Int)):=by omega
  have b2:¬ ((20:Int)<(l.length:Int)):=by omega
  simp only[zeX,go_sem]
  refine z0U (fun _:Unit=>⟨[(0,.own id l.length 0 l.length),(1,AI l.length),(2,.fn g caps),(6,AI 20),(7,AI 0),(8,AI 20)],h,[]⟩) (fun _=>True) (fun _=>0) () rfl trivial ?_
  intro _ _
  simp only[go_sem,b1,is]
  refine z0U (fun _:Unit=>⟨[(0,.own id l.length 0 l.length),(1,AI l.length),(2,.fn g caps),(6,AI 20)],h.set id (.row (some 8) (zcv (ltC c) l) 0),[]⟩) (fun _=>True) (fun _=>0) () rfl trivial ?_
  intro _ _
  simp only[go_sem,b2]
 simp only[zjX,go_sem,key]
theorem z6H {v:AV} {g:Nat} {caps:List AV} {p:PV→Bool} {xs:List PV} (hv:Shows (some 8) v xs h) (hp:zpI g caps p xs h) (hl:xs.length≤1000000000) :
 z0d X z8Y [v,.fn g caps] h K=K (AI (idxP p xs)) h []:=by
 refine rule ?_
 rw[c_q05u]
 have vl:=hv.len
 simp only[zeT,go_sem,vl]
 refine z0U (fun k:Nat=>⟨[(0,v),(1,.fn g caps),(7,AI xs.length),(8,AI k)],h,[]⟩) (fun k=>k≤xs.length∧∀ x∈xs.take k,p x=false) (fun k=>xs.length-k) 0 rfl (by simp) ?_
 rintro k ⟨hk,hn⟩
 rcases Nat.lt_or_ge k xs.length with hlt | hge
 ·obtain⟨a,ha,hb⟩:=hv.get k hlt
  have w2:IntKind.i64.wrap ((k:Int)+1)=((k+1:Nat):Int):=z0k _ (by omega) (by omega)
  have ht:=hp _ (List.getElem_mem hlt)
  cases hpk:p xs[k] with
  | true=>
   have hf:xs.findIdx p=k:=by
    rw[List.findIdx_eq hlt]
    refine⟨hpk,fun j hj=>?_⟩
    have:=hn xs[j] (by rw[List.mem_take_iff_getElem];exact⟨j,by omega,rfl⟩)
    simpa using this
   simp only[go_sem,hlt,ha,hb,ht,hpk,w2]
   simp only[idxP,hf,hlt,if_true]
  | false=>
   simp only[go_sem,hlt,ha,hb,ht,hpk,w2]
   refine⟨k+1,rfl,⟨by omega,fun x hx=>?_⟩,by omega⟩
   rw[List.take_succ_eq_append_getElem hlt,List.mem_append,List.mem_singleton] at hx
   rcases hx with hx | hx
   ·exact hn x hx
   ·rw[hx];exact hpk
 ·have e1:k=xs.length:=by omega
  subst e1
  simp only[go_sem,Nat.lt_irrefl]
  rw[List.take_length] at hn
  have:¬ xs.findIdx p<xs.length:=by
   rw[Nat.not_lt,Nat.le_iff_lt_or_eq];right
   exact (List.findIdx_eq_length.2 (fun x hx=>by simp [hn x hx])).symm
  simp [idxP,this]
theorem z43 {g:Nat} {caps:List AV} {p:PV→Bool} {xs:List PV} (hp:zpI g caps p xs h) (hs:shps (some 8) xs) (hl:xs.length≤1000000000) :
 z0d X z8X [.p (.sl (some 8) xs),.fn g caps] h K=K (AB (xs.any p)) h []:=by
 refine rule ?_
 rw[c_q05h]
 have vi:=fun K=>z6H (h:=h) (K:=K) (zay hs) hp hl
 simp only[zjU,go_sem,vi,zf5]
end Go.Am
end
section
/- Lists of entries: what is wrong with them,the reference. -/
open Go
set_option linter.all false
set_option maxRecDepth 100000
namespace Go.Am
variable {h:Heap} {K:Post}
attribute [-go_sem] oEqa
def zdR:PV→Ent
 | .agg [.str a,.int _ b,.int _ c,.int _ d,.str e,.str f,.str g,.int _ i]=>⟨a,b,c,d,e,f,g,i⟩
 | _=>ent0
theorem za0 (x:Ent):zdR x.pv=x:=rfl
theorem s_EF1 (o x:Ent) (id:Nat) (hx:h[id]?=some x.box):z0d X z7x [.p o.pv,.ref id 0] h K=K (AB (z2X o x)) h []:=by
 refine rule ?_
 rw[c_q03w rfl]
 have q:=fun h K=>zdG (h:=h) (K:=K) o x
 have hl:=z7C hx
 have hx2:∀ t,(h++t)[id]?=some x.box:=fun t=>by rw[List.getElem?_append_left hl];exact hx
 simp only[Ent.pv] at q
 unfold Ent.box at hx hx2
 simp only[zjR,Ent.pv,go_sem,hx,hx2,q]
attribute [-go_sem] z7q
theorem z80 (r:List Ent) (hr:∀ x∈r,EntOk x) (hn:r.length≤1000000):z0d X z8T [z19 r] h K=K (AI (z2y r)) h []:=by
 refine rule ?_
 rw[c_q03v rfl]
 unfold z2y
 by_cases h1:(2000:Int)<r.length
 ·simp only[zbt,go_sem,h1]
 simp only[zbt,go_sem,h1]
 refine z0U (fun k:Nat=>⟨[(0,z19 r),(11,z19 r),(12,AI r.length),(13,AI k)],h,[]⟩) (fun k=>k≤r.length∧z0A (r.take k).getLast? (r.drop k)=z0A none r∧∀ x∈r.take k,entF x=0) (fun k=>r.length-k) 0 rfl ⟨by omega,rfl,by simp⟩ ?_
 rintro k ⟨hkl,hp,hz⟩
 rcases Nat.lt_or_ge k r.length with hlt | hge
 ·have hg:=z0X Ent.pv hlt
  have w2:IntKind.i64.wrap ((k:Int)+1)=((k+1:Nat):Int):=z0k _ (by omega) (by omega)
  have hx:=hr _ (List.getElem_mem hlt)
  have hlast:(r.take (k+1)).getLast?=some r[k]:=by rw[List.take_succ_eq_append_getElem hlt];exact List.getLast?_concat
  rw[List.drop_eq_getElem_cons hlt,z4J] at hp
  have cx:=z3v (x:=r[k])
  have rf:=fun h K=>zcC (h:=h) (K:=K) r[k] hx
  simp only[Ent.pv] at rf
  by_cases h2:entF r[k]=0
  ·rw[if_neg (by simp [h2])] at hp
   have hz':∀ x∈r.take (k+1),entF x=0:=fun x hx=>by
    rw[List.take_succ_eq_append_getElem hlt,List.mem_append,List.mem_singleton] at hx
    rcases hx with hx | rfl
    ·exact hz x hx
    ·exact h2
   cases k with
   | zero=>
    simp only[List.take_zero,List.getLast?_nil,reduceCtorEq,if_false] at hp
    have hlt0:(0:Int)<r.length:=by omega
    simp only[go_sem,hlt0,hg,cx,Ent.pv,rf,h2,Int.lt_irrefl,splice,show IntKind.i64.wrap 1=1 from rfl]
    exact⟨0+1,rfl,⟨by omega,by rw[hlast];exact hp,hz'⟩,by omega⟩
   | succ j=>
    have hj:j<r.length:=by omega
    have hgj:=z0X Ent.pv hj
    have cj:=z3v (x:=r[j])
    have hlj:(r.take (j+1)).getLast?=some r[j]:=by rw[List.take_succ_eq_append_getElem hj];exact List.getLast?_concat
    have w3:IntKind.i64.wrap (((j+1:Nat):Int)-1)=(j:Int):=by rw[z0k _ (by omega) (by omega)];omega
    have p1:(0:Int)<((j+1:Nat):Int):=by omega
    have t1:=zfh h2
    have t2:=zfh (hz r[j] (by rw[List.mem_take_iff_getElem];exact⟨j,by omega,rfl⟩))
    have bt:=fun h K=>zcD (h:=h) (K:=K) r[j] r[j+1] t2 t1
    simp only[Ent.pv] at bt
    rw[hlj] at hp
    have hneg:=zgH r[j+1] r[j]
    by_cases h3:z0W r[j+1] r[j]≤0
    ·have h3':0≤z0W r[j] r[j+1]:=by omega
     simp only[h3,decide_true,if_true] at hp
     simp only[go_sem,hlt,hj,hg,hgj,cx,cj,Ent.pv,rf,h2,p1,w3,bt,h3',splice]
     rw[← hp]
     rfl
    ·have h3':¬ 0≤z0W r[j] r[j+1]:=by omega
     simp only[h3,decide_false,reduceCtorEq,if_false] at hp
     simp only[go_sem,hlt,hj,hg,hgj,cx,cj,Ent.pv,rf,h2,p1,w3,bt,h3',w2,splice]
     exact⟨j+1+1,rfl,⟨by omega,by rw[hlast];exact hp,hz'⟩,by omega⟩
  ·rw[if_pos h2] at hp
   simp only[go_sem,hlt,hg,cx,Ent.pv,rf,h2,splice]
   rw[← hp,if_pos h2]
 ·have ek:k=r.length:=by omega
  subst ek
  rw[List.drop_length] at hp
  have hz0:z0A none r=0:=by rw[← hp];cases (r.take r.length).getLast? <;> rfl
  rw[if_neg (by simp [hz0])]
  simp only[go_sem,Nat.lt_irrefl]
  rw[z7q]
  simp only[z4F,go_sem]
  refine z0U (fun k:Nat=>⟨[(0,z19 r),(36,z19 r),(37,AI r.length),(38,AI k)],h,[]⟩) (fun k=>k≤r.length∧z2m (r.take k) (r.drop k)=z2m [] r) (fun k=>r.length-k) 0 rfl ⟨by omega,rfl⟩ ?_
  rintro k ⟨hkl2,hp2⟩
  rcases Nat.lt_or_ge k r.length with hlt | hge
  ·have hg:=z0X Ent.pv hlt
   have w2:IntKind.i64.wrap ((k:Int)+1)=((k+1:Nat):Int):=z0k _ (by omega) (by omega)
   have cx:=z3v (x:=r[k])
   rw[List.drop_eq_getElem_cons hlt,z2m,← List.take_succ_eq_append_getElem hlt] at hp2
   have cf:=fun K=>z43 (h:=h++[r[k].box]) (K:=K) (g:=z7x) (caps:=[.ref h.length 0]) (p:=fun v=>z2X (zdR v) r[k]) (xs:=(r.take k).map Ent.pv)
    (fun v hv K=>by
     obtain⟨o,_,rfl⟩:=List.mem_map.1 hv
     dsimp only
     rw[za0]
     exact s_EF1 o r[k] h.length (by simp)) zfi (by simp;omega)
   have ea:((r.take k).map Ent.pv).any (fun v=>z2X (zdR v) r[k])=(r.take k).any (fun o=>z2X o r[k]):=by
    rw[List.any_map];rfl
   rw[ea] at cf
   have hw:win (r.map Ent.pv) 0 k=(r.take k).map Ent.pv:=by simp [win,List.map_take]
   have hkl3:k≤r.length:=by omega
   unfold Ent.box at cf
   cases hc:(r.take k).any (fun o=>z2X o r[k]) with
   | true=>
    rw[hc,if_pos rfl] at hp2
    rw[hc] at cf
    simp only[go_sem,hlt,hg,cx,Ent.pv,splice,hkl3,hw,↓cf,cf]
    rw[← hp2]
    first | done | rfl
   | false=>
    rw[hc,if_neg (by simp)] at hp2
    rw[hc] at cf
    simp only[go_sem,hlt,hg,cx,Ent.pv,splice,hkl3,hw,↓cf,cf,w2]
    exact⟨k+1,rfl,⟨by omega,hp2⟩,by omega⟩
  ·have ek:k=r.length:=by omega
   subst ek
   rw[List.drop_length] at hp2
   have:z2m [] r=false:=by rw[← hp2];rfl
   simp only[go_sem,Nat.lt_irrefl,this]
   first | done | rfl
end Go.Am
end
section
/- Where a byte stands in a text. -/
open Go
set_option linter.all false
namespace Go.Am
variable {h:Heap} {K:Post}
end Go.Am
end
section
/- Lengths of numbers in bits,and comparisons of plain values. -/
open Go
namespace Go.Am
variable {h:Heap} {K:Post}
set_option maxRecDepth 20000
end Go.Am
end
section
/- Lists of strings sorted,left out: printed by program. -/
open Go
set_option linter.unusedSimpArgs false
namespace Go.Am
attribute [-go_sem] PV.cells splice
variable {h:Heap} {K:Post}
end Go.Am
end
section
/- What is drawn: numbers,measured values. -/
open Go
namespace Go.Am
variable {L:List Int} {a:Int}
theorem zu4 (hp:posN 14 a) (u v:Int) (huv:u≤v) (hu : -1000000000000≤u) (hv:v≤1000000000000):∃ k a2:Int,a≤a2∧a2≤a+2 ∧ -1099511627776≤k∧k≤1099511627776 ∧
 Gen z26 [AI u,AI v] L a a2 (AI k):=by
 have w1:IntKind.i64.wrap (u-1)=u-1:=z0k _ (by omega) (by omega)
 have w2:IntKind.i64.wrap (v+1)=v+1:=z0k _ (by omega) (by omega)
 by_cases hf:z14 L a 12=0
 ·have hm:=z7Z (L:=L) (a:=a+1) (l:=[u-1,v+1,u,v,-1099511627776,1099511627776]) (by simp) (by simp)
  simp only[List.mem_cons,List.not_mem_nil,or_false] at hm
  refine⟨z4d [u-1,v+1,u,v,-1099511627776,1099511627776] L (a+1),a+1+1,by omega,by omega,by omega,by omega,Gen.of fun h id hid=>?_⟩
  rw[zeB rfl]
  simp only[z8H,go_sem,hid,z57 hp,hf,w1,w2]
 ·have hm:=z1O L (a+1) huv (by omega)
  refine⟨z0Q u v L (a+1),a+1+1,by omega,by omega,by omega,by omega,Gen.of fun h id hid=>?_⟩
  rw[zeB rfl]
  simp only[z8H,go_sem,hid,z57 hp,hf,w1,w2,huv,show -1152921504606846976≤u by omega,show v≤1152921504606846976 by omega]
end Go.Am
end
section
/- Strings that are drawn. -/
open Go
set_option linter.unusedSimpArgs false
namespace Go.Am
variable {L:List Int} {a:Int} {h l:Heap} {id:Nat} {K:Post}
def isS:PV→Bool
 | .str _=>true
 | _=>false
def unS:PV→List UInt8
 | .str s=>s
 | _=>[]
def z1A (l:List (List UInt8)) (L:List Int) (a:Int):List UInt8:=l.getD (z14 L a l.length).toNat []
theorem z7Y {l:List (List UInt8)} {L:List Int} {a:Int} (hl:0<l.length) (hl2:l.length<4611686018427387904):z1A l L a∈l:=by
 obtain⟨b1,b2⟩:=z5b L a l.length (by omega) (by omega)
 unfold z1A
 have:(z14 L a l.length).toNat<l.length:=by omega
 simp only[List.getD,List.getElem?_eq_getElem this,Option.getD_some]
 exact List.getElem_mem _
theorem zvT {xs:List PV} (h:xs.all isS=true):xs=(xs.map unS).map PV.str:=by
 induction xs with
 | nil=>rfl
 | cons x r ih=>
  simp only[List.all_cons,Bool.and_eq_true] at h
  simp only[List.map_cons]
  rw[← ih h.2]
  cases x <;> first | rfl | cases h.1
theorem zlV (hp:posN 0 a) (xs:List PV) (hx:xs.all isS=true) (hl:0<xs.length) (hl2:xs.length<4611686018427387904) :
 Gen z1k [.p (.sl none xs)] L a (a+1) (AS (z1A (xs.map unS) L a)):=by
 refine Gen.of fun h id hid=>?_
 rw[c_q03s rfl]
 obtain⟨b1,b2⟩:=z5b L a xs.length (by omega) (by omega)
 have e4:=z7G (k:=.i64) b1
 have e5:xs[(z14 L a xs.length).toNat]?=some (.str (z1A (xs.map unS) L a)):=by
  have hm:=zvT hx
  generalize hq:xs.map unS=q at *
  subst hm
  simp only[List.length_map] at *
  rw[z0X PV.str (show (z14 L a q.length).toNat<q.length by omega)]
  simp [z1A,List.getD,show (z14 L a q.length).toNat<q.length by omega]
 simp only[zjQ,go_sem,z2a hid hp,e4,e5]
theorem z9y (hid:id<h.length) (hp:posN 0 a) {xs:List PV} (hx:xs.all isS=true) (hl:0<xs.length) (hl2:xs.length<4611686018427387904) :
 z0d X z1k [.ref id 0,.p (.sl none xs)] (h.set id (strm L a)) K=K (AS (z1A (xs.map unS) L a)) (h.set id (strm L (a+1))) []:=(zlV hp xs hx hl hl2).set hid
theorem z9x (hid:id<h.length) (hp:posN 0 a) {xs:List PV} (hx:xs.all isS=true) (hl:0<xs.length) (hl2:xs.length<4611686018427387904) :
 z0d X z1k [.ref id 0,.p (.sl none xs)] (h.set id (strm L a)++l) K=K (AS (z1A (xs.map unS) L a)) (h.set id (strm L (a+1))++l) []:=(zlV hp xs hx hl hl2).app hid
theorem zcH (hp:posN 0 a) {xs:List PV} (hx:xs.all isS=true) (hl:0<xs.length) (hl2:xs.length<4611686018427387904) :
 z0d X z1k [.ref 0 0,.p (.sl none xs)] (strm L a::l) K=K (AS (z1A (xs.map unS) L a)) (strm L (a+1)::l) []:=(zlV hp xs hx hl hl2).hd
attribute [go_sem ↓] z9y z9x zcH
attribute [go_sem] z9y z9x zcH isS unS
end Go.Am
end
section
/- What is drawn: strings,limits. -/
open Go
set_option linter.unusedSimpArgs false
namespace Go.Am
variable {L:List Int} {a:Int} {h l:Heap} {id:Nat} {K:Post}
end Go.Am
end
section
/- Sorting records: printed by program. -/
open Go
set_option linter.unusedSimpArgs false
namespace Go.Am
attribute [-go_sem] PV.cells splice
variable {h:Heap} {K:Post}
end Go.Am
end
section
/- Leaving out what is alike: printed by program. -/
open Go
set_option linter.unusedSimpArgs false
namespace Go.Am
attribute [-go_sem] PV.cells splice
variable {h:Heap} {K:Post}
end Go.Am
end
section
/- What is drawn: records. -/
open Go
set_option linter.unusedSimpArgs false
namespace Go.Am
variable {L:List Int} {a:Int} {h l:Heap} {id:Nat} {K:Post}
theorem zj6 {b:Nat} {x:Esc} (hx:∀ y∈x,b≤y.1):∀ k,close k x b=b:=by
 have hb:bump x b=b:=by
  unfold bump
  induction x with
  | nil=>rfl
  | cons y r ih=>
   simp only[List.foldl_cons]
   rw[if_neg (by have:=hx y (by simp);omega)]
   exact ih (fun z hz=>hx z (by simp [hz]))
 intro k
 induction k with
 | zero=>rfl
 | succ k ih=>unfold close;rw[hb,ih]
theorem zpm {b i t:Nat} {x0:Esc} {e:List (Nat × AV)} {h:Heap} (hi:i<b):z5W b x0 ⟨e,h,[(i,t)]⟩=⟨z8y (max b t) e,h.take (max b t),(i,t)::x0⟩:=by
 unfold z5W
 have hb:close [(i,t)].length [(i,t)] b=max b t:=by simp [close,bump,hi]
 simp only[hb]
 have hc:z0L [(i,t)] (max b t)=true:=by simp [z0L];omega
 have hf:[(i,t)].filter (fun y=>decide (y.1<max b t))=[(i,t)]:=by simp;omega
 rw[if_pos hc,hf];rfl
end Go.Am
end
section
/- Merging two ordered lists: by sorting and leaving out what is alike,and by looking each one up. Plain lists. -/
namespace Go.Am
variable {α:Type}
structure Ordr (c:α→α→Int):Prop where
 neg:∀ a b,c b a = - c a b
 trans:∀ a b d,c a b≤0→c b d≤0→c a d≤0
theorem Ordr.refl {c:α→α→Int} (o:Ordr c) (a:α):c a a=0:=by have:=o.neg a a;omega
variable {c:α→α→Int} {q:α→α→Bool} {a b:List α}
end Go.Am
end
section
/- Records alike;copies;bins. -/
open Go
set_option linter.unusedSimpArgs false
namespace Go.Am
variable {h:Heap} {K:Post}
def zv3 (a b:Rec):Bool:=decide (a.unit=b.unit)&&(decide (a.time=b.time)&&(decide (a.site=b.site)&&decide (a.res=b.res)))
theorem zoS (a b:Rec):zv3 a b=true↔a=b:=by
 cases a;cases b
 simp [zv3]
theorem zfR {b:Nat} {P:Post} {vs:List AV} {h:Heap} {x:Esc} (hx:∀ y∈x,b≤y.1) {v:AV} (h1:reif b h (z0D vs)=some v) (h2:v.top≤b):retK false b P (some vs) h x=P v (h.take b) []:=by
 have e:max b v.top=b:=by omega
 have c:z0L x b=true:=by
  unfold z0L
  rw[List.all_eq_true]
  intro y hy
  simp [hx y hy]
 have f:x.filter (fun y=>decide (y.1<b))=[]:=by
  rw[List.filter_eq_nil_iff]
  intro y hy
  have:=hx y hy
  simp;omega
 simp only[retK,h1,e,zj6 hx,c,if_true,f]
 exact propext ⟨fun h=>h.2,fun h=>⟨h2,h⟩⟩
theorem zoN (l:List Int) (hl:l.length≤1000):z0d X z4M [AL l] h K=K (AI (orL l)) h []:=by
 refine rule ?_
 rw[c_q002 rfl]
 simp only[zeJ,go_sem]
 refine z0U (fun k:Nat=>⟨[(5,AL l),(6,AI l.length),(7,AI k)],h,[]⟩) (fun k=>k≤l.length∧orL (l.drop k)=orL l) (fun k=>l.length-k) 0 rfl ⟨by omega,rfl⟩ ?_
 rintro k ⟨hk,hp⟩
 rcases Nat.lt_or_ge k l.length with hlt | hge
 ·have g2:=z0X eI hlt
  have w2:IntKind.i64.wrap ((k:Int)+1)=((k+1:Nat):Int):=z0k _ (by omega) (by omega)
  rw[List.drop_eq_getElem_cons hlt,orL] at hp
  by_cases hz:l[k]=0
  ·rw[if_neg (by simp [hz])] at hp
   simp only[go_sem,hlt,g2,hz,w2]
   exact⟨k+1,rfl,⟨by omega,hp⟩,by omega⟩
  ·rw[if_pos hz] at hp
   simp only[go_sem,hlt,g2,hz]
   rw[hp]
 ·have ek:k=l.length:=by omega
  subst ek
  rw[List.drop_length] at hp
  simp only[go_sem,Nat.lt_irrefl]
  rw[← hp];rfl
end Go.Am
end
section
/- Sorting numbers: printed by program. -/
open Go
set_option linter.unusedSimpArgs false
namespace Go.Am
attribute [-go_sem] PV.cells splice
variable {h:Heap} {K:Post}
end Go.Am
end
section
/- Bins,both ways;lists joined;records sorted. -/
open Go
set_option linter.unusedSimpArgs false
namespace Go.Am
variable {h:Heap} {K:Post}
end Go.Am
end
section
/- Lists of records joined,compared,merged. -/
open Go
set_option linter.unusedSimpArgs false
namespace Go.Am
variable {h:Heap} {K:Post}
instance:DecidableEq Rec:=fun a b=>decidable_of_iff (zv3 a b=true) (zoS a b)
end Go.Am
end
section
/- Records merged asv the reference does it. -/
open Go
set_option linter.unusedSimpArgs false
namespace Go.Am
variable {h:Heap} {K:Post}
end Go.Am
end
section
/- Retests: which record of a unit counts. Plain lists;both ways yield the same. -/
set_option linter.all false
namespace Go.Am
end Go.Am
end
section
/- Lists of strings. -/
open Go
set_option linter.all false
namespace Go.Am
variable {h:Heap} {K:Post}
abbrev AStr (us:List (List UInt8)):AV:=.p (.sl none (us.map PV.str))
theorem zrB {us:List (List UInt8)}:shps none (us.map PV.str):=fun x hx=>by obtain⟨n,_,rfl⟩:=List.mem_map.1 hx;rfl
end Go.Am
end
section
/- The abstract machine,part L4: strings.Repeat,strings.Trim,math/bits.TrailingZeros64 asv rows. -/
set_option linter.all false
namespace Go.Am
variable {P:Program} {gl:Nat→Option PV}
open Go.Shelf
theorem zjp {w w':World} (h:Go.RowKit.Below w.heap.size w w'):WExt w w':=⟨h.size,fun b hb=>h.block b hb,by unfold zed;rw[h.os,h.tape,h.output]⟩
theorem zqV (s cs:List UInt8):Go.Lib.trimS s cs=trimL s cs:=rfl
theorem trimRow {ρ:Ren} (L:Go.Proofs.Lays.n160 P ρ) (h116:(P.info? (ρ.t 116)).map (fun i=>(i.zero,i.size))=some (some (.agg (Array.replicate 256 (.bool false))),256)) (he:∀ us w,(callFunc (ρ.f 160) us).run P w = .ok (.enter (ρ.f 160) us) w):PureRow P gl (ρ.f 160) trimS where
 enter:=he
 run M w vs r us hc hb hG hl hr hs:=by
  unfold trimS at hs
  split at hs
  ·rename_i s cs
   split at hs
   ·rename_i hbd
    match us,hl with
    | [u,v],_=>
     have q:=hr 0 _ u rfl rfl
     cases q
     have q2:=hr 1 _ v rfl rfl
     cases q2
     simp only[Option.some.injEq] at hs
     subst hs
     have hsz:∀ l:List UInt8,(⟨l.toArray⟩:ByteArray).size=l.length:=fun l=>by simp [ByteArray.size]
     refine (Go.Proofs.Any.strings_Trim_laid L h116 ⟨s.toArray⟩ ⟨cs.toArray⟩ w (by rw[hsz];omega) (by rw[hsz];omega) (Go.Proofs.ascii_of_all hbd.2.2)).mono fun e w' h=>?_
     obtain⟨rfl,h⟩:=h
     exact⟨_,rfl,zjp h,by rw[← zqV];exact .p _ _ (.str _)⟩
   ·cases hs
  ·cases hs
end Go.Am
end
section
/- The abstract machine,part L5: strings.Count at one byte,strings.Join asv rows. -/
set_option linter.all false
namespace Go.Am
variable {P:Program} {gl:Nat→Option PV}
open Go.Shelf
end Go.Am
end
section
/- Texts split at a byte. -/
open Go
set_option linter.all false
namespace Go.Am
variable {h:Heap} {K:Post}
end Go.Am
end
section
/- Lines of a text. -/
open Go
set_option linter.all false
namespace Go.Am
variable {h:Heap} {K:Post}
end Go.Am
end
section
/- Numbers read. -/
open Go
set_option linter.all false
namespace Go.Am
variable {h:Heap} {K:Post}
end Go.Am
end
section
/- Several numbers read. -/
open Go
set_option linter.all false
namespace Go.Am
variable {h:Heap} {K:Post}
end Go.Am
end
section
/- Numbers read,the reference's way. -/
open Go
set_option linter.all false
namespace Go.Am
variable {h:Heap} {K:Post}
end Go.Am
end
section
/- Tests and faults: what is wrong with them,both ways. -/
open Go
set_option linter.all false
namespace Go.Am
variable {h:Heap} {K:Post}
end Go.Am
end
section
/- Faults: what is wrong with them,both ways. -/
open Go
set_option linter.all false
namespace Go.Am
variable {h:Heap} {K:Post}
def Flt.pv (f:Flt):PV:=.agg [eI f.kind,.sl none (f.nets.map eI)]
end Go.Am
end
