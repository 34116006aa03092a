/- Texts of the proof, laid together: Ctx, SpStream, MathFrac, SpBase, SpList, PSort, SpShp, SpStr, SpFind, SpLimD, SpLim, SpLotA, SpRecD, PEnt, PSplit, PTxt, PNum, PFlt, PFltR, PWrit, PEntT, SpRec, SpEnt1, SpEnt3, SpEnt2, SpMap, SpEnt4, SpSortE, SpEnt5, SpIdx, SpLen, SpStrs, SpGenA, SpSome, SpGenL, SpSortRec, SpCompact, SpGenR, PMerge, SpMrgA, SpSort, SpMrgB, SpMrgC, SpMrgD, PFin, SpTxt, AmL4, AmL5, SpSplit, SpLines, SpNum. -/
import Derived.Shelf.Strings.Repeat
import Derived.Shelf.Strings.SlTrimAscii
import Derived.Shelf.Spec.TrailingZeros
import Derived.Shelf.Strings.Count
import Derived.Shelf.Strings.OnBuilder
import Derived.Test.YtklljiofechahaaGreatDoorlawET6
set_option linter.all false
section
/- The functions together. -/
set_option linter.unusedVariables false
set_option maxRecDepth 100000
namespace Go.Am
def fns:List (Nat × AFun):=[(zfT,zjc),(z2b,zjl),(z9D,zjm),(z6E,zjf),(z9C,zjg),(z9T,zjF),(z3D,zeY),(z6F,zjs),(z9S,zjD),(z9E,zjp),(z9O,zj8),(z1l,zjn),(z2a,zjk),(z3C,zjh),(z3u,zjj),(z1k,zji),(z8c,zeV),(z5m,zeU),(z5p,zfe),(z9B,zje),(z8o,zjM),(z8n,zjK),(z9W,zjL),(z9I,zjy),(z94,ziO),(z9G,zjv),(z9K,zj0),(z6G,zjx),(z9J,zjz),(z1Y,zeR),(z9Q,zjA),(z43,zjt),(z3E,zb1),(z9U,zjH),(z9F,zjr),(z9N,zj7),(z8g,zjo),(z9M,zj5),(z5o,zj2),(z8i,zjE),(z9V,zjI),(z8h,zjq),(z9L,zj1),(z9H,zjw),(z3v,zju),(z45,zeZ),(z6H,zj6),(z42,zjd),(z5n,zeW),(z8d,zeX),(z2c,zj3),(z9X,zjN),(z1Z,zeT),(z95,ziP),(z47,zjS),(z6C,ziQ),(z96,ziR),(z8p,zjO),(z6L,zjT),(z44,zj4),(z9R,zjC),(z8k,zfc),(z8j,zfb),(z8m,zfd),(z6J,zjJ),(z9P,zj9),(z8l,zjG),(z3w,zfa),(z9Y,zjP),(zab,zjV),(z6B,zeS),(z8e,ziV),(z9A,zjb),(zaa,zjR),(z6I,zjB),(z97,ziW),(zdf,zjU),(z9Z,zjQ),(z6D,ziZ),(z98,ziX),(z3B,zja),(z99,ziY),(zdg,zjW),(zda,ziS),(zdb,ziT),(zdh,zjX),(zdc,ziU)]
def GRL:List (Nat × Sh):=[]
def PRL:z7l:=[(z6K,zej),(z2d,zh7),(zdd,zbF),(zde,zh8),(z8f,zvv)]
def GLL:List (Nat × PV):=[(1,zaP)]
def fnOf:List (Nat × AFun)→Nat→Option AFun
 | [],_=>none
 | (k,F)::r,n=>bif Nat.beq k n then some F else fnOf r n
def X:Ctx:=⟨fnOf fns,glOf GLL,extF z0i z0f,libF GRL PRL⟩
theorem zgc {p:Nat→AFun→Bool}:∀ (l:List (Nat × AFun)),(l.all fun y=>p y.1 y.2)=true→∀ n F,fnOf l n=some F→p n F=true
 | [],_,n,F,h=>by cases h
 | (k,G)::r,ha,n,F,h=>by
  simp only[List.all_cons,Bool.and_eq_true] at ha
  simp only[fnOf] at h
  cases hk:Nat.beq k n with
  | true=>
   rw[hk] at h
   have:=Nat.eq_of_beq_eq_true hk
   simp only[cond_true,Option.some.injEq] at h
   subst this;subst h;exact ha.1
  | false=>
   rw[hk] at h
   exact zgc r ha.2 n F h
def fns0:List (Nat × AFun):=[(zsB,a_q07t),(z8f,a_q036),(z8c,zeV),(z5m,zeU),(z5p,zfe),(zsD,a_q083),(zsI,a_q08b),(zsK,a_q08j),(z1Y,zeR),(z3E,zb1),(z45,zeZ),(z5n,zeW),(z8d,zeX),(z1Z,zeT),(zs9,a_q002),(zsA,a_q07r),(zsJ,a_q08e),(zsC,a_q081),(zsH,a_q088),(z8k,zfc),(z8j,zfb),(z8m,zfd),(z3w,zfa),(z6B,zeS),(zsG,a_q087),(zsF,a_q085),(zmE,a_q086),(zsE,a_q084)]
def PRL0:z7l:=[(z6K,zej),(z2d,zh7),(zdd,zbF),(zde,zh8)]
def X0:Ctx:=⟨fnOf fns0,glOf GLL,extF z0i z0f,libF GRL PRL0⟩
theorem zeQ:X.NoNext:=fun f F h=>zgc (p:=fun _ F=>F.isDet||F.body.noNext) fns (by kernel_rfl) f F h
theorem x_q030:X.fn zfT=some zjc:=by kernel_rfl
theorem c_q030 {u0 v0:AV} {h h1:Heap} {P:Post} (hp:z0o h [u0]=some ([v0],h1)):z0c X zfT [u0] h P=zbX (z0c X) X.gl z56 v0 h1 [] (finR [.t 2] false h.length P):=by rw[z0h x_q030 rfl hp rfl];exact e_q030
theorem x_q03k:X.fn z2b=some zjl:=by kernel_rfl
theorem c_q03k {u0 u1 u2 v0 v1 v2:AV} {h h1:Heap} {P:Post} (hp:z0o h [u0,u1,u2]=some ([v0,v1,v2],h1)):z0c X z2b [u0,u1,u2] h P=zkG (z0c X) X.gl v0 v1 v2 h1 [] (finR [.t 6] false h.length P):=by rw[z0h x_q03k rfl hp rfl];exact e_q03k
theorem x_q03p:X.fn z9D=some zjm:=by kernel_rfl
theorem c_q03p {u0 u1 v0 v1:AV} {h h1:Heap} {P:Post} (hp:z0o h [u0,u1]=some ([v0,v1],h1)):z0c X z9D [u0,u1] h P=zf3 (z0c X) X.gl z2K z5C v0 v1 h1 [] (finR [.t 4] false h.length P):=by rw[z0h x_q03p rfl hp rfl];exact e_q03p
theorem x_q03c:X.fn z6E=some zjf:=by kernel_rfl
theorem c_q03c {u0 u1 v0 v1:AV} {h h1:Heap} {P:Post} (hp:z0o h [u0,u1]=some ([v0,v1],h1)):z0c X z6E [u0,u1] h P=zfz (z0c X) X.gl z2I z3S v0 v1 h1 [] (finR [.t 4] false h.length P):=by rw[z0h x_q03c rfl hp rfl];exact e_q03c
theorem x_q03d:X.fn z9C=some zjg:=by kernel_rfl
theorem c_q03d {u0 v0:AV} {h h1:Heap} {P:Post} (hp:z0o h [u0]=some ([v0],h1)):z0c X z9C [u0] h P=zf0 (z0c X) X.gl z2J z5B v0 h1 [] (finR [.t 2] false h.length P):=by rw[z0h x_q03d rfl hp rfl];exact e_q03d
theorem x_q07y:X.fn z9T=some zjF:=by kernel_rfl
theorem c_q07y {u0 v0:AV} {h h1:Heap} {P:Post} (hp:z0o h [u0]=some ([v0],h1)):z0c X z9T [u0] h P=zcA (z0c X) X.gl z2h z5P v0 h1 [] (finR [.t 2,.t 3] false h.length P):=by rw[z0h x_q07y rfl hp rfl];exact e_q07y
theorem ztb:X.fn z3D=some zeY:=by kernel_rfl
theorem c_q03v {u0 v0:AV} {h h1:Heap} {P:Post} (hp:z0o h [u0]=some ([v0],h1)):z0c X z3D [u0] h P=zch (z0c X) X.gl z2L z5D v0 h1 [] (finR [.t 2] false h.length P):=by rw[z0h ztb rfl hp rfl];exact e_q03v
theorem x_q040:X.fn z6F=some zjs:=by kernel_rfl
theorem c_q040 {u0 v0:AV} {h h1:Heap} {P:Post} (hp:z0o h [u0]=some ([v0],h1)):z0c X z6F [u0] h P=zf4 (z0c X) X.gl z2M z5F v0 h1 [] (finR [.t 2] false h.length P):=by rw[z0h x_q040 rfl hp rfl];exact e_q040
theorem x_q07u:X.fn z9S=some zjD:=by kernel_rfl
theorem c_q07u {u0 v0:AV} {h h1:Heap} {P:Post} (hp:z0o h [u0]=some ([v0],h1)):z0c X z9S [u0] h P=zc9 (z0c X) X.gl v0 h1 [] (finR [.t 2,.t 3,.t 4] false h.length P):=by rw[z0h x_q07u rfl hp rfl];exact e_q07u
theorem x_q03x:X.fn z9E=some zjp:=by kernel_rfl
theorem c_q03x {u0 v0:AV} {h h1:Heap} {P:Post} (hp:z0o h [u0]=some ([v0],h1)):z0c X z9E [u0] h P=zcl (z0c X) X.gl v0 h1 [] (finR [.t 2,.t 3,.t 4] false h.length P):=by rw[z0h x_q03x rfl hp rfl];exact e_q03x
theorem x_q05n:X.fn z9O=some zj8:=by kernel_rfl
theorem c_q05n {u0 u1 v0 v1:AV} {h h1:Heap} {P:Post} (hp:z0o h [u0,u1]=some ([v0,v1],h1)):z0c X z9O [u0,u1] h P=zcu (z0c X) X.gl z2R z5K v0 v1 h1 [] (finR [.t 4] false h.length P):=by rw[z0h x_q05n rfl hp rfl];exact e_q05n
theorem x_q03s:X.fn z1l=some zjn:=by kernel_rfl
theorem c_q03s {u0 u1 v0 v1:AV} {h h1:Heap} {P:Post} (hp:z0o h [u0,u1]=some ([v0,v1],h1)):z0c X z1l [u0,u1] h P=zkH (z0c X) X.gl v0 v1 h1 [] (finR [.t 4] false h.length P):=by rw[z0h x_q03s rfl hp rfl];exact e_q03s
theorem x_q03j:X.fn z2a=some zjk:=by kernel_rfl
theorem c_q03j {u0 u1 v0 v1:AV} {h h1:Heap} {P:Post} (hp:z0o h [u0,u1]=some ([v0,v1],h1)):z0c X z2a [u0,u1] h P=zkF (z0c X) X.gl v0 v1 h1 [] (finR [.t 4] false h.length P):=by rw[z0h x_q03j rfl hp rfl];exact e_q03j
theorem x_q03f:X.fn z3C=some zjh:=by kernel_rfl
theorem c_q03f {u0 u1 v0 v1:AV} {h h1:Heap} {P:Post} (hp:z0o h [u0,u1]=some ([v0,v1],h1)):z0c X z3C [u0,u1] h P=zkE (z0c X) X.gl v0 v1 h1 [] (finR [.t 4] false h.length P):=by rw[z0h x_q03f rfl hp rfl];exact e_q03f
theorem x_q03i:X.fn z3u=some zjj:=by kernel_rfl
theorem zsz {u0 u1 u2 v0 v1 v2:AV} {h h1:Heap} {P:Post} (hp:z0o h [u0,u1,u2]=some ([v0,v1,v2],h1)):z0c X z3u [u0,u1,u2] h P=zf2 (z0c X) X.gl v0 v1 v2 h1 [] (finR [.t 6] false h.length P):=by rw[z0h x_q03i rfl hp rfl];exact e_q03i
theorem x_q03h:X.fn z1k=some zji:=by kernel_rfl
theorem c_q03h {u0 u1 v0 v1:AV} {h h1:Heap} {P:Post} (hp:z0o h [u0,u1]=some ([v0,v1],h1)):z0c X z1k [u0,u1] h P=zf1 (z0c X) X.gl v0 v1 h1 [] (finR [.t 4] false h.length P):=by rw[z0h x_q03h rfl hp rfl];exact e_q03h
theorem x_q00u:X.fn z8c=some zeV:=by kernel_rfl
theorem c_q00u {u0 v0:AV} {h h1:Heap} {P:Post} (hp:z0o h [u0]=some ([v0],h1)):z0c X z8c [u0] h P=zfp (z0c X) X.gl z2E z50 v0 h1 [] (finR [.t 2] false h.length P):=by rw[z0h x_q00u rfl hp rfl];exact e_q00u
theorem x_q00s:X.fn z5m=some zeU:=by kernel_rfl
theorem c_q00s {u0 u1 v0 v1:AV} {h h1:Heap} {P:Post} (hp:z0o h [u0,u1]=some ([v0,v1],h1)):z0c X z5m [u0,u1] h P=zbL (z0c X) X.gl v0 v1 h1 [] (finR [.t 4] false h.length P):=by rw[z0h x_q00s rfl hp rfl];exact e_q00s
theorem x_q091:X.fn z5p=some zfe:=by kernel_rfl
theorem c_q091 {u0 u1 v0 v1:AV} {h h1:Heap} {P:Post} (hp:z0o h [u0,u1]=some ([v0,v1],h1)):z0c X z5p [u0,u1] h P=zkV (z0c X) X.gl v0 v1 h1 [] (finR [.t 4] false h.length P):=by rw[z0h x_q091 rfl hp rfl];exact e_q091
theorem x_q03b:X.fn z9B=some zje:=by kernel_rfl
theorem c_q03b {u0 u1 u2 v0 v1 v2:AV} {h h1:Heap} {P:Post} (hp:z0o h [u0,u1,u2]=some ([v0,v1,v2],h1)):z0c X z9B [u0,u1,u2] h P=zfy (z0c X) X.gl v0 v1 v2 h1 [] (finR [.t 6] false h.length P):=by rw[z0h x_q03b rfl hp rfl];exact e_q03b
theorem x_q08y:X.fn z8o=some zjM:=by kernel_rfl
theorem c_q08y {u0 u1 v0 v1:AV} {h h1:Heap} {P:Post} (hp:z0o h [u0,u1]=some ([v0,v1],h1)):z0c X z8o [u0,u1] h P=zkU (z0c X) X.gl v0 v1 h1 [] (finR [.t 4,.t 5] false h.length P):=by rw[z0h x_q08y rfl hp rfl];exact e_q08y
theorem x_q08v:X.fn z8n=some zjK:=by kernel_rfl
theorem c_q08v {u0 v0:AV} {h h1:Heap} {P:Post} (hp:z0o h [u0]=some ([v0],h1)):z0c X z8n [u0] h P=zkT (z0c X) X.gl v0 h1 [] (finR [.t 2] false h.length P):=by rw[z0h x_q08v rfl hp rfl];exact e_q08v
theorem x_q08w:X.fn z9W=some zjL:=by kernel_rfl
theorem c_q08w {u0 v0:AV} {h h1:Heap} {P:Post} (hp:z0o h [u0]=some ([v0],h1)):z0c X z9W [u0] h P=zfG (z0c X) X.gl v0 h1 [] (finR [.t 2] false h.length P):=by rw[z0h x_q08w rfl hp rfl];exact e_q08w
theorem x_q049:X.fn z9I=some zjy:=by kernel_rfl
theorem c_q049 {u0 v0:AV} {h h1:Heap} {P:Post} (hp:z0o h [u0]=some ([v0],h1)):z0c X z9I [u0] h P=zf6 (z0c X) X.gl z2O z5H v0 h1 [] (finR [.t 2] false h.length P):=by rw[z0h x_q049 rfl hp rfl];exact e_q049
theorem x_q001:X.fn z94=some ziO:=by kernel_rfl
theorem c_q001 {u0 u1 v0 v1:AV} {h h1:Heap} {P:Post} (hp:z0o h [u0,u1]=some ([v0,v1],h1)):z0c X z94 [u0,u1] h P=zfm (z0c X) X.gl z2B z5w v0 v1 h1 [] (finR [.t 4,.t 5] false h.length P):=by rw[z0h x_q001 rfl hp rfl];exact e_q001
theorem x_q045:X.fn z9G=some zjv:=by kernel_rfl
theorem c_q045 {u0 u1 v0 v1:AV} {h h1:Heap} {P:Post} (hp:z0o h [u0,u1]=some ([v0,v1],h1)):z0c X z9G [u0,u1] h P=zf5 (z0c X) X.gl z2N z5G v0 v1 h1 [] (finR [.t 4,.t 5] false h.length P):=by rw[z0h x_q045 rfl hp rfl];exact e_q045
theorem x_q04p:X.fn z9K=some zj0:=by kernel_rfl
theorem c_q04p {u0 v0:AV} {h h1:Heap} {P:Post} (hp:z0o h [u0]=some ([v0],h1)):z0c X z9K [u0] h P=zkL (z0c X) X.gl v0 h1 [] (finR [.t 2,.t 3] false h.length P):=by rw[z0h x_q04p rfl hp rfl];exact e_q04p
theorem x_q048:X.fn z6G=some zjx:=by kernel_rfl
theorem c_q048 {u0 u1 v0 v1:AV} {h h1:Heap} {P:Post} (hp:z0o h [u0,u1]=some ([v0,v1],h1)):z0c X z6G [u0,u1] h P=z92 (z0c X) X.gl v0 v1 h1 [] (finR [.t 4,.t 5] false h.length P):=by rw[z0h x_q048 rfl hp rfl];exact e_q048
theorem x_q04a:X.fn z9J=some zjz:=by kernel_rfl
theorem c_q04a {u0 u1 v0 v1:AV} {h h1:Heap} {P:Post} (hp:z0o h [u0,u1]=some ([v0,v1],h1)):z0c X z9J [u0,u1] h P=zf7 (z0c X) X.gl z2P z5I v0 v1 h1 [] (finR [.t 4,.t 5] false h.length P):=by rw[z0h x_q04a rfl hp rfl];exact e_q04a
theorem x_q005:X.fn z1Y=some zeR:=by kernel_rfl
theorem c_q005 {u0 v0:AV} {h h1:Heap} {P:Post} (hp:z0o h [u0]=some ([v0],h1)):z0c X z1Y [u0] h P=z65 (z0c X) X.gl z2C z5x v0 h1 [] (finR [.t 2] false h.length P):=by rw[z0h x_q005 rfl hp rfl];exact e_q005
theorem x_q062:X.fn z9Q=some zjA:=by kernel_rfl
theorem c_q062 {u0 u1 h P}:z0c X z9Q [u0,u1] h P=zkQ (z0c X) X.gl u0 u1 h [] (finR [] false h.length P):=by rw[z3f x_q062 rfl rfl];exact e_q062
theorem x_q041:X.fn z43=some zjt:=by kernel_rfl
theorem zs0 {u0 u1 v0 v1:AV} {h h1:Heap} {P:Post} (hp:z0o h [u0,u1]=some ([v0,v1],h1)):z0c X z43 [u0,u1] h P=z67 (z0c X) X.gl v0 v1 h1 [] (finR [.t 4] false h.length P):=by rw[z0h x_q041 rfl hp rfl];exact e_q041
theorem ztc:X.fn z3E=some zb1:=by kernel_rfl
theorem c_q07q {u0 v0:AV} {h h1:Heap} {P:Post} (hp:z0o h [u0]=some ([v0],h1)):z0c X z3E [u0] h P=zc6 (z0c X) X.gl z2W z5O v0 h1 [] (finR [.t 2] false h.length P):=by rw[z0h ztc rfl hp rfl];exact e_q07q
theorem x_q08d:X.fn z9U=some zjH:=by kernel_rfl
theorem c_q08d {u0 v0:AV} {h h1:Heap} {P:Post} (hp:z0o h [u0]=some ([v0],h1)):z0c X z9U [u0] h P=zcE (z0c X) X.gl v0 h1 [] (finR [.t 2] false h.length P):=by rw[z0h x_q08d rfl hp rfl];exact e_q08d
theorem x_q03z:X.fn z9F=some zjr:=by kernel_rfl
theorem c_q03z {u0 v0:AV} {h h1:Heap} {P:Post} (hp:z0o h [u0]=some ([v0],h1)):z0c X z9F [u0] h P=z66 (z0c X) X.gl z5E v0 h1 [] (finR [.t 2] false h.length P):=by rw[z0h x_q03z rfl hp rfl];exact e_q03z
theorem x_q05h:X.fn z9N=some zj7:=by kernel_rfl
theorem c_q05h {u0 u1 h P}:z0c X z9N [u0,u1] h P=zkO (z0c X) X.gl u0 u1 h [] (finR [.t 4] false h.length P):=by rw[z3f x_q05h rfl rfl];exact e_q05h
theorem x_q03w:X.fn z8g=some zjo:=by kernel_rfl
theorem c_q03w {u0 u1 v0 v1:AV} {h h1:Heap} {P:Post} (hp:z0o h [u0,u1]=some ([v0,v1],h1)):z0c X z8g [u0,u1] h P=zkI (z0c X) X.gl v0 v1 h1 [] (finR [.t 3] false h.length P):=by rw[z0h x_q03w rfl hp rfl];exact e_q03w
theorem x_q056:X.fn z9M=some zj5:=by kernel_rfl
theorem c_q056 {u0 u1 v0 v1:AV} {h h1:Heap} {P:Post} (hp:z0o h [u0,u1]=some ([v0,v1],h1)):z0c X z9M [u0,u1] h P=zf9 (z0c X) X.gl v0 v1 h1 [] (finR [.t 4] false h.length P):=by rw[z0h x_q056 rfl hp rfl];exact e_q056
theorem x_q04s:X.fn z5o=some zj2:=by kernel_rfl
theorem c_q04s {h h1:Heap} {P:Post} (hp:z0o h []=some ([],h1)):z0c X z5o [] h P=zkM (z0c X) X.gl  h1 [] (finR [.t 0] false h.length P):=by rw[z0h x_q04s rfl hp rfl];exact e_q04s
theorem x_q07v:X.fn z8i=some zjE:=by kernel_rfl
theorem c_q07v {u0 u1 v0 v1:AV} {h h1:Heap} {P:Post} (hp:z0o h [u0,u1]=some ([v0,v1],h1)):z0c X z8i [u0,u1] h P=zkR (z0c X) X.gl v0 v1 h1 [] (finR [.t 3] false h.length P):=by rw[z0h x_q07v rfl hp rfl];exact e_q07v
theorem x_q08f:X.fn z9V=some zjI:=by kernel_rfl
theorem c_q08f {u0 v0:AV} {h h1:Heap} {P:Post} (hp:z0o h [u0]=some ([v0],h1)):z0c X z9V [u0] h P=z2p (z0c X) X.gl z5R v0 h1 [] (finR [.cell 2 (some 8),.t 3] false h.length P):=by rw[z0h x_q08f rfl hp rfl];exact e_q08f
theorem x_q03y:X.fn z8h=some zjq:=by kernel_rfl
theorem c_q03y {u0 u1 v0 v1:AV} {h h1:Heap} {P:Post} (hp:z0o h [u0,u1]=some ([v0,v1],h1)):z0c X z8h [u0,u1] h P=zkJ (z0c X) X.gl v0 v1 h1 [] (finR [.t 3] false h.length P):=by rw[z0h x_q03y rfl hp rfl];exact e_q03y
theorem x_q04r:X.fn z9L=some zj1:=by kernel_rfl
theorem c_q04r {u0 v0:AV} {h h1:Heap} {P:Post} (hp:z0o h [u0]=some ([v0],h1)):z0c X z9L [u0] h P=z38 (z0c X) X.gl v0 h1 [] (finR [.cell 2 (some 8),.t 3] false h.length P):=by rw[z0h x_q04r rfl hp rfl];exact e_q04r
theorem x_q046:X.fn z9H=some zjw:=by kernel_rfl
theorem c_q046 {u0 v0:AV} {h h1:Heap} {P:Post} (hp:z0o h [u0]=some ([v0],h1)):z0c X z9H [u0] h P=zkK (z0c X) X.gl v0 h1 [] (finR [.t 2] false h.length P):=by rw[z0h x_q046 rfl hp rfl];exact e_q046
theorem x_q043:X.fn z3v=some zju:=by kernel_rfl
theorem c_q043 {u0 v0:AV} {h h1:Heap} {P:Post} (hp:z0o h [u0]=some ([v0],h1)):z0c X z3v [u0] h P=z91 (z0c X) X.gl v0 h1 [] (finR [.t 2] false h.length P):=by rw[z0h x_q043 rfl hp rfl];exact e_q043
theorem x_q05k:X.fn z45=some zeZ:=by kernel_rfl
theorem c_q05k {u0 u1 h P}:z0c X z45 [u0,u1] h P=zkP (z0c X) X.gl u0 u1 h [] (finR [.t 4] false h.length P):=by rw[z3f x_q05k rfl rfl];exact e_q05k
theorem x_q057:X.fn z6H=some zj6:=by kernel_rfl
theorem c_q057 {u0 v0:AV} {h h1:Heap} {P:Post} (hp:z0o h [u0]=some ([v0],h1)):z0c X z6H [u0] h P=zct (z0c X) X.gl v0 h1 [] (finR [.t 2] false h.length P):=by rw[z0h x_q057 rfl hp rfl];exact e_q057
theorem x_q039:X.fn z42=some zjd:=by kernel_rfl
theorem c_q039 {u0 u1 v0 v1:AV} {h h1:Heap} {P:Post} (hp:z0o h [u0,u1]=some ([v0,v1],h1)):z0c X z42 [u0,u1] h P=zfx (z0c X) X.gl z57 v0 v1 h1 [] (finR [.t 4] false h.length P):=by rw[z0h x_q039 rfl hp rfl];exact e_q039
theorem x_q00v:X.fn z5n=some zeW:=by kernel_rfl
theorem c_q00v {u0 v0:AV} {h h1:Heap} {P:Post} (hp:z0o h [u0]=some ([v0],h1)):z0c X z5n [u0] h P=zkA (z0c X) X.gl v0 h1 [] (finR [.t 2] false h.length P):=by rw[z0h x_q00v rfl hp rfl];exact e_q00v
theorem x_q01b:X.fn z8d=some zeX:=by kernel_rfl
theorem c_q01b {u0 u1 v0 v1:AV} {h h1:Heap} {P:Post} (hp:z0o h [u0,u1]=some ([v0,v1],h1)):z0c X z8d [u0,u1] h P=zkB (z0c X) X.gl v0 v1 h1 [] (finR [.t 4] false h.length P):=by rw[z0h x_q01b rfl hp rfl];exact e_q01b
theorem x_q050:X.fn z2c=some zj3:=by kernel_rfl
theorem c_q050 {u0 u1 u2 v0 v1 v2:AV} {h h1:Heap} {P:Post} (hp:z0o h [u0,u1,u2]=some ([v0,v1,v2],h1)):z0c X z2c [u0,u1,u2] h P=zkN (z0c X) X.gl v0 v1 v2 h1 [] (finR [.t 6] false h.length P):=by rw[z0h x_q050 rfl hp rfl];exact e_q050
theorem x_q08z:X.fn z9X=some zjN:=by kernel_rfl
theorem c_q08z {u0 v0:AV} {h h1:Heap} {P:Post} (hp:z0o h [u0]=some ([v0],h1)):z0c X z9X [u0] h P=zfH (z0c X) X.gl v0 h1 [] (finR [] false h.length P):=by rw[z0h x_q08z rfl hp rfl];exact e_q08z
theorem x_q00a:X.fn z1Z=some zeT:=by kernel_rfl
theorem c_q00a {u0 u1 u2 v0 v1 v2:AV} {h h1:Heap} {P:Post} (hp:z0o h [u0,u1,u2]=some ([v0,v1,v2],h1)):z0c X z1Z [u0,u1,u2] h P=zk9 (z0c X) X.gl v0 v1 v2 h1 [] (finR [.t 6] false h.length P):=by rw[z0h x_q00a rfl hp rfl];exact e_q00a
theorem x_q006:X.fn z95=some ziP:=by kernel_rfl
theorem c_q006 {u0 v0:AV} {h h1:Heap} {P:Post} (hp:z0o h [u0]=some ([v0],h1)):z0c X z95 [u0] h P=zfn (z0c X) X.gl v0 h1 [] (finR [.t 2,.t 3] false h.length P):=by rw[z0h x_q006 rfl hp rfl];exact e_q006
theorem x_q09a:X.fn z47=some zjS:=by kernel_rfl
theorem c_q09a {u0 u1 v0 v1:AV} {h h1:Heap} {P:Post} (hp:z0o h [u0,u1]=some ([v0,v1],h1)):z0c X z47 [u0,u1] h P=zkZ (z0c X) X.gl v0 v1 h1 [] (finR [.t 4] false h.length P):=by rw[z0h x_q09a rfl hp rfl];exact e_q09a
theorem x_q008:X.fn z6C=some ziQ:=by kernel_rfl
theorem c_q008 {u0 u1 v0 v1:AV} {h h1:Heap} {P:Post} (hp:z0o h [u0,u1]=some ([v0,v1],h1)):z0c X z6C [u0,u1] h P=z5b (z0c X) X.gl z2g z5y v0 v1 h1 [] (finR [.t 4,.t 5] false h.length P):=by rw[z0h x_q008 rfl hp rfl];exact e_q008
theorem x_q009:X.fn z96=some ziR:=by kernel_rfl
theorem c_q009 {u0 u1 v0 v1:AV} {h h1:Heap} {P:Post} (hp:z0o h [u0,u1]=some ([v0,v1],h1)):z0c X z96 [u0,u1] h P=zfo (z0c X) X.gl z2D z5z v0 v1 h1 [] (finR [.t 4,.t 5] false h.length P):=by rw[z0h x_q009 rfl hp rfl];exact e_q009
theorem x_q094:X.fn z8p=some zjO:=by kernel_rfl
theorem zs1 {u0 u1 v0 v1:AV} {h h1:Heap} {P:Post} (hp:z0o h [u0,u1]=some ([v0,v1],h1)):z0c X z8p [u0,u1] h P=zfI (z0c X) X.gl v0 v1 h1 [] (finR [.t 4,.t 5,.t 6] false h.length P):=by rw[z0h x_q094 rfl hp rfl];exact e_q094
theorem x_q09c:X.fn z6L=some zjT:=by kernel_rfl
theorem c_q09c {u0 u1 v0 v1:AV} {h h1:Heap} {P:Post} (hp:z0o h [u0,u1]=some ([v0,v1],h1)):z0c X z6L [u0,u1] h P=zla (z0c X) X.gl v0 v1 h1 [] (finR [.t 4] false h.length P):=by rw[z0h x_q09c rfl hp rfl];exact e_q09c
theorem x_q051:X.fn z44=some zj4:=by kernel_rfl
theorem c_q051 {u0 u1 v0 v1:AV} {h h1:Heap} {P:Post} (hp:z0o h [u0,u1]=some ([v0,v1],h1)):z0c X z44 [u0,u1] h P=zf8 (z0c X) X.gl z2Q z5J v0 v1 h1 [] (finR [.t 4] false h.length P):=by rw[z0h x_q051 rfl hp rfl];exact e_q051
theorem x_q07g:X.fn z9R=some zjC:=by kernel_rfl
theorem c_q07g {u0 u1 u2 h P}:z0c X z9R [u0,u1,u2] h P=zfD (z0c X) X.gl z2V z5N u0 u1 u2 h [] (finR [] false h.length P):=by rw[z3f x_q07g rfl rfl];exact e_q07g
theorem x_q082:X.fn z8k=some zfc:=by kernel_rfl
theorem c_q082 {u0 v0:AV} {h h1:Heap} {P:Post} (hp:z0o h [u0]=some ([v0],h1)):z0c X z8k [u0] h P=z5e (z0c X) X.gl v0 h1 [] (finR [.t 2] false h.length P):=by rw[z0h x_q082 rfl hp rfl];exact e_q082
theorem x_q080:X.fn z8j=some zfb:=by kernel_rfl
theorem c_q080 {u0 u1 v0 v1:AV} {h h1:Heap} {P:Post} (hp:z0o h [u0,u1]=some ([v0,v1],h1)):z0c X z8j [u0,u1] h P=zkS (z0c X) X.gl v0 v1 h1 [] (finR [.t 4] false h.length P):=by rw[z0h x_q080 rfl hp rfl];exact e_q080
theorem x_q08i:X.fn z8m=some zfd:=by kernel_rfl
theorem c_q08i {u0 v0:AV} {h h1:Heap} {P:Post} (hp:z0o h [u0]=some ([v0],h1)):z0c X z8m [u0] h P=zfF (z0c X) X.gl z2Y z5S v0 h1 [] (finR [.t 2] false h.length P):=by rw[z0h x_q08i rfl hp rfl];exact e_q08i
theorem x_q08k:X.fn z6J=some zjJ:=by kernel_rfl
theorem c_q08k {u0 v0:AV} {h h1:Heap} {P:Post} (hp:z0o h [u0]=some ([v0],h1)):z0c X z6J [u0] h P=z5f (z0c X) X.gl v0 h1 [] (finR [.t 2] false h.length P):=by rw[z0h x_q08k rfl hp rfl];exact e_q08k
theorem x_q05u:X.fn z9P=some zj9:=by kernel_rfl
theorem c_q05u {u0 u1 h P}:z0c X z9P [u0,u1] h P=zfA (z0c X) X.gl z2S z5L u0 u1 h [] (finR [.t 4] false h.length P):=by rw[z3f x_q05u rfl rfl];exact e_q05u
theorem x_q08c:X.fn z8l=some zjG:=by kernel_rfl
theorem c_q08c {u0 v0:AV} {h h1:Heap} {P:Post} (hp:z0o h [u0]=some ([v0],h1)):z0c X z8l [u0] h P=zfE (z0c X) X.gl z2X z5Q v0 h1 [] (finR [.t 2] false h.length P):=by rw[z0h x_q08c rfl hp rfl];exact e_q08c
theorem x_q05z:X.fn z3w=some zfa:=by kernel_rfl
theorem c_q05z {u0 u1 h P}:z0c X z3w [u0,u1] h P=zfB (z0c X) X.gl z2T z5M u0 u1 h [] (finR [.t 4] false h.length P):=by rw[z3f x_q05z rfl rfl];exact e_q05z
theorem x_q095:X.fn z9Y=some zjP:=by kernel_rfl
theorem c_q095 {u0 u1 v0 v1:AV} {h h1:Heap} {P:Post} (hp:z0o h [u0,u1]=some ([v0,v1],h1)):z0c X z9Y [u0,u1] h P=zkW (z0c X) X.gl v0 v1 h1 [] (finR [.t 4,.t 5] false h.length P):=by rw[z0h x_q095 rfl hp rfl];exact e_q095
theorem x_q09f:X.fn zab=some zjV:=by kernel_rfl
theorem c_q09f {u0 u1 u2 u3 v0 v1 v2 v3:AV} {h h1:Heap} {P:Post} (hp:z0o h [u0,u1,u2,u3]=some ([v0,v1,v2,v3],h1)):z0c X zab [u0,u1,u2,u3] h P=zfJ (z0c X) X.gl z5U v0 v1 v2 v3 h1 [] (finR [.t 8] false h.length P):=by rw[z0h x_q09f rfl hp rfl];exact e_q09f
theorem x_q007:X.fn z6B=some zeS:=by kernel_rfl
theorem c_q007 {u0 v0:AV} {h h1:Heap} {P:Post} (hp:z0o h [u0]=some ([v0],h1)):z0c X z6B [u0] h P=zk8 (z0c X) X.gl v0 h1 [] (finR [.t 2] false h.length P):=by rw[z0h x_q007 rfl hp rfl];exact e_q007
theorem x_q01u:X.fn z8e=some ziV:=by kernel_rfl
theorem zsx {u0 u1 v0 v1:AV} {h h1:Heap} {P:Post} (hp:z0o h [u0,u1]=some ([v0,v1],h1)):z0c X z8e [u0,u1] h P=zfq (z0c X) X.gl v0 v1 h1 [] (finR [.t 4,.t 5,.t 6] false h.length P):=by rw[z0h x_q01u rfl hp rfl];exact e_q01u
theorem x_q020:X.fn z9A=some zjb:=by kernel_rfl
theorem c_q020 {u0 u1 v0 v1:AV} {h h1:Heap} {P:Post} (hp:z0o h [u0,u1]=some ([v0,v1],h1)):z0c X z9A [u0,u1] h P=zfw (z0c X) X.gl v0 v1 h1 [] (finR [.t 4] false h.length P):=by rw[z0h x_q020 rfl hp rfl];exact e_q020
theorem x_q097:X.fn zaa=some zjR:=by kernel_rfl
theorem c_q097 {u0 u1 v0 v1:AV} {h h1:Heap} {P:Post} (hp:z0o h [u0,u1]=some ([v0,v1],h1)):z0c X zaa [u0,u1] h P=zkY (z0c X) X.gl v0 v1 h1 [] (finR [.t 4] false h.length P):=by rw[z0h x_q097 rfl hp rfl];exact e_q097
theorem x_q06g:X.fn z6I=some zjB:=by kernel_rfl
theorem c_q06g {u0 u1 u2 u3 h P}:z0c X z6I [u0,u1,u2,u3] h P=zfC (z0c X) X.gl z2U u0 u1 u2 u3 h [] (finR [] false h.length P):=by rw[z3f x_q06g rfl rfl];exact e_q06g
theorem x_q01v:X.fn z97=some ziW:=by kernel_rfl
theorem c_q01v {u0 u1 v0 v1:AV} {h h1:Heap} {P:Post} (hp:z0o h [u0,u1]=some ([v0,v1],h1)):z0c X z97 [u0,u1] h P=zfr (z0c X) X.gl v0 v1 h1 [] (finR [.t 4,.t 5] false h.length P):=by rw[z0h x_q01v rfl hp rfl];exact e_q01v
theorem x_q09e:X.fn zdf=some zjU:=by kernel_rfl
theorem c_q09e {u0 u1 v0 v1:AV} {h h1:Heap} {P:Post} (hp:z0o h [u0,u1]=some ([v0,v1],h1)):z0c X zdf [u0,u1] h P=zlb (z0c X) X.gl z5T v0 v1 h1 [] (finR [.t 4] false h.length P):=by rw[z0h x_q09e rfl hp rfl];exact e_q09e
theorem x_q096:X.fn z9Z=some zjQ:=by kernel_rfl
theorem c_q096 {u0 u1 v0 v1:AV} {h h1:Heap} {P:Post} (hp:z0o h [u0,u1]=some ([v0,v1],h1)):z0c X z9Z [u0,u1] h P=zkX (z0c X) X.gl v0 v1 h1 [] (finR [.t 4] false h.length P):=by rw[z0h x_q096 rfl hp rfl];exact e_q096
theorem x_q01y:X.fn z6D=some ziZ:=by kernel_rfl
theorem c_q01y {u0 u1 v0 v1:AV} {h h1:Heap} {P:Post} (hp:z0o h [u0,u1]=some ([v0,v1],h1)):z0c X z6D [u0,u1] h P=zfu (z0c X) X.gl z2H z55 v0 v1 h1 [] (finR [.t 4] false h.length P):=by rw[z0h x_q01y rfl hp rfl];exact e_q01y
theorem x_q01w:X.fn z98=some ziX:=by kernel_rfl
theorem c_q01w {u0 u1 v0 v1:AV} {h h1:Heap} {P:Post} (hp:z0o h [u0,u1]=some ([v0,v1],h1)):z0c X z98 [u0,u1] h P=zfs (z0c X) X.gl v0 v1 h1 [] (finR [.t 4] false h.length P):=by rw[z0h x_q01w rfl hp rfl];exact e_q01w
theorem x_q01z:X.fn z3B=some zja:=by kernel_rfl
theorem zsy {u0 u1 v0 v1:AV} {h h1:Heap} {P:Post} (hp:z0o h [u0,u1]=some ([v0,v1],h1)):z0c X z3B [u0,u1] h P=zfv (z0c X) X.gl v0 v1 h1 [] (finR [.t 4] false h.length P):=by rw[z0h x_q01z rfl hp rfl];exact e_q01z
theorem x_q01x:X.fn z99=some ziY:=by kernel_rfl
theorem c_q01x {u0 u1 v0 v1:AV} {h h1:Heap} {P:Post} (hp:z0o h [u0,u1]=some ([v0,v1],h1)):z0c X z99 [u0,u1] h P=zft (z0c X) X.gl v0 v1 h1 [] (finR [.t 4] false h.length P):=by rw[z0h x_q01x rfl hp rfl];exact e_q01x
theorem x_q09u:X.fn zdg=some zjW:=by kernel_rfl
theorem c_q09u {u0 v0:AV} {h h1:Heap} {P:Post} (hp:z0o h [u0]=some ([v0],h1)):z0c X zdg [u0] h P=zs4 (z0c X) X.gl v0 h1 [] (finR [.t 2,.t 3] false h.length P):=by rw[z0h x_q09u rfl hp rfl];exact e_q09u
theorem x_q01c:X.fn zda=some ziS:=by kernel_rfl
theorem c_q01c {u0 v0:AV} {h h1:Heap} {P:Post} (hp:z0o h [u0]=some ([v0],h1)):z0c X zda [u0] h P=zs3 (z0c X) X.gl v0 h1 [] (finR [.t 2] false h.length P):=by rw[z0h x_q01c rfl hp rfl];exact e_q01c
theorem x_q01d:X.fn zdb=some ziT:=by kernel_rfl
theorem c_q01d {u0 u1 v0 v1:AV} {h h1:Heap} {P:Post} (hp:z0o h [u0,u1]=some ([v0,v1],h1)):z0c X zdb [u0,u1] h P=zkC (z0c X) X.gl z2F z52 v0 v1 h1 [] (finR [.t 4] false h.length P):=by rw[z0h x_q01d rfl hp rfl];exact e_q01d
theorem x_q09y:X.fn zdh=some zjX:=by kernel_rfl
theorem c_q09y {u0 v0:AV} {h h1:Heap} {P:Post} (hp:z0o h [u0]=some ([v0],h1)):z0c X zdh [u0] h P=zs5 (z0c X) X.gl v0 h1 [] (finR [.t 2,.t 3] false h.length P):=by rw[z0h x_q09y rfl hp rfl];exact e_q09y
theorem x_q01e:X.fn zdc=some ziU:=by kernel_rfl
theorem c_q01e {u0 v0:AV} {h h1:Heap} {P:Post} (hp:z0o h [u0]=some ([v0],h1)):z0c X zdc [u0] h P=zkD (z0c X) X.gl z2G z54 v0 h1 [] (finR [.t 2,.t 3] false h.length P):=by rw[z0h x_q01e rfl hp rfl];exact e_q01e
attribute [go_sem] z5i z36 zlI zlJ znq zcf zcg z7R zlC z27 z7S zlD zlE zlF zno zbZ zca z1v z1W zcb z7C zcc zlG zlH znp zcd zce zmn z7Y zn7 zcB z7M zlK zlL zlM z7T znr zns zci zcj
attribute [go_sem] zck z5d zlO zlP zlQ z7U znt zcm zcn z7D z7E zlW zlX zny zcv zcw zlw zlx zni zbM zbN zlS z7W znv zcp z7G zlr z7P zne zbG z74 zlR z7V znu zco z7F zlT z7X znw zcq
attribute [go_sem] z7H zls zlt znf zbH zbI zml zmm zn6 zc7 zc8 zlN z0O zmq zcF zlB zbY zlu z5h zng zbJ z5c zlv z7Q znh zbK z77 zlU zlV znx zcr zcs zmf zmg zmh zmi zmj zmk zn3 zn4
attribute [go_sem] zn5 zc3 zc4 zc5 z7J z7K z7L zmr zms zn9 zcG zcH zlY zlZ znz zcx zcy zmo zmp zn8 zcC zcD zma zmb zn0 zcz zc0 zmx zmy z7Z znB zcK zcL z5g zmc zmd zme zn1 zn2 zc1
attribute [go_sem] zc2 z7I zmt zmu zmv zmw znA zcI zcJ z7N z7O zl8 zl9 zlA znn zbV z7B zbW zly zlz zl0 zl1 znj znk zbO zbP zbQ z78 zl2 zl3 zl4 zl5 zl6 zl7 znl znm zbR zbS zbT z79
attribute [go_sem] zbU z7A
end Go.Am
end
section
/- The stream of numbers out of which the laws draw. -/
open Go
namespace Go.Am
abbrev eI (n:Int):PV:=.int .i64 n
abbrev AL (l:List Int):AV:=.p (.sl none (l.map eI))
abbrev strm (L:List Int) (a:Int):Obj:=.box [AL L,AI a]
def zb7 (x n:Int):Int:=if n<1 then 0 else if x.tmod n<0 then IntKind.i64.wrap (x.tmod n+n) else x.tmod n
theorem zoM (x n:Int) (h:Heap) (K:Post):z0c X z42 [AI x,AI n] h K=K (AI (zb7 x n)) h []:=by
 refine rule ?_
 rw[c_q039 rfl]
 simp only[zfx,go_sem]
 unfold zb7
 by_cases h1:n<1
 ·simp only[h1,if_true]
 ·simp only[h1,if_false,show ¬ n=0 by omega]
  split <;> rfl
theorem zpL (x n:Int) (h1:1≤n) (h2:n≤4611686018427387904):0≤zb7 x n∧zb7 x n<n:=by
 unfold zb7
 rw[if_neg (by omega)]
 have:=Int.tmod_lt_of_pos x (show 0<n by omega)
 have h3 : -n<x.tmod n:=by
  have:=Int.lt_tmod_of_pos x (show 0<n by omega)
  exact this
 split
 ·rw[z0l _ (by omega) (by omega)];omega
 ·omega
def z10 (L:List Int) (a n:Int):Int:=
 if L.length=0 then zb7 (IntKind.i64.wrap ((a+1)*7919)) n
 else zb7 (IntKind.i64.wrap (zb7 (L.getD (a.tmod L.length).toNat 0) 1073741824+IntKind.i64.wrap (IntKind.i64.wrap (a.tdiv L.length)*IntKind.i64.wrap (7919+a.tmod L.length)))) n
theorem z3l (L:List Int) (a n:Int) (h1:1≤n) (h2:n≤4611686018427387904):0≤z10 L a n∧z10 L a n<n:=by
 unfold z10
 split <;> exact zpL _ _ h1 h2
theorem z4u {h:Heap} {id:Nat} {o':Obj} (hid:id<h.length):(h.set id o')[id]?=some o':=by simp [hid]
theorem z3G {h:Heap} {id:Nat} {o:Obj} (hh:h[id]?=some o):id<h.length:=(List.getElem?_eq_some_iff.1 hh).1
def posN (n:Nat) (a:Int):Prop:=0≤a∧a+n<4611686018427387904
theorem z0G {n m:Nat} {a b:Int} (H:posN m a) (h:a≤b) (hn:b+n≤a+m):posN n b:=by unfold posN at *;omega
theorem z8K {a:Int} (H:posN 14 a):posN 0 (a)∧posN 0 (a+1)∧posN 0 (a+1+1)∧posN 0 (a+1+1+1)∧posN 0 (a+1+1+1+1)∧posN 0 (a+1+1+1+1+1)∧posN 0 (a+1+1+1+1+1+1)∧posN 0 (a+1+1+1+1+1+1+1)∧posN 0 (a+1+1+1+1+1+1+1+1)∧posN 0 (a+1+1+1+1+1+1+1+1+1)∧posN 0 (a+1+1+1+1+1+1+1+1+1+1)∧posN 0 (a+1+1+1+1+1+1+1+1+1+1+1)∧posN 0 (a+1+1+1+1+1+1+1+1+1+1+1+1)∧posN 0 (a+1+1+1+1+1+1+1+1+1+1+1+1+1)∧posN 0 (a+1+1+1+1+1+1+1+1+1+1+1+1+1+1):=by
 unfold posN at *;omega
def Gen (f:Nat) (args:List AV) (L:List Int) (a a2:Int) (v:AV):Prop:=∀ (h:Heap) (id:Nat) (K:Post),h[id]?=some (strm L a)→z0c X f (.ref id 0::args) h K=K v (h.set id (strm L a2)) []
section
variable {f:Nat} {args:List AV} {L:List Int} {a a2:Int} {v:AV} {h l:Heap} {id:Nat} {K:Post}
theorem Gen.set (g:Gen f args L a a2 v) (hid:id<h.length):z0c X f (.ref id 0::args) (h.set id (strm L a)) K=K v (h.set id (strm L a2)) []:=by
 rw[g _ _ _ (z4u hid),List.set_set]
theorem Gen.app (g:Gen f args L a a2 v) (hid:id<h.length):z0c X f (.ref id 0::args) (h.set id (strm L a)++l) K=K v (h.set id (strm L a2)++l) []:=by
 rw[g _ _ _ (by rw[zmT (by simpa using hid)];exact z4u hid),zoY (by simpa using hid),List.set_set]
theorem Gen.hd (g:Gen f args L a a2 v):z0c X f (.ref 0 0::args) (strm L a::l) K=K v (strm L a2::l) []:=by
 rw[g _ _ _ rfl];rfl
theorem Gen.of (H:∀ (h:Heap) (id:Nat),id<h.length→z0c X f (.ref id 0::args) (h.set id (strm L a)) fun v1 h1 x1=>v1=v∧h1=h.set id (strm L a2)∧x1=[]):Gen f args L a a2 v:=by
 intro h id K hh
 have hid:=z3G hh
 have:h.set id (strm L a)=h:=by
  apply List.ext_getElem?
  intro i
  rw[List.getElem?_set]
  split
  ·rename_i e;subst e;rw[hh]
  ·rfl
 have k:=H h id hid
 rw[this] at k
 exact rule k
end
def GenE (f:Nat) (args:List AV) (L:List Int) (a:Int) (Q:AV→Int→Prop):Prop:=∀ (h:Heap) (id:Nat),h[id]?=some (strm L a)→∃ v a2,Q v a2∧∀ K:Post,z0c X f (.ref id 0::args) h K=K v (h.set id (strm L a2)) []
section
variable {f:Nat} {args:List AV} {L:List Int} {a:Int} {Q:AV→Int→Prop}
theorem GenE.set (g:GenE f args L a Q) {h:Heap} {id:Nat} (hid:id<h.length):∃ v a2,Q v a2∧∀ K:Post,z0c X f (.ref id 0::args) (h.set id (strm L a)) K=K v (h.set id (strm L a2)) []:=by
 obtain⟨v,a2,q,r⟩:=g _ _ (z4u hid)
 exact⟨v,a2,q,fun K=>by rw[r,List.set_set]⟩
theorem GenE.app (g:GenE f args L a Q) {h l:Heap} {id:Nat} (hid:id<h.length):∃ v a2,Q v a2∧∀ K:Post,z0c X f (.ref id 0::args) (h.set id (strm L a)++l) K=K v (h.set id (strm L a2)++l) []:=by
 obtain⟨v,a2,q,r⟩:=g (h.set id (strm L a)++l) id (by rw[zmT (by simpa using hid)];exact z4u hid)
 exact⟨v,a2,q,fun K=>by rw[r,zoY (by simpa using hid),List.set_set]⟩
theorem GenE.hd (g:GenE f args L a Q) {l:Heap}:∃ v a2,Q v a2∧∀ K:Post,z0c X f (.ref 0 0::args) (strm L a::l) K=K v (strm L a2::l) []:=g (strm L a::l) 0 rfl
theorem GenE.of (H:∀ (h:Heap) (id:Nat),id<h.length→z0c X f (.ref id 0::args) (h.set id (strm L a)) fun v1 h1 x1=>∃ a2,Q v1 a2∧h1=h.set id (strm L a2)∧x1=[]):GenE f args L a Q:=by
 intro h id hh
 have hid:=z3G hh
 have:h.set id (strm L a)=h:=by
  apply List.ext_getElem?
  intro i
  rw[List.getElem?_set]
  split
  ·rename_i e;subst e;rw[hh]
  ·rfl
 have k:=H h id hid
 rw[this] at k
 obtain⟨v,h',x,⟨a2,q,e1,e2⟩,r⟩:=z0c.one zeQ k
 subst e1;subst e2
 exact⟨v,a2,q,r⟩
end
def z33 (l:List Int) (L:List Int) (a:Int):Int:=l.getD (z10 L a l.length).toNat 0
theorem z8J {l L:List Int} {a:Int} (hl:0<l.length) (hl2:l.length<4611686018427387904):z33 l L a∈l:=by
 obtain⟨b1,b2⟩:=z3l L a l.length (by omega) (by omega)
 unfold z33
 have:(z10 L a l.length).toNat<l.length:=by omega
 simp only[List.getD,List.getElem?_eq_getElem this,Option.getD_some]
 exact List.getElem_mem _
def isI:PV→Bool
 | .int .i64 _=>true
 | _=>false
def unI:PV→Int
 | .int _ n=>n
 | _=>0
theorem zvx {xs:List PV} (h:xs.all isI=true):xs=(xs.map unI).map eI:=by
 induction xs with
 | nil=>rfl
 | cons x r ih=>
  simp only[List.all_cons,Bool.and_eq_true] at h
  simp only[List.map_cons]
  rw[← ih h.2]
  cases x with
  | int k n=>cases k <;> first | rfl | cases h.1
  | _=>cases h.1
set_option maxHeartbeats 400000 in
theorem zmQ (L:List Int) (a n:Int) (hp:posN 0 a):Gen z1k [AI n] L a (a+1) (AI (z10 L a n)):=by
 refine Gen.of fun h id hid=>?_
 rw[c_q03h rfl]
 obtain⟨h0,h1⟩:=hp
 have w1:IntKind.i64.wrap (a+1)=a+1:=z0l _ (by omega) (by omega)
 have w2:IntKind.i64.wrap (a+1-1)=a:=by rw[z0l _ (by omega) (by omega)];omega
 have hs:∀ o',(h.set id o')[id]?=some o':=fun o'=>z4u hid
 rcases Nat.eq_zero_or_pos L.length with hl | hl
 ·simp only[zf1,go_sem,hs,zoM,hl,w1]
  simp only[z10,hl,if_true]
 ·have e1:((L.length:Int)=0)=False:=by simp only[eq_iff_iff,iff_false];omega
  have e2:0≤a.tmod L.length:=Int.tmod_nonneg _ h0
  have e3:a.tmod L.length<L.length:=Int.tmod_lt_of_pos _ (by omega)
  have e4:=z8z (k:=.i64) e2
  have e5:(L.map eI)[(a.tmod L.length).toNat]?=some (eI (L.getD (a.tmod L.length).toNat 0)):=by
   rw[z1a eI (show (a.tmod L.length).toNat<L.length by omega)]
   simp [List.getD,show (a.tmod L.length).toNat<L.length by omega]
  simp only[zf1,go_sem,hs,zoM,e1,w1,w2,e4,e5]
  simp only[z10,show ¬ L.length=0 by omega,if_false]
section
variable {L:List Int} {a:Int} {h l:Heap} {id:Nat} {K:Post}
theorem z1S (hid:id<h.length) (hp:posN 0 a) (n:Int):z0c X z1k [.ref id 0,AI n] (h.set id (strm L a)) K=K (AI (z10 L a n)) (h.set id (strm L (a+1))) []:=(zmQ L a n hp).set hid
theorem zar (hid:id<h.length) (hp:posN 0 a) (n:Int):z0c X z1k [.ref id 0,AI n] (h.set id (strm L a)++l) K=K (AI (z10 L a n)) (h.set id (strm L (a+1))++l) []:=(zmQ L a n hp).app hid
theorem zd7 (hp:posN 0 a) (n:Int):z0c X z1k [.ref 0 0,AI n] (strm L a::l) K=K (AI (z10 L a n)) (strm L (a+1)::l) []:=(zmQ L a n hp).hd
theorem zmP (hp:posN 0 a) (n:Int):Gen z3C [AI n] L a (a+1) (AB (decide (z10 L a n=0))):=by
 refine Gen.of fun h id hid=>?_
 rw[c_q03f rfl]
 simp only[zkE,go_sem,z1S hid hp]
theorem zaq (hid:id<h.length) (hp:posN 0 a) (n:Int):z0c X z3C [.ref id 0,AI n] (h.set id (strm L a)) K=K (AB (decide (z10 L a n=0))) (h.set id (strm L (a+1))) []:=(zmP hp n).set hid
theorem zap (hid:id<h.length) (hp:posN 0 a) (n:Int):z0c X z3C [.ref id 0,AI n] (h.set id (strm L a)++l) K=K (AB (decide (z10 L a n=0))) (h.set id (strm L (a+1))++l) []:=(zmP hp n).app hid
theorem zd6 (hp:posN 0 a) (n:Int):z0c X z3C [.ref 0 0,AI n] (strm L a::l) K=K (AB (decide (z10 L a n=0))) (strm L (a+1)::l) []:=(zmP hp n).hd
theorem zmR (hp:posN 0 a) (xs:List PV) (hx:xs.all isI=true) (hl:0<xs.length) (hl2:xs.length<4611686018427387904) :
 Gen z2a [.p (.sl none xs)] L a (a+1) (AI (z33 (xs.map unI) L a)):=by
 refine Gen.of fun h id hid=>?_
 rw[c_q03j rfl]
 obtain⟨b1,b2⟩:=z3l L a xs.length (by omega) (by omega)
 have e4:=z8z (k:=.i64) b1
 have e5:xs[(z10 L a xs.length).toNat]?=some (eI (z33 (xs.map unI) L a)):=by
  have hm:=zvx hx
  generalize hq:xs.map unI=q at *
  subst hm
  simp only[List.length_map] at *
  rw[z1a eI (show (z10 L a q.length).toNat<q.length by omega)]
  simp [z33,List.getD,show (z10 L a q.length).toNat<q.length by omega]
 simp only[zkF,go_sem,z1S hid hp,e4,e5]
theorem zat (hid:id<h.length) (hp:posN 0 a) {xs:List PV} (hx:xs.all isI=true) (hl:0<xs.length) (hl2:xs.length<4611686018427387904) :
 z0c X z2a [.ref id 0,.p (.sl none xs)] (h.set id (strm L a)) K=K (AI (z33 (xs.map unI) L a)) (h.set id (strm L (a+1))) []:=(zmR hp xs hx hl hl2).set hid
theorem zas (hid:id<h.length) (hp:posN 0 a) {xs:List PV} (hx:xs.all isI=true) (hl:0<xs.length) (hl2:xs.length<4611686018427387904) :
 z0c X z2a [.ref id 0,.p (.sl none xs)] (h.set id (strm L a)++l) K=K (AI (z33 (xs.map unI) L a)) (h.set id (strm L (a+1))++l) []:=(zmR hp xs hx hl hl2).app hid
theorem zdB (hp:posN 0 a) {xs:List PV} (hx:xs.all isI=true) (hl:0<xs.length) (hl2:xs.length<4611686018427387904) :
 z0c X z2a [.ref 0 0,.p (.sl none xs)] (strm L a::l) K=K (AI (z33 (xs.map unI) L a)) (strm L (a+1)::l) []:=(zmR hp xs hx hl hl2).hd
def z16 (u v:Int) (L:List Int) (a:Int):Int:=u+z10 L a (v-u+1)
theorem z5Y {u v:Int} (L:List Int) (a:Int) (h1:u≤v) (h2:v≤u+4611686018427387900):u≤z16 u v L a∧z16 u v L a≤v:=by
 have:=z3l L a (v-u+1) (by omega) (by omega)
 unfold z16;omega
theorem zez (hp:posN 0 a) (u v:Int) (huv:u≤v) (hu : -1152921504606846976≤u) (hv:v≤1152921504606846976) :
 Gen z2b [AI u,AI v] L a (a+1) (AI (z16 u v L a)):=by
 refine Gen.of fun h id hid=>?_
 rw[c_q03k rfl]
 obtain⟨b1,b2⟩:=z5Y L a huv (by omega)
 have w1:IntKind.i64.wrap (v-u)=v-u:=z0l _ (by omega) (by omega)
 have w2:IntKind.i64.wrap (v-u+1)=v-u+1:=z0l _ (by omega) (by omega)
 have w3:IntKind.i64.wrap (u+z10 L a (v-u+1))=z16 u v L a:=z0l (z16 u v L a) (by omega) (by omega)
 simp only[zkG,go_sem,show ¬ v<u by omega,w1,w2,z1S hid hp,w3]
theorem z8T (hid:id<h.length) (hp:posN 0 a) {u v:Int} (huv:u≤v) (hu : -1152921504606846976≤u) (hv:v≤1152921504606846976) :
 z0c X z2b [.ref id 0,AI u,AI v] (h.set id (strm L a)) K=K (AI (z16 u v L a)) (h.set id (strm L (a+1))) []:=(zez hp u v huv hu hv).set hid
theorem z8S (hid:id<h.length) (hp:posN 0 a) {u v:Int} (huv:u≤v) (hu : -1152921504606846976≤u) (hv:v≤1152921504606846976) :
 z0c X z2b [.ref id 0,AI u,AI v] (h.set id (strm L a)++l) K=K (AI (z16 u v L a)) (h.set id (strm L (a+1))++l) []:=(zez hp u v huv hu hv).app hid
theorem zau (hp:posN 0 a) {u v:Int} (huv:u≤v) (hu : -1152921504606846976≤u) (hv:v≤1152921504606846976) :
 z0c X z2b [.ref 0 0,AI u,AI v] (strm L a::l) K=K (AI (z16 u v L a)) (strm L (a+1)::l) []:=(zez hp u v huv hu hv).hd
end
attribute [go_sem ↓] z1S zar zd7 zaq zap zd6 zat zas zdB z8T z8S zau
attribute [go_sem] z1S zar zd7 zaq zap zd6 zat zas zdB z8T z8S zau isI unI
end Go.Am
end
section
/- Plain laws of fractions in lowest terms. -/
namespace Go.Am
end Go.Am
end
section
/- Small functions of numbers and of lists of numbers. -/
open Go
namespace Go.Am
variable {h:Heap} {K:Post}
theorem s_Out (n a b:Int):z0c X z1Z [AI n,AI a,AI b] h K=K (AB (decide (n<a)||decide (b<n))) h []:=by
 refine rule ?_
 rw[c_q00a rfl]
 by_cases h1:n<a <;> simp only[zk9,go_sem,h1]
theorem s_in (n a b:Int):z0c X z2c [AI n,AI a,AI b] h K=K (AB (decide (a≤n)&&decide (n≤b))) h []:=by
 refine rule ?_
 rw[c_q050 rfl]
 by_cases h1:a≤n <;> simp only[zkN,go_sem,h1]
theorem out_eq (n a b:Int):(decide (n<a)||decide (b<n)) = !(decide (a≤n)&&decide (n≤b)):=by
 rw[Bool.eq_iff_iff];simp
theorem zg5 (n:Int):z0c X z6H [AI n] h K=K (AI n.sign) h []:=by
 refine rule ?_
 rw[c_q057 rfl]
 rcases Int.lt_trichotomy n 0 with h1 | h1 | h1
 ·simp only[zct,go_sem,h1,Int.sign_eq_neg_one_of_neg h1]
 ·subst h1;simp only[zct,go_sem,Int.sign_zero]
 ·simp only[zct,go_sem,show ¬ n<0 by omega,h1,Int.sign_eq_one_of_pos h1]
def cmp3 (x y:Int):Int:=if x<y then -1 else if x=y then 0 else 1
theorem z4Y (x y:Int):cmp3 x y=(x-y).sign:=by
 unfold cmp3
 rcases Int.lt_trichotomy x y with h | h | h
 ·rw[if_pos h,Int.sign_eq_neg_one_of_neg (by omega)]
 ·rw[if_neg (by omega),if_pos h,h];simp
 ·rw[if_neg (by omega),if_neg (by omega),Int.sign_eq_one_of_pos (by omega)]
end Go.Am
end
section
/- Functions of lists. -/
open Go
namespace Go.Am
variable {h:Heap} {K:Post}
theorem zeB (a:Int):z0c X z5n [AI a] h K=K (AB false) h []:=by
 refine rule ?_
 rw[c_q00v rfl]
 simp only[zkA,go_sem]
theorem zdD (a b:Int):z0c X z5m [AI a,AI b] h K=K (AI (cmp3 a b)) h []:=by
 refine rule ?_
 rw[c_q00s rfl]
 unfold cmp3
 by_cases h1:a<b
 ·simp only[zbL,go_sem,zeB,h1]
 ·by_cases h2:b<a
  ·simp only[zbL,go_sem,zeB,h1,h2,show ¬ a=b by omega]
  ·simp only[zbL,go_sem,zeB,h1,h2,show a=b by omega,Int.lt_irrefl]
def Tells (g:Nat) (caps:List AV) (p:PV→Bool) (xs:List PV) (h:Heap):Prop:=∀ x∈xs,∀ K:Post,z0c X g (.p x::caps) h K=K (AB (p x)) h []
def idxP (p:PV→Bool) (xs:List PV):Int:=if xs.findIdx p<xs.length then (xs.findIdx p:Int) else -1
theorem zqB (p:PV→Bool) (xs:List PV):decide (0≤idxP p xs)=xs.any p:=by
 unfold idxP
 rw[Bool.eq_iff_iff]
 by_cases h:xs.findIdx p<xs.length
 ·rw[if_pos h];simp only[decide_eq_true_eq,List.any_eq_true]
  exact⟨fun _=>⟨_,List.getElem_mem h,List.findIdx_getElem⟩,fun _=>by omega⟩
 ·rw[if_neg h];simp only[decide_eq_true_eq,List.any_eq_true]
  refine⟨fun h=>by omega,fun ⟨x,hx,hp⟩=>absurd (List.findIdx_lt_length_of_exists ⟨x,hx,hp⟩) h⟩
end Go.Am
end
section
/- Plain lists: insertion sort asv Go's package slices does it on short lists;deleting;compacting. -/
namespace Go.Am
variable {α:Type}
def insR (lt:α→α→Bool) (x:α):List α→List α
 | []=>[x]
 | y::r=>bif lt x y then y::insR lt x r else x::y::r
def z48 (lt:α→α→Bool) (l:List α):List α:=l.foldl (fun r x=>insR lt x r) []
def zdo (lt:α→α→Bool) (l:List α):List α:=(z48 lt l).reverse
theorem zdn (lt:α→α→Bool) (x:α):∀ r:List α,(insR lt x r).Perm (x::r)
 | []=>.refl _
 | y::r=>by
  unfold insR
  cases lt x y with
  | true=>exact ((zdn lt x r).cons y).trans (.swap _ _ _)
  | false=>exact .refl _
theorem z3I (lt:α→α→Bool):∀ (l r:List α),(l.foldl (fun r x=>insR lt x r) r).Perm (l++r)
 | [],r=>.refl _
 | x::l,r=>by
  simp only[List.foldl_cons,List.cons_append]
  refine (z3I lt l _).trans ?_
  exact ((zdn lt x r).append_left l).trans (List.perm_middle)
theorem z4G (lt:α→α→Bool) (l:List α):(z48 lt l).Perm l:=by
 have:=z3I lt l []
 rwa [List.append_nil] at this
theorem zae (lt:α→α→Bool) (l:List α):(zdo lt l).Perm l:=(List.reverse_perm _).trans (z4G lt l)
theorem zna (lt:α→α→Bool) (l:List α):(zdo lt l).length=l.length:=(zae lt l).length_eq
theorem znb {lt:α→α→Bool} {l:List α} {x:α}:x∈zdo lt l↔x∈l:=(zae lt l).mem_iff
theorem zh6 (lt:α→α→Bool) (l:List α):(z48 lt l).length=l.length:=(z4G lt l).length_eq
theorem z6V (lt:α→α→Bool) (l:List α) (k:Nat) (hk:k<l.length):z48 lt (l.take (k+1))=insR lt l[k] (z48 lt (l.take k)):=by
 rw[List.take_succ_eq_append_getElem hk];unfold z48;rw[List.foldl_append];rfl
theorem zad (lt:α→α→Bool) (x:α) (A:List α):∀ B:List α,(∀ b∈B,lt x b=true)→insR lt x (B++A)=B++insR lt x A
 | [],_=>rfl
 | b::B,h=>by
  simp only[List.cons_append,insR,h b (by simp),cond_true]
  rw[zad lt x A B (fun b hb=>h b (by simp [hb]))]
theorem zub (A C:List α) (x:α):(A.reverse++x::C)[A.length]?=some x:=by
 rw[List.getElem?_append_right (by simp)];simp
theorem zqD (A C:List α) (x y:α):((y::A).reverse++x::C)[A.length]?=some y:=by
 rw[List.getElem?_append_left (by simp)];simp
theorem zqE (A C:List α) (x y:α):(((y::A).reverse++x::C).set (A.length+1) y).set A.length x=A.reverse++x::y::C:=by
 have e:(y::A).reverse++x::C=A.reverse++y::x::C:=by simp
 rw[e,List.set_append_right _ _ (by simp),List.length_reverse,Nat.add_sub_cancel_left,List.set_append_right _ _ (by simp),List.length_reverse,Nat.sub_self]
 rfl
theorem zgh (lt:α→α→Bool) (x:α) (A B:List α) (hB:∀ b∈B,lt x b=true) (hA:∀ y r,A=y::r→lt x y=false):insR lt x (B++A)=B++x::A:=by
 rw[zad lt x A B hB]
 cases A with
 | nil=>rfl
 | cons y r=>simp only[insR,hA y r rfl,cond_false]
end Go.Am
namespace Go.Am
variable {α:Type}
end Go.Am
end
section
/- Values of a shape: loads and stores in rows. -/
open Go
namespace Go.Am
variable {h:Heap} {K:Post}
theorem zeH {sh:Sh} {x:PV} (hx:x.shp sh=true):cutP sh 0 x=some x:=by
 cases sh with
 | none=>exact ztB hx
 | some n=>
  cases x with
  | agg cs=>
   simp only[PV.shp,Bool.and_eq_true,beq_iff_eq] at hx
   simp [cutP,hx.1]
   exact List.take_of_length_le (by omega)
  | _=>cases hx
theorem zpb {sh:Sh} {x:PV} (hx:x.shp sh=true):x.cells.length=z0a sh:=by
 cases sh with
 | none=>cases x <;> first | rfl | cases hx
 | some n=>
  cases x with
  | agg cs=>simp only[PV.shp,Bool.and_eq_true,beq_iff_eq] at hx;exact hx.1
  | _=>cases hx
theorem zpa {sh:Sh} {x:PV} (hx:x.shp sh=true):x.cells.all PV.sc=true:=by
 cases sh with
 | none=>cases x <;> first | rfl | cases hx
 | some n=>
  cases x with
  | agg cs=>simp only[PV.shp,Bool.and_eq_true,beq_iff_eq] at hx;exact hx.2
  | _=>cases hx
theorem zgE {sh:Sh} {x y:PV} (hx:x.shp sh=true) (hy:y.shp sh=true) (id i fz:Nat) (xs:List PV) (h1:Heap):stE sh id i 0 fz sh xs x h1 (some y)=some (.und,h1.set id (.row sh (xs.set i x) fz),[]):=by
 cases sh with
 | none=>
  cases y with
  | agg cs=>cases hy
  | _=>simp only[PV.shp] at hx;simp [stE,hx]
 | some n=>
  cases y with
  | agg cs=>
   cases x with
   | agg ds=>
    simp only[PV.shp,Bool.and_eq_true,beq_iff_eq] at hx hy
    simp [stE,PV.cells,splice,hx.1,hy.1,show cs.drop n=[] from List.drop_of_length_le (by omega)]
   | _=>cases hx
  | _=>cases hy
def shps (sh:Sh) (xs:List PV):Prop:=∀ x∈xs,x.shp sh=true
theorem zrz {sh:Sh} {xs:List PV} (hx:shps sh xs) {i:Nat} (hi:i<xs.length):xs[i].shp sh=true:=hx _ (List.getElem_mem hi)
theorem zgB {h:Heap} {id:Nat} {o:Obj} (hh:h[id]?=some o):h.set id o=h:=by
 apply List.ext_getElem?
 intro i
 rw[List.getElem?_set]
 split
 ·rename_i e;subst e;rw[hh];simp [z3G hh]
 ·rfl
def Cmps (g:Nat) (caps:List AV) (c:PV→PV→Int) (xs:List PV) (id:Nat) (h:Heap):Prop:=∀ (o:Obj) (x:PV),x∈xs→∀ y,y∈xs→∀ K:Post,z0c X g (.p x :: .p y::caps) (h.set id o) K=K (AI (c x y)) (h.set id o) []
def ltC (c:PV→PV→Int) (a b:PV):Bool:=decide (c a b<0)
structure Shows (sh:Sh) (v:AV) (xs:List PV) (h:Heap):Prop where
 len:oLen v=some (AI xs.length)
 get:∀ (k:Nat) (hk:k<xs.length),∃ a,z0p sh v (AI k) h=some a∧z0e sh a h=some (.p xs[k])
theorem zgC {sh:Sh} {xs:List PV} (hs:shps sh xs):Shows sh (.p (.sl sh xs)) xs h:=by
 refine⟨rfl,fun k hk=>⟨.vp xs[k],?_,?_⟩⟩
 ·simp [z0p,z0W,hk]
 ·simp only[znH,zeH (zrz hs hk)];rfl
end Go.Am
end
section
/- Strings: keys,the library's functions without text. -/
open Go
set_option linter.unusedSimpArgs false
namespace Go.Am
variable {h:Heap} {K:Post}
abbrev AS (s:List UInt8):AV:=.p (.str s)
theorem X_ext:X.ext=extF z0i z0f:=rfl
theorem zg4 (s:List UInt8) (c:UInt8):z0c X z0i [AS s,.p (.int .u8 c.toNat)] h K=K (AI (idxB s c)) h []:=by
 have:=zfS (X:=X) (f:=z0i) (asv:=[AS s,.p (.int .u8 c.toNat)]) (vs:=[.str s,.int .u8 c.toNat]) (h:=h) (h1:=h) (r:=.int .i64 (idxB s c)) (K:=K) (by kernel_rfl) rfl rfl rfl ?_
 ·exact this
 ·rw[X_ext]
  unfold extF
  rw[show Nat.beq z0i z0i=true from by kernel_rfl]
  simp
theorem zrv (a b:List UInt8):z0c X z0f [AS a,AS b] h K=K (AI (cmpL a b)) h []:=by
 have:=zfS (X:=X) (f:=z0f) (asv:=[AS a,AS b]) (vs:=[.str a,.str b]) (h:=h) (h1:=h) (r:=.int .i64 (cmpL a b)) (K:=K) (by kernel_rfl) rfl rfl rfl ?_
 ·exact this
 ·rw[X_ext]
  unfold extF
  rw[show Nat.beq z0f z0i=false from by kernel_rfl,show Nat.beq z0f z0f=true from by kernel_rfl]
  rfl
theorem z4b (a b:List UInt8):z0c X z5p [AS a,AS b] h K=K (AI (cmpL a b)) h []:=by
 have key:∀ (h:Heap) (K:Post),z0c X z8d [AS a,AS b] h K=K (AI (cmpL a b)) h []:=by
  intro h K
  refine rule ?_
  rw[c_q01b rfl]
  simp only[zkB,go_sem,zrv]
 refine rule ?_
 rw[c_q091 rfl]
 simp only[zkV,go_sem,key]
theorem z8R (s:List UInt8) (c:UInt8):z0c X zaa [AS s,.p (.int .u8 c.toNat)] h K=K (AI (idxB s c)) h []:=by
 have key:∀ (h:Heap) (K:Post),z0c X z3B [AS s,.p (.int .u8 c.toNat)] h K=K (AI (idxB s c)) h []:=by
  intro h K
  refine rule ?_
  rw[zsy rfl]
  simp only[zfv,go_sem,zg4]
 refine rule ?_
 rw[c_q097 rfl]
 simp only[zkY,go_sem,key]
theorem z71:∀ a,cmpL a a=0
 | []=>rfl
 | x::a=>by simp only[cmpL,UInt8.lt_irrefl,if_false];exact z71 a
theorem zer:∀ {a b:List UInt8},cmpL a b=0→a=b
 | [],[],_=>rfl
 | [],_::_,h=>by simp [cmpL] at h
 | _::_,[],h=>by simp [cmpL] at h
 | x::a,y::b,h=>by
  simp only[cmpL] at h
  split at h
  ·cases h
  ·split at h
   ·cases h
   ·rename_i h1 h2
    have:x=y:=UInt8.le_antisymm (UInt8.not_lt.1 h2) (UInt8.not_lt.1 h1)
    rw[this,zer h]
theorem zfk:∀ a b,cmpL b a = - cmpL a b
 | [],[]=>rfl
 | [],_::_=>rfl
 | _::_,[]=>rfl
 | x::a,y::b=>by
  simp only[cmpL]
  by_cases h1:x<y
  ·have h2:¬ y<x:=UInt8.lt_asymm h1
   simp [h1,h2]
  ·by_cases h2:y<x
   ·simp [h1,h2]
   ·simp [h1,h2,zfk a b]
def z6W (c:UInt8):Bool:=decide ((97:Int)≤c.toNat)&&decide ((c.toNat:Int)≤122)||decide ((48:Int)≤c.toNat)&&decide ((c.toNat:Int)≤57)||decide ((c.toNat:Int)=45)||decide ((c.toNat:Int)=95)
def keyB (s:List UInt8):Bool:=match s with
 | []=>false
 | c::r=>decide (r.length<40)&&(decide ((97:Int)≤c.toNat)&&decide ((c.toNat:Int)≤122))&&(c::r).all z6W
theorem zrs (s:List UInt8) (hl:s.length≤1000000000):z0c X z1Y [AS s] h K=K (AB (keyB s)) h []:=by
 refine rule ?_
 rw[c_q005 rfl]
 cases s with
 | nil=>simp only[z65,go_sem,keyB]
 | cons c r=>
  have n0:((c::r)=[])=False:=by simp
  have e1:(((r.length+1:Nat):Int)≤40)=(r.length<40):=by simp only[eq_iff_iff];omega
  by_cases h1:(40:Int)<((r.length+1:Nat):Int)
  ·have:¬ r.length<40:=by omega
   simp only[z65,go_sem,n0,h1,keyB,this]
  have h1':r.length<40:=by omega
  by_cases h2:(c.toNat:Int)<97
  ·have:¬ (97:Int)≤c.toNat:=by omega
   simp only[z65,go_sem,n0,h1,h2,keyB,this,h1']
  have h2':(97:Int)≤c.toNat:=by omega
  by_cases h3:(122:Int)<c.toNat
  ·have:¬ (c.toNat:Int)≤122:=by omega
   simp only[z65,go_sem,n0,h1,h2,h3,keyB,this,h1',h2']
  have h3':(c.toNat:Int)≤122:=by omega
  have ek:keyB (c::r)=(c::r).all z6W:=by simp [keyB,h1',h2',h3']
  rw[ek]
  generalize hB:(c::r).all z6W=B
  simp only[z65,go_sem,n0,h1,h2,h3]
  have hlen:(c::r).length=r.length+1:=rfl
  rw[← hlen]
  generalize c::r=s at *
  refine z0U (fun k:Nat=>⟨[(0,AS s),(23,AI s.length),(24,AI k)],h,[]⟩) (fun k=>k≤s.length∧(s.take k).all z6W=true) (fun k=>s.length-k) 0 rfl ⟨by omega,rfl⟩ ?_
  rintro k ⟨hk,hp⟩
  rcases Nat.lt_or_ge k s.length with hlt | hge
  ·have hg:s[k]?=some s[k]:=List.getElem?_eq_getElem hlt
   have w2:IntKind.i64.wrap ((k:Int)+1)=((k+1:Nat):Int):=z0l _ (by omega) (by omega)
   generalize hc:s[k]=c at *
   have key:(decide ((97:Int)≤c.toNat)&&decide ((c.toNat:Int)≤122)||decide ((48:Int)≤c.toNat)&&decide ((c.toNat:Int)≤57)||decide ((c.toNat:Int)=45)||decide ((c.toNat:Int)=95))=z6W c:=rfl
   cases hkc:z6W c with
   | true=>
    rw[hkc] at key
    have hn:(s.take (k+1)).all z6W=true:=by rw[List.take_succ_eq_append_getElem hlt,List.all_append,hp,hc];simp [hkc]
    by_cases b1:(97:Int)≤c.toNat <;> by_cases b2:(c.toNat:Int)≤122 <;> by_cases b3:(48:Int)≤c.toNat <;> by_cases b4:(c.toNat:Int)≤57 <;> by_cases b5:(c.toNat:Int)=45 <;> by_cases b6:(c.toNat:Int)=95
    all_goals first
     | (simp only[b1,b2,b3,b4,b5,b6,decide_true,decide_false,Bool.and_self,Bool.and_true,Bool.and_false,Bool.or_self,Bool.or_true,Bool.or_false,Bool.true_or,Bool.false_or,Bool.false_and,reduceCtorEq] at key;done)
     | (exfalso;omega)
     | (simp only[go_sem,hlt,hg,w2,b1,b2,b3,b4,b5,b6];exact⟨k+1,rfl,⟨by omega,hn⟩,by omega⟩)
   | false=>
    rw[hkc] at key
    have hn:s.all z6W=false:=by rw[List.all_eq_false];exact⟨_,List.getElem_mem hlt,by rw[hc,hkc];simp⟩
    rw[hn] at hB
    subst hB
    by_cases b1:(97:Int)≤c.toNat <;> by_cases b2:(c.toNat:Int)≤122 <;> by_cases b3:(48:Int)≤c.toNat <;> by_cases b4:(c.toNat:Int)≤57 <;> by_cases b5:(c.toNat:Int)=45 <;> by_cases b6:(c.toNat:Int)=95
    all_goals first
     | (simp only[b1,b2,b3,b4,b5,b6,decide_true,decide_false,Bool.and_self,Bool.and_true,Bool.and_false,Bool.or_self,Bool.or_true,Bool.or_false,Bool.true_or,Bool.false_or,Bool.false_and,reduceCtorEq] at key;done)
     | (exfalso;omega)
     | (simp only[go_sem,hlt,hg,b1,b2,b3,b4,b5,b6])
  ·have ek:k=s.length:=by omega
   subst ek
   rw[List.take_length,hB] at hp
   subst hp
   simp only[go_sem,Nat.lt_irrefl]
theorem zqA (s:List UInt8) (c:UInt8):decide (idxB s c<0) = !s.contains c:=by
 unfold idxB
 rw[Bool.eq_iff_iff]
 by_cases hf:s.findIdx (· == c)<s.length
 ·rw[if_pos hf]
  have:=List.findIdx_getElem (w:=hf)
  simp only[beq_iff_eq] at this
  have hm:c∈s:=by rw[← this];exact List.getElem_mem hf
  simp [hm]
 ·rw[if_neg hf]
  have hm:¬ c∈s:=fun hm=>hf (List.findIdx_lt_length_of_exists ⟨c,hm,by simp⟩)
  simp [hm]
theorem zoQ (s t:List UInt8) (hl:s.length≤1000000000):z0c X z44 [AS s,AS t] h K=K (AB (s.all fun c=>t.contains c)) h []:=by
 refine rule ?_
 rw[c_q051 rfl]
 simp only[zf8,go_sem]
 refine z0U (fun k:Nat=>⟨[(0,AS s),(1,AS t),(7,AI s.length),(8,AI k)],h,[]⟩) (fun k=>k≤s.length∧(s.take k).all (fun c=>t.contains c)=true) (fun k=>s.length-k) 0 rfl ⟨by omega,rfl⟩ ?_
 rintro k ⟨hk,hp⟩
 rcases Nat.lt_or_ge k s.length with hlt | hge
 ·have hg:s[k]?=some s[k]:=List.getElem?_eq_getElem hlt
  have w2:IntKind.i64.wrap ((k:Int)+1)=((k+1:Nat):Int):=z0l _ (by omega) (by omega)
  have hi:=zqA t s[k]
  by_cases hc:idxB t s[k]<0
  ·have:s.all (fun c=>t.contains c)=false:=by
    rw[List.all_eq_false]
    refine⟨_,List.getElem_mem hlt,?_⟩
    rw[decide_eq_true hc] at hi
    cases hq:t.contains s[k] with
    | true=>rw[hq] at hi;cases hi
    | false=>simp
   simp only[go_sem,hlt,hg,z8R,hc,this]
  ·rw[decide_eq_false hc] at hi
   have hq:t.contains s[k]=true:=by cases hq:t.contains s[k] with | true=>rfl | false=>rw[hq] at hi;cases hi
   simp only[go_sem,hlt,hg,z8R,hc,w2]
   exact⟨k+1,rfl,⟨by omega,by rw[List.take_succ_eq_append_getElem hlt,List.all_append,hp];simp only[List.all_cons,List.all_nil,hq];rfl⟩,by omega⟩
 ·have ek:k=s.length:=by omega
  subst ek
  rw[List.take_length] at hp
  simp only[go_sem,Nat.lt_irrefl,hp]
def z8W:List UInt8:=[97,98,99,100,101,102,103,104,105,106,107,108,109,110,111,112,113,114,115,116,117,118,119,120,121,122]
def znd:List UInt8:=[97,98,99,100,101,102,103,104,105,106,107,108,109,110,111,112,113,114,115,116,117,118,119,120,121,122,48,49,50,51,52,53,54,55,56,57,45,95]
theorem zsX {p:UInt8→Bool} (h:((List.range 256).all fun n=>p (UInt8.ofNat n))=true) (c:UInt8):p c=true:=by
 have:=List.all_eq_true.1 h c.toNat (by simp;exact c.toNat_lt)
 rwa [UInt8.ofNat_toNat] at this
theorem zhR (c:UInt8):z8W.contains c=(decide ((97:Int)≤c.toNat)&&decide ((c.toNat:Int)≤122)):=by
 have:=zsX (p:=fun c=>z8W.contains c==(decide ((97:Int)≤c.toNat)&&decide ((c.toNat:Int)≤122))) (by kernel_rfl) c
 simpa using this
theorem zqI (c:UInt8):znd.contains c=z6W c:=by
 have:=zsX (p:=fun c=>znd.contains c==z6W c) (by kernel_rfl) c
 simpa using this
theorem z7e (s:List UInt8) (hl:s.length≤1000000000):z0c X z3v [AS s] h K=K (AB (keyB s)) h []:=by
 refine rule ?_
 rw[c_q043 rfl]
 have o1:=fun h K=>zoQ (h:=h) (K:=K) s znd hl
 have e2:(s.all fun c=>znd.contains c)=s.all z6W:=by congr 1;funext c;exact zqI c
 rw[e2] at o1
 unfold znd at o1
 cases s with
 | nil=>simp only[z91,go_sem,s_in,keyB]
 | cons c r=>
  have o2:=fun h K=>zoQ (h:=h) (K:=K) [c] z8W (by simp)
  have e3:([c].all fun c=>z8W.contains c)=(decide ((97:Int)≤c.toNat)&&decide ((c.toNat:Int)≤122)):=by simp only[List.all_cons,List.all_nil,Bool.and_true];exact zhR c
  rw[e3] at o2
  unfold z8W at o2
  have q1:(1:Int)≤((r.length+1:Nat):Int):=by omega
  have q2:1≤r.length+1:=by omega
  by_cases h1:r.length<40
  ·have h1':((r.length+1:Nat):Int)≤40:=by omega
   cases h2:(decide ((97:Int)≤c.toNat)&&decide ((c.toNat:Int)≤122)) with
   | true=>
    have ek:keyB (c::r)=(c::r).all z6W:=by
     simp only[keyB,h1,decide_true,Bool.true_and,h2]
    rw[ek]
    simp only[z91,go_sem,s_in,h1',q1,q2,win,↓o2,o2,h2,↓o1,o1]
   | false=>
    have ek:keyB (c::r)=false:=by simp only[keyB,h1,decide_true,Bool.true_and,h2,Bool.false_and]
    rw[ek]
    simp only[z91,go_sem,s_in,h1',q1,q2,win,↓o2,o2,h2]
  ·have h1':¬ ((r.length+1:Nat):Int)≤40:=by omega
   have ek:keyB (c::r)=false:=by simp only[keyB,h1,decide_false,Bool.false_and]
   rw[ek]
   simp only[z91,go_sem,s_in,h1',q1]
end Go.Am
end
section
/- Finding values in lists: printed by program. -/
open Go
set_option linter.unusedSimpArgs false
namespace Go.Am
attribute [-go_sem] PV.cells
variable {h:Heap} {K:Post}
end Go.Am
end
section
/- Limits: what they are,what is wrong with them. -/
open Go
namespace Go.Am
variable {h:Heap} {K:Post}
structure Lim where
 key:List UInt8
 lo:Int
 hi:Int
 bin:Int
def Lim.pv (x:Lim):PV:=.agg [.str x.key,eI x.lo,eI x.hi,eI x.bin]
def inB (a n b:Int):Bool:=decide (a≤n)&&decide (n≤b)
theorem z3z (n a b:Int):z0c X z1Z [AI n,AI a,AI b] h K=K (AB (!inB a n b)) h []:=by rw[s_Out,out_eq];rfl
theorem z9j (n a b:Int):z0c X z2c [AI n,AI a,AI b] h K=K (AB (inB a n b)) h []:=s_in n a b
end Go.Am
end
section
/- What is wrong with limits,both ways: printed by program. -/
open Go
set_option linter.unusedSimpArgs false
namespace Go.Am
variable {h:Heap} {K:Post}
end Go.Am
end
section
/- Package lot on measured values,and what the reference says of them. -/
open Go
namespace Go.Am
variable {h:Heap} {K:Post}
end Go.Am
end
section
/- Records: what they are,what is wrong with them. -/
open Go
set_option linter.unusedSimpArgs false
namespace Go.Am
variable {h:Heap} {K:Post}
theorem zoB {b:Nat} {P:Post} {vs:List AV} {h:Heap}:retK true b P (some vs) h []=P (z0M vs) (h.take (max b (z0M vs).top)) []:=by
 simp [retK,z2o,z1j]
attribute [go_sem] zoB
structure Rec where
 unit:List UInt8
 time:Int
 site:List UInt8
 res:List Int
def Rec.pv (r:Rec):PV:=.agg [.str r.unit,eI r.time,.str r.site,.sl none (r.res.map eI)]
def good (x:Lim) (n:Int):Bool:=inB x.lo n x.hi
def ztW (l:List Lim) (res:List Int):List Bool:=List.zipWith good l res
def ztR (l:List Lim) (res:List Int):Int:=if (ztW l res).findIdx (fun b=>!b)<(ztW l res).length then ((ztW l res).findIdx (fun b=>!b):Int) else -1
def z3M (n:Int):Bool:=inB 0 n 345686399999
theorem zfj (x y:Int):cmp3 y x = - cmp3 x y:=by
 unfold cmp3;split <;> split <;> (try split) <;> (try split) <;> omega
theorem z3q (n:Int):z0c X z6B [AI n] h K=K (AB (z3M n)) h []:=by
 refine rule ?_
 rw[c_q007 rfl]
 simp only[zk8,go_sem,z3z,Bool.not_not]
 rfl
theorem z1m (n:Int):z0c X z9H [AI n] h K=K (AB (z3M n)) h []:=by
 refine rule ?_
 rw[c_q046 rfl]
 simp only[zkK,go_sem,z9j]
 rfl
end Go.Am
end
section
/- Entries of stations,plainly: what is wrong with them. -/
set_option linter.all false
namespace Go.Am
structure Ent where
 site:List UInt8
 no:Int
 time:Int
 kind:Int
 board:List UInt8
 step:List UInt8
 of:List UInt8
 other:Int
 deriving DecidableEq
def Ent.pv (x:Ent):PV:=.agg [.str x.site,eI x.no,eI x.time,eI x.kind,.str x.board,.str x.step,.str x.of,eI x.other]
def noB (n:Int):Bool:=inB 1 n 1000000
def zah (x:Ent):Bool:=if x.kind=7 then keyB x.of else if x.kind=2 then keyB x.board&&keyB x.step else keyB x.board
def zhY (x:Ent):Ent:=if x.kind=7 then ⟨x.site,x.no,x.time,x.kind,[],[],x.of,x.other⟩ else if x.kind=2 then ⟨x.site,x.no,x.time,x.kind,x.board,x.step,[],0⟩ else ⟨x.site,x.no,x.time,x.kind,x.board,[],[],0⟩
def entF (x:Ent):Int:=
 if keyB x.site=false then 5 else if noB x.no=false∨z3M x.time=false then 1 else if inB 1 x.kind 7=false then 4
 else if zah x=false then 5 else if x.kind=7∧noB x.other=false then 1 else if x≠zhY x then 3 else 0
def z12 (a b:Ent):Int:=if cmp3 a.time b.time≠0 then cmp3 a.time b.time else if cmpL a.site b.site≠0 then cmpL a.site b.site else cmp3 a.no b.no
theorem zhu (a b:Ent):z12 b a = - z12 a b:=by
 unfold z12
 rw[zfj a.time b.time,zfk a.site b.site,zfj a.no b.no]
 by_cases h1:cmp3 a.time b.time=0
 ·by_cases h2:cmpL a.site b.site=0
  ·simp [h1,h2]
  ·simp [h1,h2]
 ·simp [h1]
def z4K (a b:Ent):Bool:=decide (a.site=b.site)&&decide (a.no=b.no)
def z1f:Option Ent→List Ent→Int
 | _,[]=>0
 | p,x::r=>if entF x≠0 then entF x else if (match p with | some q=>decide (z12 x q≤0) | none=>false)=true then 7 else z1f (some x) r
def z4g (seen:List Ent):List Ent→Bool
 | []=>false
 | x::r=>if seen.any (fun o=>z4K o x) then true else z4g (seen++[x]) r
def z4y (l:List Ent):Int:=if (2000:Int)<l.length then 2 else if z1f none l≠0 then z1f none l else if z4g [] l then 6 else 0
end Go.Am
end
section
/- A text split at a byte. -/
set_option linter.all false
namespace Go.Am
def z0m (c:UInt8):List UInt8→List (List UInt8)
 | []=>[[]]
 | b::r=>if b=c then []::z0m c r else match z0m c r with
  | []=>[[b]]
  | p::q=>(b::p)::q
theorem z4d (c:UInt8):∀ s,z0m c s≠[]
 | []=>by simp [z0m]
 | b::r=>by
  unfold z0m
  split
  ·simp
  ·split <;> simp
theorem z4N {c:UInt8}:∀ {s:List UInt8},c∉s→z0m c s=[s]
 | [],_=>rfl
 | b::r,h=>by
  simp only[List.mem_cons,not_or] at h
  unfold z0m
  rw[if_neg (fun e=>h.1 e.symm),z4N h.2]
theorem z4v {c:UInt8}:∀ {a b:List UInt8},c∉a→z0m c (a++c::b)=a::z0m c b
 | [],b,_=>by simp [z0m]
 | x::a,b,h=>by
  simp only[List.mem_cons,not_or] at h
  rw[List.cons_append,z0m.eq_2,if_neg (fun e=>h.1 e.symm),z4v h.2]
theorem z0K (c:UInt8):∀ s:List UInt8,(z0m c s).length=s.count c+1
 | []=>rfl
 | b::r=>by
  unfold z0m
  by_cases e:b=c
  ·subst e;rw[if_pos rfl,List.length_cons,z0K b r,List.count_cons_self]
  ·rw[if_neg e]
   have ih:=z0K c r
   rw[List.count_cons_of_ne e]
   split
   ·rename_i h;exact absurd h (z4d c r)
   ·rename_i p q h;rw[h] at ih;simpa using ih
theorem zk7 {c:UInt8} {s:List UInt8} (h:c∈s):∃ a b,s=a++c::b∧c∉a:=by
 induction s with
 | nil=>simp at h
 | cons x r ih=>
  by_cases e:x=c
  ·subst e;exact⟨[],r,rfl,by simp⟩
  ·rcases List.mem_cons.1 h with rfl | h
   ·exact absurd rfl e
   ·obtain⟨a,b,rfl,hb⟩:=ih h
    exact⟨x::a,b,rfl,by simp only[List.mem_cons,not_or];exact⟨fun q=>e q.symm,hb⟩⟩
def z1p (c:UInt8):Nat→List UInt8→List UInt8
 | 0,s=>s
 | k+1,s=>z1p c k ((s.dropWhile (· != c)).drop 1)
theorem ztN {c:UInt8} {a b:List UInt8} (h:c∉a):((a++c::b).dropWhile (· != c)).drop 1=b:=by
 induction a with
 | nil=>simp
 | cons x r ih=>
  simp only[List.mem_cons,not_or] at h
  rw[List.cons_append,List.dropWhile_cons,if_pos (by simp;exact fun e=>h.1 e.symm)]
  exact ih h.2
theorem z2Z (c:UInt8):∀ (k:Nat) (s:List UInt8),k≤s.count c→z0m c (z1p c k s)=(z0m c s).drop k∧(z1p c k s).length≤s.length∧(z1p c k s).count c=s.count c-k
 | 0,s,_=>⟨rfl,Nat.le_refl _,rfl⟩
 | k+1,s,h=>by
  obtain⟨a,b,rfl,hb⟩:=zk7 (c:=c) (s:=s) (List.count_pos_iff.1 (by omega))
  have ha:a.count c=0:=List.count_eq_zero.2 hb
  have hc:(a++c::b).count c=b.count c+1:=by rw[List.count_append,List.count_cons_self,ha];omega
  obtain⟨h1,h2,h3⟩:=z2Z c k b (by omega)
  unfold z1p
  rw[ztN hb,z4v hb,List.drop_succ_cons,h1,h3,hc]
  exact⟨rfl,by simp;omega,by omega⟩
theorem z8M (c:UInt8):∀ (k:Nat) (s:List UInt8),z1p c (k+1) s=((z1p c k s).dropWhile (· != c)).drop 1
 | 0,s=>rfl
 | k+1,s=>by
  show z1p c (k+1) _=_
  rw[z8M c k]
  rfl
end Go.Am
end
section
/- A text read line by line. -/
set_option linter.all false
namespace Go.Am
def lnsD (s:List UInt8):List (List UInt8):=(z0m 10 s).dropLast
def lnsT (s:List UInt8):Bool:=!((z0m 10 s).getLast?.getD []).isEmpty
def lnsF {σ:Type} (take:σ→List UInt8→Bool × σ) (tail:Bool):Nat→List (List UInt8)→σ→(Nat × Bool) × σ
 | i,[],s=>bif tail then ((i,false),s) else ((0,true),s)
 | i,l::r,s=>bif (take s l).1 then lnsF take tail (i+1) r (take s l).2 else ((i,false),(take s l).2)
theorem z5v {σ:Type} {take:σ→List UInt8→Bool × σ} {tail:Bool} {i:Nat} {s:σ}:lnsF take tail i [] s=bif tail then ((i,false),s) else ((0,true),s):=rfl
theorem z3K {σ:Type} {take:σ→List UInt8→Bool × σ} {tail:Bool} {i:Nat} {l:List UInt8} {r:List (List UInt8)} {s:σ}:lnsF take tail i (l::r) s=bif (take s l).1 then lnsF take tail (i+1) r (take s l).2 else ((i,false),(take s l).2):=rfl
theorem z8X {c:UInt8}:∀ {s:List UInt8},z0m c (s++[c])=z0m c s++[[]]
 | []=>by simp [z0m]
 | b::r=>by
  have ih:=z8X (c:=c) (s:=r)
  rw[List.cons_append,z0m.eq_2,z0m.eq_2,ih]
  split
  ·rfl
  ·cases h:z0m c r with
   | nil=>exact absurd h (z4d c r)
   | cons p q=>rfl
theorem z6w {c:UInt8}:∀ {s:List UInt8},(z0m c s).getLast?=some []→s=[]∨s.getLast?=some c
 | [],_=>.inl rfl
 | b::r,h=>by
  right
  rw[z0m.eq_2] at h
  have hr:=z4d c r
  by_cases e:b=c
  ·subst e
   rw[if_pos rfl,List.getLast?_cons] at h
   cases hl:(z0m b r).getLast? with
   | none=>simp at hl;exact absurd hl hr
   | some p=>
    rw[hl] at h
    simp at h
    subst h
    rcases z6w hl with rfl | h2
    ·rfl
    ·rw[List.getLast?_cons,h2];rfl
  ·rw[if_neg e] at h
   cases hq:z0m c r with
   | nil=>exact absurd hq hr
   | cons p q=>
    rw[hq] at h
    cases q with
    | nil=>simp at h
    | cons p2 q2=>
     have:(z0m c r).getLast?=some []:=by rw[hq];simpa using h
     rcases z6w this with rfl | h2
     ·simp [z0m] at hq
     ·rw[List.getLast?_cons,h2];rfl
theorem zh9 {s:List UInt8} (h:s.getLast?=some 10):z0m 10 s.dropLast=lnsD s∧lnsT s=false:=by
 rcases List.eq_nil_or_concat s with rfl | ⟨r,x,rfl⟩
 ·simp at h
 ·simp only[List.concat_eq_append] at *
  simp at h
  subst h
  have e:=z8X (c:=10) (s:=r)
  unfold lnsD lnsT
  rw[e]
  simp
theorem znF {s:List UInt8} (h0:s≠[]) (h:s.getLast?≠some 10):∃ t,z0m 10 s=lnsD s++[t]∧lnsT s=true:=by
 have hne:=z4d 10 s
 refine⟨(z0m 10 s).getLast hne,(List.dropLast_concat_getLast hne).symm,?_⟩
 unfold lnsT
 rw[List.getLast?_eq_getLast hne]
 simp only[Option.getD_some,Bool.not_eq_true',List.isEmpty_eq_false_iff]
 intro e
 rcases z6w (c:=10) (s:=s) (by rw[List.getLast?_eq_getLast hne,e]) with h1 | h1
 ·exact h0 h1
 ·exact h h1
end Go.Am
end
section
/- Numbers in texts. -/
set_option linter.all false
namespace Go.Am
def digB (c:UInt8):Bool:=decide (48≤c.toNat)&&decide (c.toNat≤57)
def z05 (s:List UInt8):List UInt8:=if s.take 1=[45] then s.drop 1 else s
def numF (digits:Nat) (s:List UInt8):Bool:=!(z05 s).isEmpty&&decide ((z05 s).length≤digits) && !(decide ((z05 s).head?=some 48)&&(decide (1<(z05 s).length)||decide ((z05 s).length<s.length)))&&(z05 s).all digB
def numV (s:List UInt8):Int:=if s.take 1=[45] then -(((digN 0 (z05 s)).getD 0:Nat):Int) else ((digN 0 (z05 s)).getD 0:Nat)
theorem z7b:∀ (s:List UInt8) (acc:Nat),s.all digB=true→∃ n,digN acc s=some n
 | [],acc,_=>⟨acc,rfl⟩
 | c::r,acc,h=>by
  simp only[List.all_cons,Bool.and_eq_true] at h
  obtain⟨n,hn⟩:=z7b r (acc*10+(c.toNat-48)) h.2
  refine⟨n,?_⟩
  have hc:48≤c.toNat∧c.toNat≤57:=by simpa [digB] using h.1
  unfold digN
  rw[if_pos hc,hn]
theorem ztF {r:List UInt8}:digN 0 (45::r)=none:=by
 unfold digN
 rw[if_neg]
 decide
theorem zpK {s:List UInt8} (h1:z05 s≠[]) (h2:(z05 s).length≤17) (h:(z05 s).all digB=true):zej [.str s]=some (.tup [.p (.int .i64 (numV s)),.nili]):=by
 obtain⟨n,hn⟩:=z7b (z05 s) 0 h
 unfold zej numV
 by_cases e:s.take 1=[45]
 ·have ed:z05 s=s.drop 1:=by unfold z05;rw[if_pos e]
  cases s with
  | nil=>simp at e
  | cons c r=>
   simp at e
   subst e
   rw[ed] at h1 h2 hn
   simp only[List.drop_one,List.tail_cons] at h1 h2 hn
   have hr:1≤r.length:=by cases r with | nil=>exact absurd rfl h1 | cons _ _=>simp
   simp only[List.length_cons]
   rw[if_pos ⟨by omega,by omega⟩,ztF]
   simp only[List.head?_cons,List.tail_cons]
   rw[if_pos ⟨trivial,by omega⟩,hn,ed]
   simp [hn]
 ·have ed:z05 s=s:=by unfold z05;rw[if_neg e]
  rw[ed] at h1 h2 hn
  have hr:1≤s.length:=by cases s with | nil=>exact absurd rfl h1 | cons _ _=>simp
  simp only
  rw[if_pos ⟨hr,by omega⟩,hn,if_neg e,ed,hn]
  rfl
theorem zld {c:UInt8} (h:digB c=true):digC (c.toNat-48)=c:=by
 have hc:48≤c.toNat∧c.toNat≤57:=by simpa [digB] using h
 unfold digC
 apply UInt8.toNat_inj.1
 rw[UInt8.toNat_ofNat']
 omega
theorem zcM:∀ (n:Nat),(decN n).head?=some 48→n=0:=by
 intro n
 induction n using Nat.strongRecOn with
 | ind n ih=>
  intro h
  rcases Nat.lt_or_ge n 10 with h1 | h1
  ·rw[z39 h1] at h
   simp only[List.head?_cons,Option.some.injEq] at h
   have:=congrArg UInt8.toNat h
   rw[zpX h1] at this
   have e:(48:UInt8).toNat=48:=rfl
   omega
  ·rw[zev h1] at h
   have hl:=za9 (n / 10) (n / 10) (by have:=@Nat.lt_pow_self (n / 10+1) 10 (by omega);omega)
   have:(decN (n / 10)).head?=some 48:=by
    cases hq:decN (n / 10) with
    | nil=>rw[hq] at hl;simp at hl
    | cons a r=>rw[hq] at h;simpa using h
   have:=ih (n / 10) (by omega) this
   omega
theorem zlc (d:List UInt8):∀ n,d.all digB=true→d≠[]→(d.head?≠some 48∨d.length=1)→digN 0 d=some n→decN n=d:=by
 induction hr:d.length generalizing d with
 | zero=>intro n _ h;exact absurd (List.length_eq_zero_iff.1 hr) h
 | succ k ih=>
  intro n ha h0 hz hn
  rcases List.eq_nil_or_concat d with rfl | ⟨a,c,rfl⟩
  ·exact absurd rfl h0
  ·simp only[List.concat_eq_append] at *
   rw[List.all_append] at ha
   simp only[Bool.and_eq_true,List.all_cons,List.all_nil,Bool.and_true] at ha
   have hc:48≤c.toNat∧c.toNat≤57:=by simpa [digB] using ha.2
   rw[zcN] at hn
   obtain⟨m,hm,hn2⟩:=Option.bind_eq_some_iff.1 hn
   rw[if_pos hc] at hn2
   simp only[Option.some.injEq] at hn2
   cases a with
   | nil=>
    simp only[digN,Option.some.injEq] at hm
    subst hm
    rw[← hn2,Nat.zero_mul,Nat.zero_add,z39 (by omega),zld ha.2]
    rfl
   | cons x r=>
    simp only[List.cons_append,List.head?_cons,List.length_cons,List.length_append,List.length_nil] at hz hr
    have hx:x≠48:=by
     rcases hz with h | h
     ·exact fun e=>h (by rw[e])
     ·omega
    have q:=ih (x::r) (by simp;omega) m ha.1 (by simp) (by left;simpa using hx) hm
    have hm1:m≠0:=by
     intro e
     subst e
     rw[z39 (by omega)] at q
     injection q with q1 q2
     exact hx (q1.symm.trans rfl)
    rw[← hn2,zev (by omega),show (m*10+(c.toNat-48)) / 10=m by omega,show (m*10+(c.toNat-48))%10=c.toNat-48 by omega,q,zld ha.2]
theorem zqG {s:List UInt8} (h1:z05 s≠[]) (h:(z05 s).all digB=true):decide (itoa (numV s)=s) = !(decide ((z05 s).head?=some 48)&&(decide (1<(z05 s).length)||decide ((z05 s).length<s.length))):=by
 obtain⟨n,hn⟩:=z7b (z05 s) 0 h
 have key:decN n=z05 s↔¬ ((z05 s).head?=some 48∧1<(z05 s).length):=by
  constructor
  ·rintro e ⟨q1,q2⟩
   rw[← e] at q1 q2
   have:=zcM n q1
   subst this
   rw[z39 (by omega)] at q2
   simp at q2
  ·intro q
   refine zlc _ n h h1 ?_ hn
   by_cases q1:(z05 s).head?=some 48
   ·right
    have:¬ 1<(z05 s).length:=fun q2=>q ⟨q1,q2⟩
    have:1≤(z05 s).length:=by cases hq:z05 s with | nil=>exact absurd hq h1 | cons _ _=>simp
    omega
   ·exact .inl q1
 unfold numV
 rw[hn]
 simp only[Option.getD_some]
 by_cases e:s.take 1=[45]
 ·have ed:z05 s=s.drop 1:=by unfold z05;rw[if_pos e]
  rw[if_pos e]
  cases s with
  | nil=>simp at e
  | cons c r=>
   simp at e
   subst e
   rw[ed] at key hn h1 ⊢
   simp only[List.drop_one,List.tail_cons] at key hn h1 ⊢
   have hlt:decide (r.length<(45::r:List UInt8).length)=true:=by simp
   rw[hlt,Bool.or_true,Bool.and_true]
   by_cases h0:n=0
   ·subst h0
    have:decide (itoa (-((0:Nat):Int))=45::r)=false:=by
     simp [itoa,z39,digC]
    rw[this]
    have hd0:r.head?=some 48:=by
     by_cases q:r.head?=some 48
     ·exact q
     ·have e:=zlc r 0 (by rw[ed] at h;exact h) h1 (.inl q) hn
      rw[z39 (by omega)] at e
      rw[← e]
      rfl
    simp [hd0]
   ·have:itoa (-(n:Int))=45::decN n:=by
     unfold itoa
     rw[if_pos (by omega)]
     simp
    rw[this]
    have k2:(45::decN n=45::r)↔¬ r.head?=some 48:=by
     constructor
     ·intro q q1
      injection q with _ q
      rw[← q] at q1
      exact h0 (zcM n q1)
     ·intro q
      rw[key.2 (fun z=>q z.1)]
    by_cases q:r.head?=some 48
    ·simp [k2,q]
    ·simp [k2,q]
 ·have ed:z05 s=s:=by unfold z05;rw[if_neg e]
  rw[if_neg e]
  rw[ed] at key ⊢
  have:itoa (n:Int)=decN n:=by
   unfold itoa
   rw[if_neg (by omega)]
   simp
  rw[this]
  by_cases q:decN n=s
  ·have:=key.1 q
   simp only[q,decide_true,Nat.lt_irrefl,decide_false,Bool.or_false]
   simp only[not_and] at this
   by_cases q1:s.head?=some 48
   ·simp [q1,this q1]
   ·simp [q1]
  ·have:=Classical.byContradiction fun z=>q (key.2 z)
   simp [q,this.1,this.2]
end Go.Am
end
section
/- Faults of nets: what the words mean,in plain Lean. -/
set_option linter.all false
namespace Go.Am
structure Flt where
 kind:Int
 nets:List Int
 deriving DecidableEq
end Go.Am
end
section
/- Faults read: the program's line and the reference's line agree. -/
set_option linter.all false
namespace Go.Am
def numR (most:Nat) (s:List UInt8):Int:=if z05 s≠[]∧(z05 s).length≤most∧(z05 s).all digB=true then numV s else 0
def zta (s:List UInt8):Bool:=!((z0m 32 s).contains [])
theorem zu2 {d:Nat} {s:List UInt8} (h:numF d s=true):z05 s≠[]∧(z05 s).length≤d∧(z05 s).all digB=true:=by
 unfold numF at h
 simp only[Bool.and_eq_true,Bool.not_eq_true',decide_eq_true_eq,List.isEmpty_eq_false_iff] at h
 exact⟨h.1.1.1,h.1.1.2,h.2⟩
theorem znS {d:Nat} {s:List UInt8} (h:numF d s=true):numR d s=numV s:=by
 unfold numR
 rw[if_pos (zu2 h)]
theorem zgl {σ τ:Type} {f:σ→List UInt8→Bool × σ} {g:τ→List UInt8→Bool × τ} (R:σ→τ→Prop) (hR:∀ s t l,R s t→(f s l).1=(g t l).1∧((f s l).1=true→R (f s l).2 (g t l).2)) (tail:Bool) :
 ∀ (ls:List (List UInt8)) (i:Nat) (s:σ) (t:τ),R s t→(lnsF f tail i ls s).1=(lnsF g tail i ls t).1∧((lnsF f tail i ls s).1.2=true→R (lnsF f tail i ls s).2 (lnsF g tail i ls t).2)
 | [],i,s,t,h=>by
  rw[z5v,z5v]
  cases tail with
  | true=>exact⟨rfl,fun e=>by cases e⟩
  | false=>exact⟨rfl,fun _=>h⟩
 | l::r,i,s,t,h=>by
  obtain⟨h1,h2⟩:=hR s t l h
  rw[z3K,z3K,← h1]
  cases hb:(f s l).1 with
  | true=>exact zgl R hR tail r (i+1) _ _ (h2 hb)
  | false=>exact⟨rfl,fun e=>by cases e⟩
end Go.Am
end
section
/- What is written is read: numbers,words,lines. -/
set_option linter.all false
namespace Go.Am
def znT (l:List Int):List UInt8:=([32]:List UInt8).intercalate (l.map itoa)
end Go.Am
end
section
/- Entries asv texts,plainly: written,read both ways. -/
set_option linter.all false
namespace Go.Am
def z1L:List (List UInt8):=[[],[101,110,116,101,114],[115,116,97,114,116],[112,97,115,115],[102,97,105,108],[114,101,112,97,105,114],[115,99,114,97,112],[117,110,100,111]]
def z9m (k:Int):List UInt8:=(z1L[k.toNat]?).getD []
def z8u (x:Ent):List UInt8:=
 x.site++32::(itoa x.no++32::(itoa x.time++32::(z9m x.kind++32::(if x.kind=2 then x.board++32::x.step else if x.kind=7 then x.of++32::itoa x.other else x.board))))
def z1g (l:List Ent):List UInt8:=(l.map fun x=>z8u x++[10]).flatten
def kE (w:List UInt8):Nat:=z1L.findIdx fun y=>decide (y=w)
def ent0:Ent:=⟨[],0,0,0,[],[],[],0⟩
def kEP (w:List UInt8):Int:=if 1≤kE w∧kE w≤7 then (kE w:Int) else 0
def kEQ (w:List UInt8):Int:=if kE w<8 then (kE w:Int) else -1
def we (ws:List (List UInt8)) (i:Nat):List UInt8:=(ws[i]?).getD []
def rdPE (ws:List (List UInt8)):Ent × Bool:=
 if ws.length<5∨ws.contains []=true then (ent0,false)
 else if (numF 15 (we ws 1)&&numF 15 (we ws 2))=false∨kEP (we ws 3)=0 then (ent0,false)
 else if kEP (we ws 3)=2 then (if ws.length=6 then (⟨we ws 0,numV (we ws 1),numV (we ws 2),2,we ws 4,we ws 5,[],0⟩,true) else (ent0,false))
 else if kEP (we ws 3)=7 then (if ws.length=6 then (⟨we ws 0,numV (we ws 1),numV (we ws 2),7,[],[],we ws 4,if numF 15 (we ws 5)=true then numV (we ws 5) else 0⟩,numF 15 (we ws 5)) else (ent0,false))
 else if ws.length=5 then (⟨we ws 0,numV (we ws 1),numV (we ws 2),kEP (we ws 3),we ws 4,[],[],0⟩,true) else (ent0,false)
def rdQE (ws:List (List UInt8)):Ent × Bool:=
 if ws.length<5∨ws.contains []=true then (ent0,false)
 else if (numF 15 (we ws 1)&&numF 15 (we ws 2))=false∨kEQ (we ws 3)<1 then (⟨we ws 0,numR 15 (we ws 1),numR 15 (we ws 2),kEQ (we ws 3),[],[],[],0⟩,false)
 else if kEQ (we ws 3)=7 then (if ws.length≠6 then (⟨we ws 0,numR 15 (we ws 1),numR 15 (we ws 2),7,[],[],[],0⟩,false) else (⟨we ws 0,numR 15 (we ws 1),numR 15 (we ws 2),7,[],[],we ws 4,numR 15 (we ws 5)⟩,numF 15 (we ws 5)))
 else if kEQ (we ws 3)=2 then (if ws.length≠6 then (⟨we ws 0,numR 15 (we ws 1),numR 15 (we ws 2),2,[],[],[],0⟩,false) else (⟨we ws 0,numR 15 (we ws 1),numR 15 (we ws 2),2,we ws 4,we ws 5,[],0⟩,true))
 else (⟨we ws 0,numR 15 (we ws 1),numR 15 (we ws 2),kEQ (we ws 3),we ws 4,[],[],0⟩,decide (ws.length=5))
theorem zug (w:List UInt8):kE w≤8:=List.findIdx_le_length
theorem rdE_eq (ws:List (List UInt8)):(rdPE ws).2=(rdQE ws).2∧((rdPE ws).2=true→(rdPE ws).1=(rdQE ws).1):=by
 have hk:=zug (we ws 3)
 have same:∀ {c d:Ent} {b:Bool},(b=true→c=d)→rdPE ws=(c,b)→rdQE ws=(d,b)→(rdPE ws).2=(rdQE ws).2∧((rdPE ws).2=true→(rdPE ws).1=(rdQE ws).1):=fun h e1 e2=>by
  rw[e1,e2];exact⟨rfl,h⟩
 have nope:∀ {c d:Ent},rdPE ws=(c,false)→rdQE ws=(d,false)→(rdPE ws).2=(rdQE ws).2∧((rdPE ws).2=true→(rdPE ws).1=(rdQE ws).1):=fun e1 e2=>same (fun e=>by cases e) e1 e2
 by_cases hc:ws.length<5∨ws.contains []=true
 ·exact nope (by unfold rdPE;rw[if_pos hc]) (by unfold rdQE;rw[if_pos hc])
 cases hn:(numF 15 (we ws 1)&&numF 15 (we ws 2)) with
 | false=>exact nope (by unfold rdPE;rw[if_neg hc,if_pos (.inl hn)]) (by unfold rdQE;rw[if_neg hc,if_pos (.inl hn)])
 | true=>
  have hn2:numF 15 (we ws 1)=true∧numF 15 (we ws 2)=true:=by simpa using hn
  have r1:=znS hn2.1
  have r2:=znS hn2.2
  by_cases h0:1≤kE (we ws 3)∧kE (we ws 3)≤7
  ·have e1:kEP (we ws 3)=(kE (we ws 3):Int):=by unfold kEP;rw[if_pos h0]
   have e2:kEQ (we ws 3)=(kE (we ws 3):Int):=by unfold kEQ;rw[if_pos (by omega)]
   have n1:¬ ((numF 15 (we ws 1)&&numF 15 (we ws 2))=false∨(kE (we ws 3):Int)=0):=by rw[hn];rintro (h | h);cases h;omega
   have n2:¬ ((numF 15 (we ws 1)&&numF 15 (we ws 2))=false∨(kE (we ws 3):Int)<1):=by rw[hn];rintro (h | h);cases h;omega
   by_cases k2:(kE (we ws 3):Int)=2
   ·by_cases h6:ws.length=6
    ·exact same (fun _=>rfl) (by unfold rdPE;rw[if_neg hc,e1,if_neg n1,if_pos k2,if_pos h6]) (by unfold rdQE;rw[if_neg hc,e2,if_neg n2,if_neg (by omega),if_pos k2,if_neg (fun z=>z h6),r1,r2])
    ·exact nope (by unfold rdPE;rw[if_neg hc,e1,if_neg n1,if_pos k2,if_neg h6]) (by unfold rdQE;rw[if_neg hc,e2,if_neg n2,if_neg (by omega),if_pos k2,if_pos h6])
   by_cases k7:(kE (we ws 3):Int)=7
   ·by_cases h6:ws.length=6
    ·exact same (c:=⟨we ws 0,numV (we ws 1),numV (we ws 2),7,[],[],we ws 4,if numF 15 (we ws 5)=true then numV (we ws 5) else 0⟩) (d:=⟨we ws 0,numV (we ws 1),numV (we ws 2),7,[],[],we ws 4,numR 15 (we ws 5)⟩) (b:=numF 15 (we ws 5)) (fun e=>by rw[if_pos e,znS e]) (by unfold rdPE;rw[if_neg hc,e1,if_neg n1,if_neg k2,if_pos k7,if_pos h6]) (by unfold rdQE;rw[if_neg hc,e2,if_neg n2,if_pos k7,if_neg (fun z=>z h6),r1,r2])
    ·exact nope (by unfold rdPE;rw[if_neg hc,e1,if_neg n1,if_neg k2,if_pos k7,if_neg h6]) (by unfold rdQE;rw[if_neg hc,e2,if_neg n2,if_pos k7,if_pos h6])
   ·by_cases h5:ws.length=5
    ·exact same (fun _=>rfl) (by unfold rdPE;rw[if_neg hc,e1,if_neg n1,if_neg k2,if_neg k7,if_pos h5]) (by unfold rdQE;rw[if_neg hc,e2,if_neg n2,if_neg k7,if_neg k2,r1,r2,decide_eq_true h5])
    ·exact nope (by unfold rdPE;rw[if_neg hc,e1,if_neg n1,if_neg k2,if_neg k7,if_neg h5]) (by unfold rdQE;rw[if_neg hc,e2,if_neg n2,if_neg k7,if_neg k2,decide_eq_false h5])
  ·have e1:kEP (we ws 3)=0:=by unfold kEP;rw[if_neg h0]
   have e2:kEQ (we ws 3)<1:=by unfold kEQ;split <;> omega
   exact nope (by unfold rdPE;rw[if_neg hc,if_pos (.inr e1)]) (by unfold rdQE;rw[if_neg hc,if_pos (.inr e2)])
def tkPE (cs:List Ent) (s:List UInt8):Bool × List Ent:=((rdPE (z0m 32 s)).2,cs++[(rdPE (z0m 32 s)).1])
def tkQE (cs:List Ent) (s:List UInt8):Bool × List Ent:=((rdQE (z0m 32 s)).2,cs++[(rdQE (z0m 32 s)).1])
theorem tkE_eq (tail:Bool) (ls:List (List UInt8)) (i:Nat) (cs:List Ent):(lnsF tkPE tail i ls cs).1=(lnsF tkQE tail i ls cs).1∧((lnsF tkPE tail i ls cs).1.2=true→(lnsF tkPE tail i ls cs).2=(lnsF tkQE tail i ls cs).2):=by
 refine zgl (fun a b=>a=b) (fun s t l e=>?_) tail ls i cs cs rfl
 subst e
 obtain⟨h1,h2⟩:=rdE_eq (z0m 32 l)
 exact⟨h1,fun e=>by unfold tkPE tkQE;rw[h2 e]⟩
end Go.Am
end
section
/- Records: what is wrong with them,both ways. -/
open Go
set_option linter.unusedSimpArgs false
namespace Go.Am
variable {h:Heap} {K:Post}
def orL:List Int→Int
 | []=>0
 | x::r=>if x≠0 then x else orL r
theorem zuR (l:List Int) (hl:l.length≤1000):z0c X z8c [AL l] h K=K (AI (orL l)) h []:=by
 refine rule ?_
 rw[c_q00u rfl]
 simp only[zfp,go_sem]
 refine z0U (fun k:Nat=>⟨[(3,AI 0),(6,AL l),(7,AI l.length),(8,AI k)],h,[]⟩) (fun k=>k≤l.length∧orL (l.drop k)=orL l) (fun k=>l.length-k) 0 rfl ⟨by omega,rfl⟩ ?_
 rintro k ⟨hk,hp⟩
 rcases Nat.lt_or_ge k l.length with hlt | hge
 ·have g2:=z1a eI hlt
  have w2:IntKind.i64.wrap ((k:Int)+1)=((k+1:Nat):Int):=z0l _ (by omega) (by omega)
  rw[List.drop_eq_getElem_cons hlt,orL] at hp
  by_cases hz:l[k]=0
  ·rw[if_neg (by simp [hz])] at hp
   simp only[go_sem,hlt,g2,hz,w2]
   exact⟨k+1,rfl,⟨by omega,hp⟩,by omega⟩
  ·rw[if_pos hz] at hp
   simp only[go_sem,hlt,g2,hz]
   rw[hp]
 ·have ek:k=l.length:=by omega
  subst ek
  rw[List.drop_length] at hp
  simp only[go_sem,Nat.lt_irrefl]
  rw[← hp];rfl
end Go.Am
end
section
/- Entries of stations: compared. -/
open Go
set_option linter.all false
set_option maxRecDepth 100000
namespace Go.Am
variable {h:Heap} {K:Post}
abbrev z18 (l:List Ent):AV:=.p (.sl (some 8) (l.map Ent.pv))
theorem zfM {l:List Ent}:shps (some 8) (l.map Ent.pv):=fun x hx=>by obtain⟨n,_,rfl⟩:=List.mem_map.1 hx;rfl
theorem z2x {x:Ent}:cutP (some 8) 0 x.pv=some x.pv:=rfl
structure EntOk (x:Ent):Prop where
 s:x.site.length≤1000000
 b:x.board.length≤1000000
 p:x.step.length≤1000000
 o:x.of.length≤1000000
structure EntB (x:Ent):Prop where
 n:1≤x.no∧x.no≤1000000
 t:0≤x.time∧x.time≤345686399999
theorem zm2 {x:Ent} (h:entF x=0):EntB x:=by
 unfold entF at h
 split at h
 ·cases h
 split at h
 ·cases h
 rename_i h2
 rw[not_or] at h2
 have a:noB x.no=true:=by simpa using h2.1
 have b:z3M x.time=true:=by simpa using h2.2
 unfold noB inB at a
 unfold z3M inB at b
 simp at a b
 exact⟨a,b⟩
theorem zoO (a b:Ent):z0c X z8j [.p a.pv,.p b.pv] h K=K (AI (z12 a b)) h []:=by
 refine rule ?_
 rw[c_q080 rfl]
 have o:=fun h K=>zuR (h:=h) (K:=K) [cmp3 a.time b.time,cmpL a.site b.site,cmp3 a.no b.no] (by simp)
 simp only[AL,List.map_cons,List.map_nil] at o
 have e:orL [cmp3 a.time b.time,cmpL a.site b.site,cmp3 a.no b.no]=z12 a b:=by
  unfold z12
  simp only[orL]
  split
  ·rfl
  ·split
   ·rfl
   ·split
    ·rfl
    ·rename_i h;simp only[ne_eq,Decidable.not_not] at h;rw[h]
 rw[e] at o
 simp only[zkS,Ent.pv,go_sem,zdD,z4b,o]
theorem zd5 (a b:Ent) (ha:EntB a) (hb:EntB b):z0c X z43 [.p a.pv,.p b.pv] h K=K (AI (z12 a b)) h []:=by
 refine rule ?_
 rw[zs0 rfl]
 have a1:=ha.t
 have a2:=hb.t
 have a3:=ha.n
 have a4:=hb.n
 have w:IntKind.i64.wrap (a.time-b.time)=a.time-b.time:=z0l _ (by omega) (by omega)
 have w2:IntKind.i64.wrap (a.no-b.no)=a.no-b.no:=z0l _ (by omega) (by omega)
 unfold z12
 by_cases he:a.time=b.time
 ·have:cmp3 a.time b.time=0:=by rw[he];unfold cmp3;simp
  rw[if_neg (by simp [this])]
  by_cases hs:a.site=b.site
  ·have hc:cmpL a.site b.site=0:=by rw[hs];exact z71 _
   rw[if_neg (by simp [hc]),z4Y]
   simp only[z67,Ent.pv,go_sem,he,hs,w2,zg5]
  ·have hc:cmpL a.site b.site≠0:=fun e=>hs (zer e)
   rw[if_pos hc]
   simp only[z67,Ent.pv,go_sem,he,hs,z4b]
 ·have hc:cmp3 a.time b.time≠0:=by unfold cmp3;split <;> (try split) <;> omega
  rw[if_pos hc]
  rw[z4Y]
  simp only[z67,Ent.pv,go_sem,he,w,zg5]
theorem zeD (a b:Ent):z0c X z9M [.p a.pv,.p b.pv] h K=K (AB (z4K a b)) h []:=by
 refine rule ?_
 rw[c_q056 rfl]
 unfold z4K
 by_cases h1:a.site=b.site
 ·simp only[zf9,Ent.pv,go_sem,h1]
 ·simp only[zf9,Ent.pv,go_sem,h1]
end Go.Am
end
section
/- What is wrong with an entry: the reference. -/
open Go
set_option linter.all false
set_option maxRecDepth 100000
namespace Go.Am
variable {h:Heap} {K:Post}
attribute [-go_sem] oEqa
theorem eqa8 (ks:List Nat) (hk:ks=[2,0,0,0,2,2,2,0]) (neg:Bool) (c d:Ent):oEqa ks neg (.p c.pv) (.p d.pv)=some (AB (bif neg then !decide (c=d) else decide (c=d))):=by
 subst hk
 obtain⟨a1,a2,a3,a4,a5,a6,a7,a8⟩:=c
 obtain⟨b1,b2,b3,b4,b5,b6,b7,b8⟩:=d
 have e:decide ((⟨a1,a2,a3,a4,a5,a6,a7,a8⟩:Ent)=⟨b1,b2,b3,b4,b5,b6,b7,b8⟩)=(decide (a1=b1)&&(decide (a2=b2)&&(decide (a3=b3)&&(decide (a4=b4)&&(decide (a5=b5)&&(decide (a6=b6)&&(decide (a7=b7)&&(decide (a8=b8)&&true)))))))):=by
  rw[Bool.eq_iff_iff];simp [Ent.mk.injEq]
 rw[e]
 rfl
theorem eqa8n (c d:Ent):oEqa [2,0,0,0,2,2,2,0] true (.p c.pv) (.p d.pv)=some (AB (!decide (c=d))):=eqa8 _ rfl true c d
def Ent.box (x:Ent):Obj:=.box [AS x.site,AI x.no,AI x.time,AI x.kind,AS x.board,AS x.step,AS x.of,AI x.other]
def refE (x u:Ent) (nm:Bool):Int:=if keyB x.site=false then 5 else if noB x.no=false∨z3M x.time=false then 1 else if inB 1 x.kind 7=false then 4
 else if nm=false then 5 else if x.kind=7∧noB x.other=false then 1 else if x≠u then 3 else 0
theorem refE_F (x:Ent):refE x (zhY x) (zah x)=entF x:=rfl
theorem ent_k1 (x u:Ent) (nm:Bool) (hs:x.site.length≤1000000) (K':Ex→St→Prop) :
 z0O (z0c X) X.gl (.ref h.length 0) (.ref (h.length+1) 0) (AB nm) (h++[x.box,u.box]) [] K'=K' .ret ⟨[(2,AI (refE x u nm))],h++[x.box,u.box],[]⟩:=by
 have k1:=fun h K=>z7e (h:=h) (K:=K) x.site (by omega)
 have hq:=eqa8n x u
 unfold refE noB
 unfold Ent.box
 simp only[Ent.pv] at hq
 cases h1:keyB x.site with
 | false=>simp only[z0O,go_sem,or_false,false_or,true_or,or_true,true_and,and_true,false_and,and_false,not_true_eq_false,not_false_eq_true,↓k1,k1,h1]
 | true=>
  cases h2:inB 1 x.no 1000000 with
  | false=>simp only[z0O,go_sem,or_false,false_or,true_or,or_true,true_and,and_true,false_and,and_false,not_true_eq_false,not_false_eq_true,↓k1,k1,z9j,h1,h2]
  | true=>
   cases h3:z3M x.time with
   | false=>simp only[z0O,go_sem,or_false,false_or,true_or,or_true,true_and,and_true,false_and,and_false,not_true_eq_false,not_false_eq_true,↓k1,k1,z9j,z1m,h1,h2,h3]
   | true=>
    cases h4:inB 1 x.kind 7 with
    | false=>simp only[z0O,go_sem,or_false,false_or,true_or,or_true,true_and,and_true,false_and,and_false,not_true_eq_false,not_false_eq_true,↓k1,k1,z9j,z1m,h1,h2,h3,h4]
    | true=>
     cases nm with
     | false=>simp only[z0O,go_sem,or_false,false_or,true_or,or_true,true_and,and_true,false_and,and_false,not_true_eq_false,not_false_eq_true,↓k1,k1,z9j,z1m,h1,h2,h3,h4]
     | true=>
      by_cases h7:x.kind=7
      ·cases h6:inB 1 x.other 1000000 with
       | false=>simp only[z0O,go_sem,or_false,false_or,true_or,or_true,true_and,and_true,false_and,and_false,not_true_eq_false,not_false_eq_true,↓k1,k1,z9j,z1m,h1,h2,h3,h4,eq_true h7,h6]
       | true=>
        by_cases e:x=u
        ·rw[decide_eq_true e] at hq
         simp only[z0O,go_sem,or_false,false_or,true_or,or_true,true_and,and_true,false_and,and_false,not_true_eq_false,not_false_eq_true,↓k1,k1,z9j,z1m,h1,h2,h3,h4,eq_true h7,h6,hq,eq_true e]
        ·rw[decide_eq_false e] at hq
         simp only[z0O,go_sem,or_false,false_or,true_or,or_true,true_and,and_true,false_and,and_false,not_true_eq_false,not_false_eq_true,↓k1,k1,z9j,z1m,h1,h2,h3,h4,eq_true h7,h6,hq,e]
      ·by_cases e:x=u
       ·rw[decide_eq_true e] at hq
        simp only[z0O,go_sem,or_false,false_or,true_or,or_true,true_and,and_true,false_and,and_false,not_true_eq_false,not_false_eq_true,↓k1,k1,z9j,z1m,h1,h2,h3,h4,h7,hq,eq_true e]
       ·rw[decide_eq_false e] at hq
        simp only[z0O,go_sem,or_false,false_or,true_or,or_true,true_and,and_true,false_and,and_false,not_true_eq_false,not_false_eq_true,↓k1,k1,z9j,z1m,h1,h2,h3,h4,h7,hq,e]
attribute [-go_sem] z0O
theorem zd4 (x:Ent) (hx:EntOk x):z0c X z9F [.p x.pv] h K=K (AI (entF x)) h []:=by
 refine rule ?_
 rw[c_q03z rfl]
 have k2:=fun h K=>z7e (h:=h) (K:=K) x.board (by have:=hx.b;omega)
 have k3:=fun h K=>z7e (h:=h) (K:=K) x.step (by have:=hx.p;omega)
 have k4:=fun h K=>z7e (h:=h) (K:=K) x.of (by have:=hx.o;omega)
 rw[← refE_F]
 have hs:x.site.length≤1000000:=hx.s
 have Q:=fun u nm K'=>ent_k1 (h:=h) x u nm hs K'
 unfold Ent.box at Q
 unfold zhY zah
 by_cases h7:x.kind=7
 ·have q:=Q ⟨x.site,x.no,x.time,x.kind,[],[],x.of,x.other⟩ (keyB x.of)
  dsimp only at q
  simp only[z66,Ent.pv,go_sem,↓k4,k4,h7] at q ⊢
  simp only[z66,Ent.pv,go_sem,↓k4,k4,q,h7]
 ·by_cases h2:x.kind=2
  ·cases hb:keyB x.board with
   | false=>
    have q:=Q ⟨x.site,x.no,x.time,x.kind,x.board,x.step,[],0⟩ false
    simp only[z66,Ent.pv,go_sem,↓k2,k2,↓k3,k3,h7,eq_true h2,hb,q]
   | true=>
    have q:=Q ⟨x.site,x.no,x.time,x.kind,x.board,x.step,[],0⟩ (keyB x.step)
    simp only[z66,Ent.pv,go_sem,↓k2,k2,↓k3,k3,h7,eq_true h2,hb,q]
  ·have q:=Q ⟨x.site,x.no,x.time,x.kind,x.board,[],[],0⟩ (keyB x.board)
   simp only[z66,Ent.pv,go_sem,↓k2,k2,↓k3,k3,h7,h2,q]
end Go.Am
end
section
/- What is wrong with an entry: the program. Printed by gen_ent.py. -/
open Go
set_option linter.all false
set_option maxRecDepth 100000
namespace Go.Am
variable {h:Heap} {K:Post}
set_option maxHeartbeats 4000000 in
theorem zdE (x:Ent) (hx:EntOk x):z0c X z8k [.p x.pv] h K=K (AI (entF x)) h []:=by
 refine rule ?_
 rw[c_q082 rfl]
 have k1:=fun h K=>zrs (h:=h) (K:=K) x.site (by have:=hx.s;omega)
 have k2:=fun h K=>zrs (h:=h) (K:=K) x.board (by have:=hx.b;omega)
 have k3:=fun h K=>zrs (h:=h) (K:=K) x.step (by have:=hx.p;omega)
 have k4:=fun h K=>zrs (h:=h) (K:=K) x.of (by have:=hx.o;omega)
 obtain⟨site,no,time,kind,board,step,of,other⟩:=x
 dsimp only at k1 k2 k3 k4
 unfold entF zah zhY noB
 dsimp only
 cases h1:keyB site with
 | false=>
  simp only[Ent.pv,go_sem,Ent.mk.injEq,or_false,false_or,true_or,or_true,true_and,and_true,and_self,false_and,and_false,not_true_eq_false,not_false_eq_true,Bool.not_true,Bool.not_false,z5e,↓k1,k1,z3z,z3q,h1]
 | true=>
  cases h2:inB 1 no 1000000 with
  | false=>
   simp only[Ent.pv,go_sem,Ent.mk.injEq,or_false,false_or,true_or,or_true,true_and,and_true,and_self,false_and,and_false,not_true_eq_false,not_false_eq_true,Bool.not_true,Bool.not_false,z5e,↓k1,k1,z3z,z3q,h1,h2]
  | true=>
   cases h3:z3M time with
   | false=>
    simp only[Ent.pv,go_sem,Ent.mk.injEq,or_false,false_or,true_or,or_true,true_and,and_true,and_self,false_and,and_false,not_true_eq_false,not_false_eq_true,Bool.not_true,Bool.not_false,z5e,↓k1,k1,z3z,z3q,h1,h2,h3]
   | true=>
    cases h4:inB 1 kind 7 with
    | false=>
     simp only[Ent.pv,go_sem,Ent.mk.injEq,or_false,false_or,true_or,or_true,true_and,and_true,and_self,false_and,and_false,not_true_eq_false,not_false_eq_true,Bool.not_true,Bool.not_false,z5e,↓k1,k1,z3z,z3q,h1,h2,h3,h4]
    | true=>
     by_cases h7:kind=7
     ·have h72:¬ kind=2:=by omega
      simp only[Ent.pv,go_sem,Ent.mk.injEq,or_false,false_or,true_or,or_true,true_and,and_true,and_self,false_and,and_false,not_true_eq_false,not_false_eq_true,Bool.not_true,Bool.not_false,z5e,↓k1,k1,z3z,z3q,h1,h2,h3,h4,eq_true h7,h72]
      cases h5:keyB of with
      | false=>
       simp only[Ent.pv,go_sem,Ent.mk.injEq,or_false,false_or,true_or,or_true,true_and,and_true,and_self,false_and,and_false,not_true_eq_false,not_false_eq_true,Bool.not_true,Bool.not_false,↓k4,k4,h5,eq_true h7,h72]
      | true=>
       cases h6:inB 1 other 1000000 with
       | false=>
        simp only[Ent.pv,go_sem,Ent.mk.injEq,or_false,false_or,true_or,or_true,true_and,and_true,and_self,false_and,and_false,not_true_eq_false,not_false_eq_true,Bool.not_true,Bool.not_false,↓k4,k4,z3z,h5,h6,eq_true h7,h72]
       | true=>
        by_cases e1:board=[]
        ·by_cases e2:step=[]
         ·simp only[Ent.pv,go_sem,Ent.mk.injEq,or_false,false_or,true_or,or_true,true_and,and_true,and_self,false_and,and_false,not_true_eq_false,not_false_eq_true,Bool.not_true,Bool.not_false,↓k4,k4,z3z,h5,h6,eq_true e1,eq_true e2,eq_true h7,h72]
         ·simp only[Ent.pv,go_sem,Ent.mk.injEq,or_false,false_or,true_or,or_true,true_and,and_true,and_self,false_and,and_false,not_true_eq_false,not_false_eq_true,Bool.not_true,Bool.not_false,↓k4,k4,z3z,h5,h6,eq_true e1,e2,eq_true h7,h72]
        ·simp only[Ent.pv,go_sem,Ent.mk.injEq,or_false,false_or,true_or,or_true,true_and,and_true,and_self,false_and,and_false,not_true_eq_false,not_false_eq_true,Bool.not_true,Bool.not_false,↓k4,k4,z3z,h5,h6,e1,eq_true h7,h72]
     ·by_cases h2k:kind=2
      ·simp only[Ent.pv,go_sem,Ent.mk.injEq,or_false,false_or,true_or,or_true,true_and,and_true,and_self,false_and,and_false,not_true_eq_false,not_false_eq_true,Bool.not_true,Bool.not_false,z5e,↓k1,k1,z3z,z3q,h1,h2,h3,h4,h7,eq_true h2k]
       cases h5:keyB board with
       | false=>
        simp only[Ent.pv,go_sem,Ent.mk.injEq,or_false,false_or,true_or,or_true,true_and,and_true,and_self,false_and,and_false,not_true_eq_false,not_false_eq_true,Bool.not_true,Bool.not_false,↓k2,k2,h5,h7,eq_true h2k]
       | true=>
        simp only[Ent.pv,go_sem,Ent.mk.injEq,or_false,false_or,true_or,or_true,true_and,and_true,and_self,false_and,and_false,not_true_eq_false,not_false_eq_true,Bool.not_true,Bool.not_false,↓k2,k2,h5,h7,eq_true h2k]
        cases h6:keyB step with
        | false=>
         simp only[Ent.pv,go_sem,Ent.mk.injEq,or_false,false_or,true_or,or_true,true_and,and_true,and_self,false_and,and_false,not_true_eq_false,not_false_eq_true,Bool.not_true,Bool.not_false,↓k3,k3,h6,h7,eq_true h2k]
        | true=>
         by_cases e1:of=[]
         ·by_cases e2:other=0
          ·simp only[Ent.pv,go_sem,Ent.mk.injEq,or_false,false_or,true_or,or_true,true_and,and_true,and_self,false_and,and_false,not_true_eq_false,not_false_eq_true,Bool.not_true,Bool.not_false,↓k3,k3,h6,eq_true e1,eq_true e2,h7,eq_true h2k]
          ·simp only[Ent.pv,go_sem,Ent.mk.injEq,or_false,false_or,true_or,or_true,true_and,and_true,and_self,false_and,and_false,not_true_eq_false,not_false_eq_true,Bool.not_true,Bool.not_false,↓k3,k3,h6,eq_true e1,e2,h7,eq_true h2k]
         ·simp only[Ent.pv,go_sem,Ent.mk.injEq,or_false,false_or,true_or,or_true,true_and,and_true,and_self,false_and,and_false,not_true_eq_false,not_false_eq_true,Bool.not_true,Bool.not_false,↓k3,k3,h6,e1,h7,eq_true h2k]
      ·simp only[Ent.pv,go_sem,Ent.mk.injEq,or_false,false_or,true_or,or_true,true_and,and_true,and_self,false_and,and_false,not_true_eq_false,not_false_eq_true,Bool.not_true,Bool.not_false,z5e,↓k1,k1,z3z,z3q,h1,h2,h3,h4,h7,h2k]
       cases h5:keyB board with
       | false=>
        simp only[Ent.pv,go_sem,Ent.mk.injEq,or_false,false_or,true_or,or_true,true_and,and_true,and_self,false_and,and_false,not_true_eq_false,not_false_eq_true,Bool.not_true,Bool.not_false,↓k2,k2,h5,h7,h2k]
       | true=>
        by_cases e0:step=[]
        ·by_cases e1:of=[]
         ·by_cases e2:other=0
          ·simp only[Ent.pv,go_sem,Ent.mk.injEq,or_false,false_or,true_or,or_true,true_and,and_true,and_self,false_and,and_false,not_true_eq_false,not_false_eq_true,Bool.not_true,Bool.not_false,↓k2,k2,h5,eq_true e0,eq_true e1,eq_true e2,h7,h2k]
          ·simp only[Ent.pv,go_sem,Ent.mk.injEq,or_false,false_or,true_or,or_true,true_and,and_true,and_self,false_and,and_false,not_true_eq_false,not_false_eq_true,Bool.not_true,Bool.not_false,↓k2,k2,h5,eq_true e0,eq_true e1,e2,h7,h2k]
         ·simp only[Ent.pv,go_sem,Ent.mk.injEq,or_false,false_or,true_or,or_true,true_and,and_true,and_self,false_and,and_false,not_true_eq_false,not_false_eq_true,Bool.not_true,Bool.not_false,↓k2,k2,h5,eq_true e0,e1,h7,h2k]
        ·simp only[Ent.pv,go_sem,Ent.mk.injEq,or_false,false_or,true_or,or_true,true_and,and_true,and_self,false_and,and_false,not_true_eq_false,not_false_eq_true,Bool.not_true,Bool.not_false,↓k2,k2,h5,e0,h7,h2k]
end Go.Am
end
section
/- Maps,asv lists of keys with values. -/
open Go
set_option linter.all false
namespace Go.Am
section
variable {α β:Type} [DecidableEq α]
def mesF (key:α→PV) (val:β→AV):Nat→List (α × β)→List ME
 | _,[]=>[]
 | n,e::r=>⟨key e.1,val e.2,n⟩::mesF key val (n+1) r
def mobj (key:α→PV) (val:β→AV) (l:List (α × β)):Obj:=.amap (mesF key val 0 l) l.length
def z1t (k:α):List (α × β)→Option Nat
 | []=>none
 | e::r=>if k=e.1 then some 0 else (z1t k r).map (· + 1)
def getM (k:α):List (α × β)→Option β
 | []=>none
 | e::r=>if k=e.1 then some e.2 else getM k r
def updM (k:α) (v:β):List (α × β)→List (α × β)
 | []=>[(k,v)]
 | e::r=>if k=e.1 then (k,v)::r else e::updM k v r
def KeyI (key:α→PV):Prop:=∀ a b,PV.eqv (key a) (key b)=some (decide (a=b))
theorem zgj:KeyI PV.str:=fun a b=>rfl
theorem zdq {s:List UInt8}:z32 (none,[2]) (.p (.str s))=some (.str s):=by simp [z32,PV.key,PV.shp,PV.sc,PV.cells,PV.kind]
variable {key:α→PV} {val:β→AV}
theorem z8x (hk:KeyI key) (k:α):∀ (l:List (α × β)) (n:Nat),z2f (key k) (mesF key val n l)=some (z1t k l)
 | [],n=>rfl
 | e::r,n=>by
  simp only[mesF,z2f,hk k e.1,z1t]
  by_cases h:k=e.1
  ·simp [h]
  ·simp [h,z8x hk k r (n+1)]
theorem zaL:∀ (l:List (α × β)) (n i:Nat),(mesF key val n l)[i]?=(l[i]?).map fun e=>⟨key e.1,val e.2,n+i⟩
 | [],n,i=>rfl
 | e::r,n,0=>rfl
 | e::r,n,i+1=>by simp only[mesF,List.getElem?_cons_succ,zaL r (n+1) i];rw[show n+1+i=n+(i+1) by omega]
theorem zgL {k:α}:∀ {l:List (α × β)} {i:Nat},z1t k l=some i→i<l.length
 | [],i,h=>by cases h
 | e::r,i,h=>by
  unfold z1t at h
  split at h
  ·cases h;simp
  ·obtain⟨j,hj,e2⟩:=Option.map_eq_some_iff.1 h
   have:=zgL hj
   simp;omega
theorem z9b {k:α}:∀ {l:List (α × β)} {i:Nat},z1t k l=some i→l[i]?=(getM k l).map fun v=>(k,v)
 | [],i,h=>by cases h
 | e::r,i,h=>by
  unfold z1t at h
  unfold getM
  split at h
  ·rename_i hk;cases h;simp [hk]
  ·rename_i hk
   obtain⟨j,hj,e2⟩:=Option.map_eq_some_iff.1 h
   subst e2
   rw[if_neg hk,List.getElem?_cons_succ]
   exact z9b hj
theorem z6x {k:α}:∀ {l:List (α × β)},z1t k l=none→getM k l=none
 | [],h=>rfl
 | e::r,h=>by
  unfold z1t at h
  unfold getM
  split at h
  ·cases h
  ·rename_i hk
   rw[if_neg hk]
   exact z6x (by simpa using h)
theorem z6y {k:α}:∀ {l:List (α × β)} {i:Nat},z1t k l=some i→(getM k l).isSome=true
 | [],i,h=>by cases h
 | e::r,i,h=>by
  unfold z1t at h
  unfold getM
  split at h
  ·rename_i hk;simp [hk]
  ·rename_i hk
   obtain⟨j,hj,e2⟩:=Option.map_eq_some_iff.1 h
   rw[if_neg hk]
   exact z6y hj
theorem zdU {k:α} {l:List (α × β)}:(z1t k l).isSome=(getM k l).isSome:=by
 generalize h:z1t k l=o
 cases o with
 | none=>rw[z6x h];rfl
 | some i=>rw[z6y h];rfl
theorem zqO {k:α} {l:List (α × β)} {n:Nat}:((z1t k l).bind fun i=>(mesF key val n l)[i]?).map ME.val=(getM k l).map val:=by
 cases h:z1t k l with
 | none=>rw[z6x h];rfl
 | some i=>
  simp only[Option.bind_some,zaL,z9b h]
  cases getM k l <;> rfl
theorem zbf {k:α} {v:β}:∀ {l:List (α × β)},z1t k l=none→updM k v l=l++[(k,v)]
 | [],h=>rfl
 | e::r,h=>by
  unfold z1t at h
  unfold updM
  split at h
  ·cases h
  ·rename_i hk
   rw[if_neg hk,zbf (by simpa using h)];rfl
theorem zgG {k:α} {v:β}:∀ {l:List (α × β)} {i:Nat},z1t k l=some i→updM k v l=l.set i (k,v)
 | [],i,h=>by cases h
 | e::r,i,h=>by
  unfold z1t at h
  unfold updM
  split at h
  ·rename_i hk;cases h;simp [hk]
  ·rename_i hk
   obtain⟨j,hj,e2⟩:=Option.map_eq_some_iff.1 h
   subst e2
   rw[if_neg hk,zgG hj];rfl
theorem zgn (k:α) (v:β):∀ (l:List (α × β)) (n:Nat),mesF key val n (l++[(k,v)])=mesF key val n l++[⟨key k,val v,n+l.length⟩]
 | [],n=>rfl
 | e::r,n=>by simp only[List.cons_append,mesF,zgn k v r (n+1),List.length_cons];rw[show n+1+r.length=n+(r.length+1) by omega]
theorem zhA {k:α} {v:β} {l:List (α × β)} {i n:Nat} (h:z1t k l=some i):(mesF key val n l).modify i (fun e=>{ e with val:=val v })=mesF key val n (l.set i (k,v)):=by
 apply List.ext_getElem?
 intro j
 rw[List.getElem?_modify,zaL,zaL,List.getElem?_set]
 have hi:=zgL h
 have hg:=z9b h
 by_cases hij:i=j
 ·subst hij
  rw[hg]
  simp only[if_true,hi]
  obtain⟨w,hw⟩:=Option.isSome_iff_exists.1 (z6y h)
  rw[hw];rfl
 ·simp [hij]
variable {h:Heap} {id:Nat} {l:List (α × β)} {kk:Sh × List Nat} {k:α}
theorem zgo (hh:h[id]?=some (mobj key val l)):mget h (.mp id)=some (id,mesF key val 0 l,l.length):=by
 simp only[mget,hh,mobj]
theorem zgm (hk:KeyI key) (hh:h[id]?=some (mobj key val l)) (hq:z32 kk (.p (key k))=some (key k)) {ok:Bool} {z:AV} :
 z82 kk ok z (.mp id) (.p (key k)) h=some (bif ok then .tup [((getM k l).map val).getD z,AV.p (.bool (getM k l).isSome)] else ((getM k l).map val).getD z):=by
 simp only[z82,hq,zgo hh,Option.map_some,z8x hk,zqO,Option.isSome_map]
 rfl
theorem zgp (hk:KeyI key) (hh:h[id]?=some (mobj key val l)) (hq:z32 kk (.p (key k))=some (key k)) {v:β} (hv:okIn (val v)=true) :
 zaM kk (.mp id) (.p (key k)) (val v) h=some (.und,h.set id (mobj key val (updM k v l)),z29 id (val v)):=by
 simp only[zaM,hq,zgo hh,hv,z8x hk]
 cases hw:z1t k l with
 | none=>
  simp only[mobj,zbf hw,zgn,List.length_append,List.length_cons,List.length_nil,Nat.zero_add]
 | some i=>
  simp only[mobj,zgG hw,zhA hw,List.length_set]
theorem ze0 (k k':α) (v:β):∀ (l:List (α × β)),getM k' (updM k v l)=if k'=k then some v else getM k' l
 | []=>by simp [updM,getM]
 | e::r=>by
  unfold updM
  by_cases h1:k=e.1
  ·rw[if_pos h1];simp only[getM]
   by_cases h2:k'=k
   ·simp [h2]
   ·rw[if_neg h2,if_neg h2,if_neg (by rw[← h1];exact h2)]
  ·rw[if_neg h1];simp only[getM,ze0 k k' v r]
   by_cases h2:k'=e.1
   ·rw[if_pos h2,if_pos h2,if_neg (by rw[h2];exact fun h=>h1 h.symm)]
   ·rw[if_neg h2,if_neg h2]
end
end Go.Am
end
section
/- Lists of entries: what is wrong with them,the program. -/
open Go
set_option linter.all false
set_option maxRecDepth 100000
namespace Go.Am
variable {h:Heap} {K:Post}
def srcP (s:List UInt8 × Int):PV:=.agg [.str s.1,.int .i64 s.2]
def zbA (b:Bool):AV:=.p (.bool b)
theorem zgi:KeyI srcP:=fun a b=>by
 obtain⟨a1,a2⟩:=a
 obtain⟨b1,b2⟩:=b
 have e:decide ((a1,a2)=(b1,b2))=(decide (a1=b1)&&(decide (a2=b2)&&true)):=by rw[Bool.eq_iff_iff];simp
 rw[e]
 rfl
theorem zdp {s:List UInt8 × Int}:z32 (some 2,[2,0]) (.p (srcP s))=some (srcP s):=by simp [srcP,z32,PV.key,PV.shp,PV.sc,PV.cells,PV.kind]
def z6X (l:List Ent):List ((List UInt8 × Int) × Bool):=l.map fun x=>((x.site,x.no),true)
theorem z8r (x:Ent):∀ l:List Ent,getM (x.site,x.no) (z6X l)=if l.any (fun o=>z4K o x) then some true else none
 | []=>rfl
 | y::l=>by
  have ih:=z8r x l
  unfold z6X at ih ⊢
  rw[List.map_cons]
  unfold getM
  rw[ih,List.any_cons]
  have e:((x.site,x.no)=(y.site,y.no))↔z4K y x=true:=by
   unfold z4K
   simp only[Prod.mk.injEq,Bool.and_eq_true,decide_eq_true_eq]
   exact⟨fun h=>⟨h.1.symm,h.2.symm⟩,fun h=>⟨h.1.symm,h.2.symm⟩⟩
  by_cases hc:z4K y x=true
  ·rw[if_pos (e.2 hc),hc];rfl
  ·have hf:z4K y x=false:=by simpa using hc
   rw[if_neg (fun z=>hc (e.1 z)),hf,Bool.false_or]
theorem zpp (l:List Ent) (x:Ent) (h:l.any (fun o=>z4K o x)=false):updM (x.site,x.no) true (z6X l)=z6X (l++[x]):=by
 have:z1t (x.site,x.no) (z6X l)=none:=by
  have e:=zdU (k:=(x.site,x.no)) (l:=z6X l)
  rw[z8r,h] at e
  simpa using e
 rw[zbf this]
 unfold z6X
 simp
attribute [-go_sem] z82 zaM
theorem zuT (l:List Ent) (hn:l.length≤1000000):z0c X z8m [z18 l] h K=K (AB (z4g [] l)) h []:=by
 refine rule ?_
 rw[c_q08i rfl]
 simp only[zfF,go_sem]
 refine z0U (fun k:Nat=>⟨[(3,.mp h.length),(8,z18 l),(9,AI l.length),(10,AI k)],h++[mobj srcP zbA (z6X (l.take k))],[]⟩) (fun k=>k≤l.length∧z4g (l.take k) (l.drop k)=z4g [] l) (fun k=>l.length-k) 0 rfl ⟨by omega,rfl⟩ ?_
 rintro k ⟨hkl,hp⟩
 rcases Nat.lt_or_ge k l.length with hlt | hge
 ·have hg:=z1a Ent.pv hlt
  have w2:IntKind.i64.wrap ((k:Int)+1)=((k+1:Nat):Int):=z0l _ (by omega) (by omega)
  have cx:=z2x (x:=l[k])
  rw[List.drop_eq_getElem_cons hlt,z4g,← List.take_succ_eq_append_getElem hlt] at hp
  have ek:l.take (k+1)=l.take k++[l[k]]:=List.take_succ_eq_append_getElem hlt
  generalize hx:l[k]=x at *
  generalize l.take k=S at *
  have lk:=fun (hp:Heap) (e:hp[h.length]?=some (mobj srcP zbA (z6X S)))=>zgm (kk:=(some 2,[2,0])) (k:=(x.site,x.no)) zgi e zdp (ok:=false) (z:=zbA false)
  have up:=fun (hp:Heap) (e:hp[h.length]?=some (mobj srcP zbA (z6X S)))=>zgp (kk:=(some 2,[2,0])) (k:=(x.site,x.no)) zgi e zdp (v:=true) rfl
  have l1:=fun t=>lk (h++mobj srcP zbA (z6X S)::t) (by simp)
  have u1:=fun t=>up (h++mobj srcP zbA (z6X S)::t) (by simp)
  rw[z8r] at l1
  simp only[zbA,srcP,cond_false,z29,AV.top] at l1 u1
  cases hc:S.any (fun o=>z4K o x) with
  | true=>
   rw[hc,if_pos rfl] at hp
   rw[hc] at l1
   simp only[if_true,Option.map_some,Option.getD_some,zbA] at l1
   simp only[go_sem,hlt,hg,cx,Ent.pv,splice,l1]
   rw[← hp]
  | false=>
   rw[hc,if_neg (by simp)] at hp
   rw[hc] at l1
   have us:=zpp S x hc
   simp only[Bool.false_eq_true,if_false,Option.map_none,Option.getD_none] at l1
   have nl0:¬ h.length<0:=by omega
   simp only[nl0,if_false] at u1
   rw[us] at u1
   simp only[go_sem,hlt,hg,cx,Ent.pv,splice,l1,u1,w2]
   refine⟨k+1,?_,⟨by omega,?_⟩,by omega⟩
   ·rw[ek]
   ·rw[ek];rw[← ek];exact hp
 ·have ek:k=l.length:=by omega
  subst ek
  rw[List.drop_length] at hp
  simp only[go_sem,Nat.lt_irrefl]
  rw[← hp];rfl
theorem z5j {p:Option Ent} {x:Ent} {r:List Ent}:z1f p (x::r)=if entF x≠0 then entF x else if (match p with | some q=>decide (z12 x q≤0) | none=>false)=true then 7 else z1f (some x) r:=rfl
theorem z4A (r:List Ent) (hr:∀ x∈r,EntOk x) (hn:r.length≤1000000):z0c X z3E [z18 r] h K=K (AI (z4y r)) h []:=by
 refine rule ?_
 rw[c_q07q rfl]
 have tw:=fun h K=>zuT (h:=h) (K:=K) r hn
 unfold z4y
 by_cases h1:(2000:Int)<r.length
 ·simp only[zc6,go_sem,h1]
 simp only[zc6,go_sem,h1]
 refine z0U (fun k:Nat=>⟨[(0,z18 r),(9,z18 r),(10,AI r.length),(11,AI k)],h,[]⟩) (fun k=>k≤r.length∧z1f (r.take k).getLast? (r.drop k)=z1f none r) (fun k=>r.length-k) 0 rfl ⟨by omega,rfl⟩ ?_
 rintro k ⟨hkl,hp⟩
 rcases Nat.lt_or_ge k r.length with hlt | hge
 ·have hg:=z1a Ent.pv hlt
  have w2:IntKind.i64.wrap ((k:Int)+1)=((k+1:Nat):Int):=z0l _ (by omega) (by omega)
  have hx:=hr _ (List.getElem_mem hlt)
  have hlast:(r.take (k+1)).getLast?=some r[k]:=by rw[List.take_succ_eq_append_getElem hlt];exact List.getLast?_concat
  rw[List.drop_eq_getElem_cons hlt,z5j] at hp
  have cx:=z2x (x:=r[k])
  have rf:=fun h K=>zdE (h:=h) (K:=K) r[k] hx
  simp only[Ent.pv] at rf
  by_cases h2:entF r[k]=0
  ·rw[if_neg (by simp [h2])] at hp
   cases k with
   | zero=>
    simp only[List.take_zero,List.getLast?_nil,reduceCtorEq,if_false] at hp
    have hlt0:(0:Int)<r.length:=by omega
    simp only[go_sem,hlt0,hg,cx,Ent.pv,rf,h2,Int.lt_irrefl,splice,show IntKind.i64.wrap 1=1 from rfl]
    exact⟨0+1,rfl,⟨by omega,by rw[hlast];exact hp⟩,by omega⟩
   | succ j=>
    have hj:j<r.length:=by omega
    have hgj:=z1a Ent.pv hj
    have cj:=z2x (x:=r[j])
    have hlj:(r.take (j+1)).getLast?=some r[j]:=by rw[List.take_succ_eq_append_getElem hj];exact List.getLast?_concat
    have w3:IntKind.i64.wrap (((j+1:Nat):Int)-1)=(j:Int):=by rw[z0l _ (by omega) (by omega)];omega
    have p1:(0:Int)<((j+1:Nat):Int):=by omega
    have bt:=fun h K=>zoO (h:=h) (K:=K) r[j+1] r[j]
    simp only[Ent.pv] at bt
    rw[hlj] at hp
    by_cases h3:z12 r[j+1] r[j]≤0
    ·simp only[h3,decide_true,if_true] at hp
     simp only[go_sem,hlt,hj,hg,hgj,cx,cj,Ent.pv,rf,h2,p1,w3,bt,h3,splice]
     rw[← hp]
     rfl
    ·simp only[h3,decide_false,reduceCtorEq,if_false] at hp
     simp only[go_sem,hlt,hj,hg,hgj,cx,cj,Ent.pv,rf,h2,p1,w3,bt,h3,w2,splice]
     exact⟨j+1+1,rfl,⟨by omega,by rw[hlast];exact hp⟩,by omega⟩
  ·rw[if_pos h2] at hp
   simp only[go_sem,hlt,hg,cx,Ent.pv,rf,h2,splice]
   rw[← hp,if_pos h2]
 ·have ek:k=r.length:=by omega
  subst ek
  rw[List.drop_length] at hp
  have hz:z1f none r=0:=by rw[← hp];cases (r.take r.length).getLast? <;> rfl
  rw[if_neg (by simp [hz])]
  cases ht:z4g [] r with
  | true=>
   rw[ht] at tw
   simp only[go_sem,Nat.lt_irrefl,tw]
   first | done | rfl
  | false=>
   rw[ht] at tw
   simp only[go_sem,Nat.lt_irrefl,tw]
   first | done | rfl
end Go.Am
end
section
/- Lists of entries: sorted,looked through: printed by program. -/
open Go
set_option linter.unusedSimpArgs false
namespace Go.Am
attribute [-go_sem] PV.cells splice
variable {h:Heap} {K:Post}
theorem z6T (id n:Nat) (l tl:List PV) (hn:n=l.length+tl.length) (hs:shps (some 8) l) (hl:l.length≤1000) (hh:h[id]?=some (.row (some 8) (l++tl) 0)) {g:Nat} {caps:List AV} {c:PV→PV→Int} (hc:Cmps g caps c l id h) :
 z0c X z6I [.own id n 0 l.length,AI 0,AI l.length,.fn g caps] h K=K (.tup []) (h.set id (.row (some 8) (zdo (ltC c) l++tl) 0)) []:=by
 refine rule ?_
 rw[c_q06g]
 have hid:=z3G hh
 have hst:∀ o,(h.set id o)[id]?=some o:=fun o=>z4u hid
 simp only[zfC,go_sem,show IntKind.i64.wrap 1=1 from rfl]
 refine z0U (fun i:Nat=>⟨[(0,.own id n 0 l.length),(1,AI 0),(2,AI l.length),(3,.fn g caps),(8,AI i)],h.set id (.row (some 8) ((z48 (ltC c) (l.take i)).reverse++(l.drop i++tl)) 0),[]⟩) (fun i=>1≤i∧(i≤l.length∨i=1)) (fun i=>l.length-i) 1 ?_ (by simp) ?_
 ·have:(z48 (ltC c) (l.take 1)).reverse++(l.drop 1++tl)=l++tl:=by cases l <;> rfl
  rw[this,zgB hh];rfl
 rintro i ⟨hi1,hi2⟩
 rcases Nat.lt_or_ge i l.length with hlt | hge
 ·simp only[go_sem,hlt]
  have hxl:l[i]∈l:=List.getElem_mem hlt
  generalize hx:l[i]=x at *
  generalize hR:z48 (ltC c) (l.take i)=R
  have hRl:R.length=i:=by rw[← hR,zh6];simp;omega
  have hRm:∀ z∈R,z∈l:=fun z hz=>List.mem_of_mem_take ((z4G (ltC c) (l.take i)).mem_iff.1 (by rw[hR];exact hz))
  have hdrop:l.drop i=x::l.drop (i+1):=by rw[← hx];exact List.drop_eq_getElem_cons hlt
  have hnext:z48 (ltC c) (l.take (i+1))=insR (ltC c) x R:=by rw[z6V _ _ _ hlt,hR,hx]
  refine z0U (fun t:List PV × List PV=>⟨[(0,.own id n 0 l.length),(1,AI 0),(2,AI l.length),(3,.fn g caps),(8,AI i),(9,AI t.1.length)],h.set id (.row (some 8) (t.1.reverse++x::t.2) 0),[]⟩)
   (fun t=>∃ B,R=B++t.1∧t.2=B.reverse++(l.drop (i+1)++tl)∧∀ b∈B,ltC c x b=true) (fun t=>t.1.length) (R,l.drop (i+1)++tl) (by rw[hdrop,hRl];rfl) ⟨[],rfl,rfl,by simp⟩ ?_
  rintro⟨A,C⟩ ⟨B,q1,q2,q3⟩
  dsimp only at q1 q2 q3
  have hlen:(A.reverse++x::C).length=n:=by
   have:R.length=B.length+A.length:=by rw[q1];simp
   rw[q2];simp;omega
  have hBA:B.length+A.length<l.length:=by
   have:R.length=B.length+A.length:=by rw[q1];simp
   omega
  have hln:l.length≤n:=by omega
  have w1:IntKind.i64.wrap ((i:Int)+1)=((i+1:Nat):Int):=z0l _ (by omega) (by omega)
  cases A with
  | nil=>
   have hd:insR (ltC c) x R=B++[x]:=by rw[q1];exact zgh (ltC c) x [] B q3 (fun y r h=>by cases h)
   simp only[go_sem,Int.lt_irrefl,w1]
   refine⟨i+1,?_,by omega,by omega⟩
   simp only[hnext,hd,q2,List.reverse_append,List.reverse_nil,List.nil_append,List.reverse_cons,List.append_assoc,List.cons_append]
  | cons y A=>
   have hyl:y∈l:=hRm y (by rw[q1];simp)
   have g1:=zub (y::A) C x
   have g2:=zqD A C x y
   have sw:=zqE A C x y
   simp only[List.length_cons] at hBA
   generalize hrow:(y::A).reverse++x::C=row at *
   simp only[List.length_cons] at g1
   have w2:IntKind.i64.wrap (((A.length+1:Nat):Int)-1)=(A.length:Int):=by rw[z0l _ (by omega) (by omega)];omega
   have p1:(0:Int)<((A.length+1:Nat):Int):=by omega
   have b1:A.length+1<l.length:=by omega
   have b2:A.length<l.length:=by omega
   have cx:=zeH (hs x hxl)
   have cy:=zeH (hs y hyl)
   have hcc:=fun o K=>hc o x hxl y hyl K
   by_cases hxy:c x y<0
   ·have g3:(row.set (A.length+1) y)[A.length]?=some y:=by rw[List.getElem?_set_ne (by omega),g2]
    have lx:=zpb (hs x hxl)
    have ly:=zpb (hs y hyl)
    have sx:=zpa (hs x hxl)
    have sy:=zpa (hs y hyl)
    simp only[z0a] at lx ly
    have t1:=fun i xs h1=>zgE (hs x hxl) (hs y hyl) id i 0 xs h1
    have t2:=fun i xs h1=>zgE (hs y hyl) (hs x hxl) id i 0 xs h1
    simp only[go_sem,hst,p1,hlen,g1,g2,g3,w2,b1,b2,hln,cx,cy,hcc,hxy,lx,ly,sx,sy,t1,t2,sw]
    refine⟨(A,y::C),rfl,⟨B++[y],by simp [q1],by simp [q2],fun b hb=>?_⟩,by simp⟩
    rw[List.mem_append,List.mem_singleton] at hb
    rcases hb with hb | rfl
    ·exact q3 b hb
    ·simpa [ltC] using hxy
   ·have hd:insR (ltC c) x R=B++x::y::A:=by rw[q1];exact zgh (ltC c) x (y::A) B q3 (fun z r h=>by cases h;simpa [ltC] using hxy)
    simp only[go_sem,hst,p1,hlen,g1,g2,w2,b1,b2,hln,cx,cy,hcc,hxy,w1]
    refine⟨i+1,?_,by omega,by omega⟩
    simp only[hnext,hd,← hrow,q2,List.reverse_append,List.reverse_cons,List.append_assoc,List.cons_append,List.nil_append]
 ·have hge':¬ i<l.length:=by omega
  have e1:l.take i=l:=List.take_of_length_le hge
  have e2:l.drop i=[]:=List.drop_of_length_le hge
  simp only[go_sem,hge',e1,e2]
  rfl
theorem z6Y (id:Nat) (l:List PV) (hs:shps (some 8) l) (hl:l.length≤19) (hh:h[id]?=some (.row (some 8) l 0)) {g:Nat} {caps:List AV} {c:PV→PV→Int} (hc:Cmps g caps c l id h) :
 z0c X z9Q [.own id l.length 0 l.length,.fn g caps] h K=K (.tup []) (h.set id (.row (some 8) (zdo (ltC c) l) 0)) []:=by
 refine rule ?_
 rw[c_q062]
 have key:∀ K:Post,z0c X z9R [.own id l.length 0 l.length,AI l.length,.fn g caps] h K=K (.tup []) (h.set id (.row (some 8) (zdo (ltC c) l) 0)) []:=by
  intro K
  refine rule ?_
  rw[c_q07g]
  have is:=fun K=>z6T (h:=h) (K:=K) id l.length l [] rfl hs (by omega) (by rw[List.append_nil];exact hh) hc
  simp only[List.append_nil] at is
  have b1:¬ ((20:Int)≤(l.length:Int)):=by omega
  have b2:¬ ((20:Int)<(l.length:Int)):=by omega
  simp only[zfD,go_sem]
  refine z0U (fun _:Unit=>⟨[(0,.own id l.length 0 l.length),(1,AI l.length),(2,.fn g caps),(6,AI 20),(7,AI 0),(8,AI 20)],h,[]⟩) (fun _=>True) (fun _=>0) () rfl trivial ?_
  intro _ _
  simp only[go_sem,b1,is]
  refine z0U (fun _:Unit=>⟨[(0,.own id l.length 0 l.length),(1,AI l.length),(2,.fn g caps),(6,AI 20)],h.set id (.row (some 8) (zdo (ltC c) l) 0),[]⟩) (fun _=>True) (fun _=>0) () rfl trivial ?_
  intro _ _
  simp only[go_sem,b2]
 simp only[zkQ,go_sem,key]
theorem z7i {v:AV} {g:Nat} {caps:List AV} {p:PV→Bool} {xs:List PV} (hv:Shows (some 8) v xs h) (hp:Tells g caps p xs h) (hl:xs.length≤1000000000) :
 z0c X z9P [v,.fn g caps] h K=K (AI (idxP p xs)) h []:=by
 refine rule ?_
 rw[c_q05u]
 have vl:=hv.len
 simp only[zfA,go_sem,vl]
 refine z0U (fun k:Nat=>⟨[(0,v),(1,.fn g caps),(7,AI xs.length),(8,AI k)],h,[]⟩) (fun k=>k≤xs.length∧∀ x∈xs.take k,p x=false) (fun k=>xs.length-k) 0 rfl (by simp) ?_
 rintro k ⟨hk,hn⟩
 rcases Nat.lt_or_ge k xs.length with hlt | hge
 ·obtain⟨a,ha,hb⟩:=hv.get k hlt
  have w2:IntKind.i64.wrap ((k:Int)+1)=((k+1:Nat):Int):=z0l _ (by omega) (by omega)
  have ht:=hp _ (List.getElem_mem hlt)
  cases hpk:p xs[k] with
  | true=>
   have hf:xs.findIdx p=k:=by
    rw[List.findIdx_eq hlt]
    refine⟨hpk,fun j hj=>?_⟩
    have:=hn xs[j] (by rw[List.mem_take_iff_getElem];exact⟨j,by omega,rfl⟩)
    simpa using this
   simp only[go_sem,hlt,ha,hb,ht,hpk,w2]
   simp only[idxP,hf,hlt,if_true]
  | false=>
   simp only[go_sem,hlt,ha,hb,ht,hpk,w2]
   refine⟨k+1,rfl,⟨by omega,fun x hx=>?_⟩,by omega⟩
   rw[List.take_succ_eq_append_getElem hlt,List.mem_append,List.mem_singleton] at hx
   rcases hx with hx | hx
   ·exact hn x hx
   ·rw[hx];exact hpk
 ·have e1:k=xs.length:=by omega
  subst e1
  simp only[go_sem,Nat.lt_irrefl]
  rw[List.take_length] at hn
  have:¬ xs.findIdx p<xs.length:=by
   rw[Nat.not_lt,Nat.le_iff_lt_or_eq];right
   exact (List.findIdx_eq_length.2 (fun x hx=>by simp [hn x hx])).symm
  simp [idxP,this]
theorem z4Q {g:Nat} {caps:List AV} {p:PV→Bool} {xs:List PV} (hp:Tells g caps p xs h) (hs:shps (some 8) xs) (hl:xs.length≤1000000000) :
 z0c X z9N [.p (.sl (some 8) xs),.fn g caps] h K=K (AB (xs.any p)) h []:=by
 refine rule ?_
 rw[c_q05h]
 have vi:=fun K=>z7i (h:=h) (K:=K) (zgC hs) hp hl
 simp only[zkO,go_sem,vi,zqB]
end Go.Am
end
section
/- Lists of entries: what is wrong with them,the reference. -/
open Go
set_option linter.all false
set_option maxRecDepth 100000
namespace Go.Am
variable {h:Heap} {K:Post}
attribute [-go_sem] oEqa
def zeL:PV→Ent
 | .agg [.str a,.int _ b,.int _ c,.int _ d,.str e,.str f,.str g,.int _ i]=>⟨a,b,c,d,e,f,g,i⟩
 | _=>ent0
theorem zbe (x:Ent):zeL x.pv=x:=rfl
theorem s_EF1 (o x:Ent) (id:Nat) (hx:h[id]?=some x.box):z0c X z8g [.p o.pv,.ref id 0] h K=K (AB (z4K o x)) h []:=by
 refine rule ?_
 rw[c_q03w rfl]
 have q:=fun h K=>zeD (h:=h) (K:=K) o x
 have hl:=z3G hx
 have hx2:∀ t,(h++t)[id]?=some x.box:=fun t=>by rw[List.getElem?_append_left hl];exact hx
 simp only[Ent.pv] at q
 unfold Ent.box at hx hx2
 simp only[zkI,Ent.pv,go_sem,hx,hx2,q]
attribute [-go_sem] z7T
theorem z2z (r:List Ent) (hr:∀ x∈r,EntOk x) (hn:r.length≤1000000):z0c X z3D [z18 r] h K=K (AI (z4y r)) h []:=by
 refine rule ?_
 rw[c_q03v rfl]
 unfold z4y
 by_cases h1:(2000:Int)<r.length
 ·simp only[zch,go_sem,h1]
 simp only[zch,go_sem,h1]
 refine z0U (fun k:Nat=>⟨[(0,z18 r),(11,z18 r),(12,AI r.length),(13,AI k)],h,[]⟩) (fun k=>k≤r.length∧z1f (r.take k).getLast? (r.drop k)=z1f none r∧∀ x∈r.take k,entF x=0) (fun k=>r.length-k) 0 rfl ⟨by omega,rfl,by simp⟩ ?_
 rintro k ⟨hkl,hp,hz⟩
 rcases Nat.lt_or_ge k r.length with hlt | hge
 ·have hg:=z1a Ent.pv hlt
  have w2:IntKind.i64.wrap ((k:Int)+1)=((k+1:Nat):Int):=z0l _ (by omega) (by omega)
  have hx:=hr _ (List.getElem_mem hlt)
  have hlast:(r.take (k+1)).getLast?=some r[k]:=by rw[List.take_succ_eq_append_getElem hlt];exact List.getLast?_concat
  rw[List.drop_eq_getElem_cons hlt,z5j] at hp
  have cx:=z2x (x:=r[k])
  have rf:=fun h K=>zd4 (h:=h) (K:=K) r[k] hx
  simp only[Ent.pv] at rf
  by_cases h2:entF r[k]=0
  ·rw[if_neg (by simp [h2])] at hp
   have hz':∀ x∈r.take (k+1),entF x=0:=fun x hx=>by
    rw[List.take_succ_eq_append_getElem hlt,List.mem_append,List.mem_singleton] at hx
    rcases hx with hx | rfl
    ·exact hz x hx
    ·exact h2
   cases k with
   | zero=>
    simp only[List.take_zero,List.getLast?_nil,reduceCtorEq,if_false] at hp
    have hlt0:(0:Int)<r.length:=by omega
    simp only[go_sem,hlt0,hg,cx,Ent.pv,rf,h2,Int.lt_irrefl,splice,show IntKind.i64.wrap 1=1 from rfl]
    exact⟨0+1,rfl,⟨by omega,by rw[hlast];exact hp,hz'⟩,by omega⟩
   | succ j=>
    have hj:j<r.length:=by omega
    have hgj:=z1a Ent.pv hj
    have cj:=z2x (x:=r[j])
    have hlj:(r.take (j+1)).getLast?=some r[j]:=by rw[List.take_succ_eq_append_getElem hj];exact List.getLast?_concat
    have w3:IntKind.i64.wrap (((j+1:Nat):Int)-1)=(j:Int):=by rw[z0l _ (by omega) (by omega)];omega
    have p1:(0:Int)<((j+1:Nat):Int):=by omega
    have t1:=zm2 h2
    have t2:=zm2 (hz r[j] (by rw[List.mem_take_iff_getElem];exact⟨j,by omega,rfl⟩))
    have bt:=fun h K=>zd5 (h:=h) (K:=K) r[j] r[j+1] t2 t1
    simp only[Ent.pv] at bt
    rw[hlj] at hp
    have hneg:=zhu r[j+1] r[j]
    by_cases h3:z12 r[j+1] r[j]≤0
    ·have h3':0≤z12 r[j] r[j+1]:=by omega
     simp only[h3,decide_true,if_true] at hp
     simp only[go_sem,hlt,hj,hg,hgj,cx,cj,Ent.pv,rf,h2,p1,w3,bt,h3',splice]
     rw[← hp]
     rfl
    ·have h3':¬ 0≤z12 r[j] r[j+1]:=by omega
     simp only[h3,decide_false,reduceCtorEq,if_false] at hp
     simp only[go_sem,hlt,hj,hg,hgj,cx,cj,Ent.pv,rf,h2,p1,w3,bt,h3',w2,splice]
     exact⟨j+1+1,rfl,⟨by omega,by rw[hlast];exact hp,hz'⟩,by omega⟩
  ·rw[if_pos h2] at hp
   simp only[go_sem,hlt,hg,cx,Ent.pv,rf,h2,splice]
   rw[← hp,if_pos h2]
 ·have ek:k=r.length:=by omega
  subst ek
  rw[List.drop_length] at hp
  have hz0:z1f none r=0:=by rw[← hp];cases (r.take r.length).getLast? <;> rfl
  rw[if_neg (by simp [hz0])]
  simp only[go_sem,Nat.lt_irrefl]
  rw[z7T]
  simp only[z5d,go_sem]
  refine z0U (fun k:Nat=>⟨[(0,z18 r),(36,z18 r),(37,AI r.length),(38,AI k)],h,[]⟩) (fun k=>k≤r.length∧z4g (r.take k) (r.drop k)=z4g [] r) (fun k=>r.length-k) 0 rfl ⟨by omega,rfl⟩ ?_
  rintro k ⟨hkl2,hp2⟩
  rcases Nat.lt_or_ge k r.length with hlt | hge
  ·have hg:=z1a Ent.pv hlt
   have w2:IntKind.i64.wrap ((k:Int)+1)=((k+1:Nat):Int):=z0l _ (by omega) (by omega)
   have cx:=z2x (x:=r[k])
   rw[List.drop_eq_getElem_cons hlt,z4g,← List.take_succ_eq_append_getElem hlt] at hp2
   have cf:=fun K=>z4Q (h:=h++[r[k].box]) (K:=K) (g:=z8g) (caps:=[.ref h.length 0]) (p:=fun v=>z4K (zeL v) r[k]) (xs:=(r.take k).map Ent.pv)
    (fun v hv K=>by
     obtain⟨o,_,rfl⟩:=List.mem_map.1 hv
     dsimp only
     rw[zbe]
     exact s_EF1 o r[k] h.length (by simp)) zfM (by simp;omega)
   have ea:((r.take k).map Ent.pv).any (fun v=>z4K (zeL v) r[k])=(r.take k).any (fun o=>z4K o r[k]):=by
    rw[List.any_map];rfl
   rw[ea] at cf
   have hw:win (r.map Ent.pv) 0 k=(r.take k).map Ent.pv:=by simp [win,List.map_take]
   have hkl3:k≤r.length:=by omega
   unfold Ent.box at cf
   cases hc:(r.take k).any (fun o=>z4K o r[k]) with
   | true=>
    rw[hc,if_pos rfl] at hp2
    rw[hc] at cf
    simp only[go_sem,hlt,hg,cx,Ent.pv,splice,hkl3,hw,↓cf,cf]
    rw[← hp2]
    first | done | rfl
   | false=>
    rw[hc,if_neg (by simp)] at hp2
    rw[hc] at cf
    simp only[go_sem,hlt,hg,cx,Ent.pv,splice,hkl3,hw,↓cf,cf,w2]
    exact⟨k+1,rfl,⟨by omega,hp2⟩,by omega⟩
  ·have ek:k=r.length:=by omega
   subst ek
   rw[List.drop_length] at hp2
   have:z4g [] r=false:=by rw[← hp2];rfl
   simp only[go_sem,Nat.lt_irrefl,this]
   first | done | rfl
end Go.Am
end
section
/- Where a byte stands in a text. -/
open Go
set_option linter.all false
namespace Go.Am
variable {h:Heap} {K:Post}
theorem zba (s:List UInt8) (c:UInt8):z0c X z3B [AS s,.p (.int .u8 c.toNat)] h K=K (AI (idxB s c)) h []:=by
 refine rule ?_
 rw[zsy rfl]
 simp only[zfv,go_sem,zg4]
theorem zmX (a b:List UInt8) (c:UInt8) (ha:c∉a):idxB (a++c::b) c=(a.length:Int):=by
 unfold idxB
 have h1:(a++c::b).findIdx (· == c)=a.length:=by
  rw[List.findIdx_append]
  have:a.findIdx (· == c)=a.length:=by
   rw[List.findIdx_eq_length]
   intro x hx
   simp
   intro e;subst e;exact ha hx
  rw[this,if_neg (by omega)]
  simp [List.findIdx_cons]
 rw[h1,if_pos (by simp)]
end Go.Am
end
section
/- Lengths of numbers in bits,and comparisons of plain values. -/
open Go
namespace Go.Am
variable {h:Heap} {K:Post}
set_option maxRecDepth 20000
end Go.Am
end
section
/- Lists of strings sorted,left out: printed by program. -/
open Go
set_option linter.unusedSimpArgs false
namespace Go.Am
attribute [-go_sem] PV.cells splice
variable {h:Heap} {K:Post}
end Go.Am
end
section
/- What is drawn: numbers,measured values. -/
open Go
namespace Go.Am
variable {L:List Int} {a:Int}
theorem zq2 (hp:posN 14 a) (u v:Int) (huv:u≤v) (hu : -1000000000000≤u) (hv:v≤1000000000000):∃ k a2:Int,a≤a2∧a2≤a+2 ∧ -1099511627776≤k∧k≤1099511627776 ∧
 Gen z3u [AI u,AI v] L a a2 (AI k):=by
 have w1:IntKind.i64.wrap (u-1)=u-1:=z0l _ (by omega) (by omega)
 have w2:IntKind.i64.wrap (v+1)=v+1:=z0l _ (by omega) (by omega)
 by_cases hf:z10 L a 12=0
 ·have hm:=z8J (L:=L) (a:=a+1) (l:=[u-1,v+1,u,v,-1099511627776,1099511627776]) (by simp) (by simp)
  simp only[List.mem_cons,List.not_mem_nil,or_false] at hm
  refine⟨z33 [u-1,v+1,u,v,-1099511627776,1099511627776] L (a+1),a+1+1,by omega,by omega,by omega,by omega,Gen.of fun h id hid=>?_⟩
  rw[zsz rfl]
  simp only[zf2,go_sem,hid,z8K hp,hf,w1,w2]
 ·have hm:=z5Y L (a+1) huv (by omega)
  refine⟨z16 u v L (a+1),a+1+1,by omega,by omega,by omega,by omega,Gen.of fun h id hid=>?_⟩
  rw[zsz rfl]
  simp only[zf2,go_sem,hid,z8K hp,hf,w1,w2,huv,show -1152921504606846976≤u by omega,show v≤1152921504606846976 by omega]
end Go.Am
end
section
/- Strings that are drawn. -/
open Go
set_option linter.unusedSimpArgs false
namespace Go.Am
variable {L:List Int} {a:Int} {h l:Heap} {id:Nat} {K:Post}
def isS:PV→Bool
 | .str _=>true
 | _=>false
def unS:PV→List UInt8
 | .str s=>s
 | _=>[]
def z1J (l:List (List UInt8)) (L:List Int) (a:Int):List UInt8:=l.getD (z10 L a l.length).toNat []
theorem zo1 {l:List (List UInt8)} {L:List Int} {a:Int} (hl:0<l.length) (hl2:l.length<4611686018427387904):z1J l L a∈l:=by
 obtain⟨b1,b2⟩:=z3l L a l.length (by omega) (by omega)
 unfold z1J
 have:(z10 L a l.length).toNat<l.length:=by omega
 simp only[List.getD,List.getElem?_eq_getElem this,Option.getD_some]
 exact List.getElem_mem _
theorem zvy {xs:List PV} (h:xs.all isS=true):xs=(xs.map unS).map PV.str:=by
 induction xs with
 | nil=>rfl
 | cons x r ih=>
  simp only[List.all_cons,Bool.and_eq_true] at h
  simp only[List.map_cons]
  rw[← ih h.2]
  cases x <;> first | rfl | cases h.1
theorem zmS (hp:posN 0 a) (xs:List PV) (hx:xs.all isS=true) (hl:0<xs.length) (hl2:xs.length<4611686018427387904) :
 Gen z1l [.p (.sl none xs)] L a (a+1) (AS (z1J (xs.map unS) L a)):=by
 refine Gen.of fun h id hid=>?_
 rw[c_q03s rfl]
 obtain⟨b1,b2⟩:=z3l L a xs.length (by omega) (by omega)
 have e4:=z8z (k:=.i64) b1
 have e5:xs[(z10 L a xs.length).toNat]?=some (.str (z1J (xs.map unS) L a)):=by
  have hm:=zvy hx
  generalize hq:xs.map unS=q at *
  subst hm
  simp only[List.length_map] at *
  rw[z1a PV.str (show (z10 L a q.length).toNat<q.length by omega)]
  simp [z1J,List.getD,show (z10 L a q.length).toNat<q.length by omega]
 simp only[zkH,go_sem,z1S hid hp,e4,e5]
theorem zaw (hid:id<h.length) (hp:posN 0 a) {xs:List PV} (hx:xs.all isS=true) (hl:0<xs.length) (hl2:xs.length<4611686018427387904) :
 z0c X z1l [.ref id 0,.p (.sl none xs)] (h.set id (strm L a)) K=K (AS (z1J (xs.map unS) L a)) (h.set id (strm L (a+1))) []:=(zmS hp xs hx hl hl2).set hid
theorem zav (hid:id<h.length) (hp:posN 0 a) {xs:List PV} (hx:xs.all isS=true) (hl:0<xs.length) (hl2:xs.length<4611686018427387904) :
 z0c X z1l [.ref id 0,.p (.sl none xs)] (h.set id (strm L a)++l) K=K (AS (z1J (xs.map unS) L a)) (h.set id (strm L (a+1))++l) []:=(zmS hp xs hx hl hl2).app hid
theorem zdC (hp:posN 0 a) {xs:List PV} (hx:xs.all isS=true) (hl:0<xs.length) (hl2:xs.length<4611686018427387904) :
 z0c X z1l [.ref 0 0,.p (.sl none xs)] (strm L a::l) K=K (AS (z1J (xs.map unS) L a)) (strm L (a+1)::l) []:=(zmS hp xs hx hl hl2).hd
attribute [go_sem ↓] zaw zav zdC
attribute [go_sem] zaw zav zdC isS unS
end Go.Am
end
section
/- What is drawn: strings,limits. -/
open Go
set_option linter.unusedSimpArgs false
namespace Go.Am
variable {L:List Int} {a:Int} {h l:Heap} {id:Nat} {K:Post}
end Go.Am
end
section
/- Sorting records: printed by program. -/
open Go
set_option linter.unusedSimpArgs false
namespace Go.Am
attribute [-go_sem] PV.cells splice
variable {h:Heap} {K:Post}
end Go.Am
end
section
/- Leaving out what is alike: printed by program. -/
open Go
set_option linter.unusedSimpArgs false
namespace Go.Am
attribute [-go_sem] PV.cells splice
variable {h:Heap} {K:Post}
end Go.Am
end
section
/- What is drawn: records. -/
open Go
set_option linter.unusedSimpArgs false
namespace Go.Am
variable {L:List Int} {a:Int} {h l:Heap} {id:Nat} {K:Post}
end Go.Am
end
section
/- Merging two ordered lists: by sorting and leaving out what is alike,and by looking each one up. Plain lists. -/
namespace Go.Am
variable {α:Type}
structure Ordr (c:α→α→Int):Prop where
 neg:∀ a b,c b a = - c a b
 trans:∀ a b d,c a b≤0→c b d≤0→c a d≤0
theorem Ordr.refl {c:α→α→Int} (o:Ordr c) (a:α):c a a=0:=by have:=o.neg a a;omega
variable {c:α→α→Int} {q:α→α→Bool} {a b:List α}
end Go.Am
end
section
/- Records alike;copies;bins. -/
open Go
set_option linter.unusedSimpArgs false
namespace Go.Am
variable {h:Heap} {K:Post}
def zuW (a b:Rec):Bool:=decide (a.unit=b.unit)&&(decide (a.time=b.time)&&(decide (a.site=b.site)&&decide (a.res=b.res)))
theorem zoS (a b:Rec):zuW a b=true↔a=b:=by
 cases a;cases b
 simp [zuW]
end Go.Am
end
section
/- Sorting numbers: printed by program. -/
open Go
set_option linter.unusedSimpArgs false
namespace Go.Am
attribute [-go_sem] PV.cells splice
variable {h:Heap} {K:Post}
end Go.Am
end
section
/- Bins,both ways;lists joined;records sorted. -/
open Go
set_option linter.unusedSimpArgs false
namespace Go.Am
variable {h:Heap} {K:Post}
end Go.Am
end
section
/- Lists of records joined,compared,merged. -/
open Go
set_option linter.unusedSimpArgs false
namespace Go.Am
variable {h:Heap} {K:Post}
instance:DecidableEq Rec:=fun a b=>decidable_of_iff (zuW a b=true) (zoS a b)
end Go.Am
end
section
/- Records merged asv the reference does it. -/
open Go
set_option linter.unusedSimpArgs false
namespace Go.Am
variable {h:Heap} {K:Post}
end Go.Am
end
section
/- Retests: which record of a unit counts. Plain lists;both ways yield the same. -/
set_option linter.all false
namespace Go.Am
def badR (l:List Lim) (r:Rec):Bool:=decide (0≤ztR l r.res)
def rec0:Rec:=⟨[],0,[],[]⟩
def cntL (l:List Lim) (rule:Int) (f:List Rec):Rec:=
 if rule=1 then f.headD rec0 else if f.findIdx (fun x=>!badR l x)<f.length∧rule=3 then f.getD (f.findIdx fun x=>!badR l x) rec0 else f.getLastD rec0
end Go.Am
end
section
/- Lists of strings. -/
open Go
set_option linter.all false
namespace Go.Am
variable {h:Heap} {K:Post}
theorem zpD:X.ex2=libF GRL PRL:=rfl
abbrev AStr (us:List (List UInt8)):AV:=.p (.sl none (us.map PV.str))
theorem zr9 {us:List (List UInt8)}:shps none (us.map PV.str):=fun x hx=>by obtain⟨n,_,rfl⟩:=List.mem_map.1 hx;rfl
end Go.Am
end
section
/- The abstract machine,part L4: strings.Repeat,strings.Trim,math/bits.TrailingZeros64 asv rows. -/
set_option linter.all false
namespace Go.Am
variable {P:Program} {gl:Nat→Option PV}
open Go.Shelf
theorem zkk {w w':World} (h:Go.RowKit.Below w.heap.size w w'):WExt w w':=⟨h.size,fun b hb=>h.block b hb,by unfold zed;rw[h.os,h.tape,h.output]⟩
end Go.Am
end
section
/- The abstract machine,part L5: strings.Count at one byte,strings.Join asv rows. -/
set_option linter.all false
namespace Go.Am
variable {P:Program} {gl:Nat→Option PV}
open Go.Shelf
theorem countRow {ρ:Ren} (L:Go.Proofs.Lays.n138 P ρ) (he:∀ us w,(callFunc (ρ.f 138) us).run P w = .ok (.enter (ρ.f 138) us) w):PureRow P gl (ρ.f 138) zbF where
 enter:=he
 run M w vs r us hc hb hG hl hr hs:=by
  unfold zbF at hs
  split at hs
  ·rename_i s c
   match us,hl with
   | [u,v],_=>
    have q:=hr 0 _ u rfl rfl
    cases q
    have q2:=hr 1 _ v rfl rfl
    cases q2
    simp only[Option.some.injEq] at hs
    subst hs
    refine (Go.Proofs.Any.strings_Count_one L ⟨s.toArray⟩ c w).mono fun e w' h=>?_
    obtain⟨rfl,rfl⟩:=h
    exact⟨_,rfl,WExt.refl _,.p _ _ (.int _ _)⟩
  ·cases hs
theorem zmM (l:List (List UInt8)):(l.map PV.str).flatMap PV.cells=l.map PV.str:=by
 induction l with
 | nil=>rfl
 | cons a r ih=>rw[List.map_cons,List.flatMap_cons,ih];rfl
theorem joinRow {ρ:Ren} (L:Go.Proofs.Lays.n156 P ρ) (E:Go.Proofs.Builder.Extra P ρ) (he:∀ us w,(callFunc (ρ.f 156) us).run P w = .ok (.enter (ρ.f 156) us) w):PureRow P gl (ρ.f 156) zh8 where
 enter:=he
 run M w vs r us hc hb hG hl hr hs:=by
  unfold zh8 at hs
  split at hs
  ·rename_i xs sep
   obtain⟨l,hlx,hs2⟩:=Option.bind_eq_some_iff.1 hs
   have hx:=zdQ hlx
   subst hx
   split at hs2
   ·rename_i hbd
    simp only[Option.some.injEq] at hs2
    subst hs2
    match us,hl with
    | [u,v],_=>
     have q:=hr 0 _ u rfl rfl
     have q2:=hr 1 _ v rfl rfl
     cases q2
     have hmk:∀ x:List UInt8,(⟨x.toArray⟩:ByteArray).data.toList=x:=fun x=>rfl
     have key:∀ (bk o c:Nat),bk<w.heap.size→l.length≤c→(∀ (j:Nat) (x:List UInt8),l[j]?=some x→w.cell? ⟨bk,o+j,none⟩=some (.string ⟨x.toArray⟩)) →
      Calls P (ρ.f 156) #[.slice (some ⟨bk,o,none⟩) l.length c,.string ⟨sep.toArray⟩] w fun e w'=>∃ x,e = .returned x∧WExt w w'∧RAV (ExtM M w w') [] [] (.p (.str (sep.intercalate l))) x:=by
      intro bk o c h1 h2 h3
      have hm:(l.map fun x=>(⟨x.toArray⟩:ByteArray)).map (·.data.toList)=l:=by
       rw[List.map_map]
       conv=>rhs;rw[← List.map_id l]
       exact List.map_congr_left (fun x _=>rfl)
      have hJ:=Go.Proofs.Any.strings_Join L E bk o c (l.map fun x=>(⟨x.toArray⟩:ByteArray)) ⟨sep.toArray⟩ w (fun j x hx=>by
       rw[List.getElem?_map] at hx
       obtain⟨y,hy,rfl⟩:=Option.map_eq_some_iff.1 hx
       exact h3 j y hy) h1 (by simp;omega) (by simpa using h2) (by rw[hm];show (sep.intercalate l).length≤_;omega)
      rw[hm,List.length_map] at hJ
      refine hJ.mono fun e w' h=>?_
      obtain⟨rfl,h⟩:=h
      exact⟨_,rfl,zkk h,.p _ _ (.str _)⟩
     generalize hxs:l.map PV.str=xs at q hl hr
     cases q with
     | nils _ a cap=>
      have h0:l=[]:=List.map_eq_nil_iff.1 hxs
      subst h0
      refine (Go.Proofs.Any.strings_Join_none L E a cap ⟨sep.toArray⟩ w).mono fun e w' h=>?_
      obtain⟨rfl,rfl⟩:=h
      exact⟨_,rfl,WExt.refl _,.p _ _ (.str [])⟩
     | sl _ _ b o cap f hne hcap hshp hm hrr=>
      subst hxs
      rw[List.length_map] at hcap ⊢
      rw[zmM] at hm hrr
      have hcell:∀ (j:Nat) (x:List UInt8),l[j]?=some x→w.cell? ⟨b,o+j,none⟩=some (.string ⟨x.toArray⟩):=by
       intro j x hx
       have hy:(l.map PV.str)[j]?=some (.str x):=by rw[List.getElem?_map,hx];rfl
       have h1:=hc _ _ _ (hm j _ hy)
       have h2:=hrr j _ hy
       generalize hf:f j=fj at h1 h2
       cases h2
       exact h1
      refine key b o cap ?_ hcap hcell
      cases l with
      | nil=>exact absurd rfl hne
      | cons a r=>exact Go.Am.cell_lt (hcell 0 a rfl)
   ·cases hs2
  ·cases hs
end Go.Am
end
section
/- Texts split at a byte. -/
open Go
set_option linter.all false
namespace Go.Am
variable {h:Heap} {K:Post}
theorem zuM (s:List UInt8) (c:UInt8):z0c X zdd [AS s,AS [c]] h K=K (AI (s.count c)) h []:=by
 refine z5s (X:=X) (by kernel_rfl) ?_
 rw[zpD]
 exact z8t (vs:=[.str s,.str [c]]) (by kernel_rfl) (s:=zbF) (by kernel_rfl) rfl rfl
theorem z6s (s:List UInt8) (c:UInt8) (hs:s.length≤1000000):z0c X z6D [AS s,AS [c]] h K=K (AI (idxB s c)) h []:=by
 refine rule ?_
 rw[c_q01y rfl]
 have q:=fun h K=>zba (h:=h) (K:=K) s c
 simp only[zfu,go_sem,↓q,q,List.length_cons,List.length_nil]
 split
 ·rename_i h1;subst h1;simp [idxB]
 ·trivial
theorem zrr (s:List UInt8) (c:UInt8) (hs:s.length≤1000000):z0c X z9Z [AS s,AS [c]] h K=K (AI (idxB s c)) h []:=by
 refine rule ?_
 rw[c_q096 rfl]
 have q:=fun h K=>z6s (h:=h) (K:=K) s c hs
 simp only[zkX,go_sem,↓q,q]
theorem ztY {s:List UInt8} {c:UInt8} (h:c∉s):idxB s c = -1:=by
 unfold idxB
 rw[if_neg]
 rw[List.findIdx_lt_length]
 rintro⟨x,hx,e⟩
 simp at e
 subst e
 exact h hx
theorem zuX {α:Type} (a:List α) (x y:α) (b:List α):(a++x::b).set a.length y=a++y::b:=by simp
def z4M (c:UInt8) (s:List UInt8) (k:Nat):List PV:=((z0m c s).take k).map PV.str++List.replicate (s.count c+1-k) (.str [])
theorem zpd (c:UInt8) (s:List UInt8) (k:Nat) (hk:k≤s.count c+1):(z4M c s k).length=s.count c+1:=by
 unfold z4M
 have:=z0K c s
 simp;omega
theorem zdL (c:UInt8) (s:List UInt8) (k:Nat) (hk:k<s.count c+1) (p:List UInt8) (hp:(z0m c s)[k]?=some p):(z4M c s k).set k (.str p)=z4M c s (k+1):=by
 have hl:=z0K c s
 have e:((z0m c s).take k).map PV.str=((z0m c s).take k).map PV.str:=rfl
 have el:(((z0m c s).take k).map PV.str).length=k:=by simp;omega
 unfold z4M
 rw[show s.count c+1-k=(s.count c+1-(k+1))+1 by omega,List.replicate_succ]
 conv=>lhs;arg 2;rw[← el]
 rw[zuX,List.take_succ,hp]
 simp
theorem zdK (c:UInt8) (s:List UInt8) (k:Nat) (hk:k<s.count c+1):(z4M c s k)[k]?=some (.str []):=by
 have hl:=z0K c s
 unfold z4M
 rw[List.getElem?_append_right (by simp;omega)]
 rw[List.getElem?_replicate,if_pos (by simp;omega)]
theorem zpc (c:UInt8) (s:List UInt8):z4M c s (s.count c+1)=(z0m c s).map PV.str:=by
 have hl:=z0K c s
 unfold z4M
 rw[List.take_of_length_le (by omega),Nat.sub_self]
 simp
attribute [-go_sem] z7Z
theorem zhN (s:List UInt8) (c:UInt8) (hs:s.length≤1000000):z0c X zab [AS s,AS [c],AI 0,AI (-1)] h K=K (AStr (z0m c s)) h []:=by
 refine rule ?_
 rw[c_q09f rfl]
 have ec:=fun h K=>zuM (h:=h) (K:=K) s c
 have hcl:s.count c≤s.length:=List.count_le_length
 have w1:IntKind.i64.wrap ((s.count c:Int)+1)=((s.count c+1:Nat):Int):=z0l _ (by omega) (by omega)
 simp only[zfJ,go_sem,↓ec,ec,w1]
 rw[z7Z]
 have w2:IntKind.i64.wrap ((s.length:Int)+1)=((s.length+1:Nat):Int):=z0l _ (by omega) (by omega)
 have w3:min ((s.count c+1:Nat):Int) ((s.length+1:Nat):Int)=((s.count c+1:Nat):Int):=by omega
 have w4:IntKind.i64.wrap (((s.count c+1:Nat):Int)-1)=(s.count c:Int):=by rw[z0l _ (by omega) (by omega)];omega
 have hm:s.count c+1≤z1b:=by unfold z1b;omega
 simp only[z5g,go_sem,w2,w3,w4,hm]
 have row0:List.replicate (s.count c+1) (PV.str [])=z4M c s 0:=by simp [z4M]
 rw[row0]
 refine z0U (fun k:Nat=>⟨[(0,AS (z1p c k s)),(1,AS [c]),(2,AI 0),(3,AI (s.count c)),(9,.own h.length (s.count c+1) 0 (s.count c+1)),(10,AI k)],h++[.row none (z4M c s k) 0],[]⟩) (fun k=>k≤s.count c) (fun k=>s.count c-k) 0 rfl (by omega) ?_
 intro k hk
 obtain⟨r1,r2,r3⟩:=z2Z c k s hk
 have hrl:=zpd c s k (by omega)
 have hsl:=z0K c s
 rcases Nat.lt_or_ge k (s.count c) with hlt | hge
 ·obtain⟨a,b,hab,ha⟩:=zk7 (c:=c) (s:=z1p c k s) (List.count_pos_iff.1 (by omega))
  have hi:=fun h K=>zrr (h:=h) (K:=K) (z1p c k s) c (by omega)
  have hix:idxB (z1p c k s) c=(a.length:Int):=by rw[hab];exact zmX a b c ha
  rw[hix] at hi
  have hnext:z1p c (k+1) s=b:=by rw[z8M,hab,ztN ha]
  have hrl2:(z1p c k s).length=a.length+(b.length+1):=by rw[hab];simp
  have g1:(z0m c s)[k]?=some a:=by
   have:=congrArg (fun l=>l[0]?) r1
   simp only[List.getElem?_drop,Nat.add_zero] at this
   rw[← this,hab,z4v ha]
   rfl
  have W1:win (z1p c k s) 0 a.length=a:=by rw[hab];unfold win;simp
  have W2:win (z1p c k s) (a.length+1) ((z1p c k s).length-(a.length+1))=b:=by
   rw[hab];unfold win
   rw[show a++c::b=(a++[c])++b by simp,List.drop_left' (by simp)]
   exact List.take_of_length_le (by simp;omega)
  have hp:¬ (a.length:Int)<0:=by omega
  have wa:IntKind.i64.wrap ((a.length:Int)+0)=(a.length:Int):=by rw[Int.add_zero];exact z0l _ (by omega) (by omega)
  have wb:IntKind.i64.wrap ((a.length:Int)+1)=((a.length+1:Nat):Int):=z0l _ (by omega) (by omega)
  have wk:IntKind.i64.wrap ((k:Int)+1)=((k+1:Nat):Int):=z0l _ (by omega) (by omega)
  have hlt':(k:Int)<(s.count c:Int):=by omega
  have hse:=zdL c s k (by omega) a g1
  have st:=fun h1=>zgE (sh:=none) (x:=.str a) (y:=.str []) rfl rfl h.length k 0 (z4M c s k) h1
  have c1:a.length≤(z1p c k s).length:=by omega
  have c2:a.length+1≤(z1p c k s).length:=by omega
  have c3:k<s.count c+1:=by omega
  simp only[go_sem,hlt',hi,↓hi,hp,wa,wb,wk,hrl,W1,W2,zdK c s k c3,st,hse,c1,c2,c3]
  exact⟨k+1,by rw[hnext],by omega,by omega⟩
 ·have hk':k=s.count c:=by omega
  have hlt':¬ (k:Int)<(s.count c:Int):=by omega
  have st:=fun h1=>zgE (sh:=none) (x:=.str (z1p c k s)) (y:=.str []) rfl rfl h.length k 0 (z4M c s k) h1
  have c3:k<s.count c+1:=by omega
  have wk:IntKind.i64.wrap ((k:Int)+1)=((k+1:Nat):Int):=z0l _ (by omega) (by omega)
  have g1:(z0m c s)[k]?=some (z1p c k s):=by
   have:=congrArg (fun l=>l[0]?) r1
   simp only[List.getElem?_drop,Nat.add_zero] at this
   rw[← this,z4N (List.count_eq_zero.1 (by omega))]
   rfl
  have hse:(z4M c s k).set k (.str (z1p c k s))=(z0m c s).map PV.str:=by
   rw[zdL c s k c3 _ g1,hk',zpc]
  have c4:k+1=s.count c+1:=by omega
  have hwin:win ((z0m c s).map PV.str) 0 (s.count c+1)=(z0m c s).map PV.str:=by unfold win;rw[List.drop_zero,List.take_of_length_le (by simp;omega)]
  have hml:((z0m c s).map PV.str).length=s.count c+1:=by simp [hsl]
  simp only[go_sem,hlt',hrl,zdK c s k c3,st,hse,c3,wk,hml,c4,hwin]
theorem ze9 (s:List UInt8) (c:UInt8) (hs:s.length≤1000000):z0c X z47 [AS s,AS [c]] h K=K (AStr (z0m c s)) h []:=by
 refine rule ?_
 rw[c_q09a rfl]
 have q:=fun h K=>zhN (h:=h) (K:=K) s c hs
 simp only[zkZ,go_sem,↓q,q]
theorem zaY (s p:List UInt8) (hs:s.length≤1000000) (hp:p.length≤1000000):z0c X z98 [AS s,AS p] h K=K (AB (decide (s.take p.length=p))) h []:=by
 refine rule ?_
 rw[c_q01w rfl]
 by_cases h1:p.length≤s.length
 ·have h1':(p.length:Int)≤(s.length:Int):=by omega
  have W:win s 0 p.length=s.take p.length:=by unfold win;simp
  simp only[zfs,go_sem,h1',h1,W]
 ·have h1':¬ (p.length:Int)≤(s.length:Int):=by omega
  have e:decide (s.take p.length=p)=false:=by
   simp only[decide_eq_false_iff_not]
   intro e
   have:=congrArg List.length e
   simp at this
   omega
  simp only[zfs,go_sem,h1',h1,e]
theorem z6R (s p:List UInt8) (hs:s.length≤1000000) (hp:p.length≤1000000):z0c X z6L [AS s,AS p] h K=K (AS (if s.take p.length=p then s.drop p.length else s)) h []:=by
 refine rule ?_
 rw[c_q09c rfl]
 have key:∀ (h:Heap) (K:Post),z0c X z9A [AS s,AS p] h K=K (AS (if s.take p.length=p then s.drop p.length else s)) h []:=by
  intro h K
  refine rule ?_
  rw[c_q020 rfl]
  have q:=fun h K=>zaY (h:=h) (K:=K) s p hs hp
  by_cases e:s.take p.length=p
  ·have hl:p.length≤s.length:=by
    have:=congrArg List.length e
    simp at this
    omega
   have W:win s p.length (s.length-p.length)=s.drop p.length:=by unfold win;rw[List.take_of_length_le (by simp)]
   simp only[zfw,go_sem,↓q,q,e,decide_true,hl,W]
  ·simp only[zfw,go_sem,↓q,q,e,decide_false]
 simp only[zla,go_sem,↓key,key]
end Go.Am
end
section
/- Lines of a text. -/
open Go
set_option linter.all false
namespace Go.Am
variable {h:Heap} {K:Post}
theorem zaZ (s p:List UInt8) (hs:s.length≤1000000) (hp:p.length≤1000000):z0c X z99 [AS s,AS p] h K=K (AB (decide (p.length≤s.length∧s.drop (s.length-p.length)=p))) h []:=by
 refine rule ?_
 rw[c_q01x rfl]
 by_cases h1:p.length≤s.length
 ·have h1':(p.length:Int)≤(s.length:Int):=by omega
  have w:IntKind.i64.wrap ((s.length:Int)-(p.length:Int))=((s.length-p.length:Nat):Int):=by rw[z0l _ (by omega) (by omega)];omega
  have W:win s (s.length-p.length) (s.length-(s.length-p.length))=s.drop (s.length-p.length):=by unfold win;rw[List.take_of_length_le (by simp)]
  have h2:s.length-p.length≤s.length:=by omega
  simp only[zft,go_sem,h1',h1,w,W,h2]
 ·have h1':¬ (p.length:Int)≤(s.length:Int):=by omega
  simp only[zft,go_sem,h1',h1]
def z28 (s:List UInt8):Bool:=decide (s.getLast?=some 10)
def z24 (s:List UInt8):List UInt8:=if z28 s then s.dropLast else s
theorem zew (s:List UInt8):decide (([10]:List UInt8).length≤s.length∧s.drop (s.length-([10]:List UInt8).length)=[10])=z28 s:=by
 unfold z28
 rw[decide_eq_decide]
 rcases List.eq_nil_or_concat s with rfl | ⟨r,x,rfl⟩
 ·simp
 ·simp
theorem zaU (s:List UInt8) (hs:s.length≤1000000):z0c X z9Y [AS s,AS [10]] h K=K (.tup [AS (z24 s),AB (z28 s)]) h []:=by
 refine rule ?_
 rw[c_q095 rfl]
 have key:∀ (h:Heap) (K:Post),z0c X z97 [AS s,AS [10]] h K=K (.tup [AS (z24 s),AB (z28 s)]) h []:=by
  intro h K
  refine rule ?_
  rw[c_q01v rfl]
  have q:=fun h K=>zaZ (h:=h) (K:=K) s [10] hs (by simp)
  rw[zew] at q
  cases e:z28 s with
  | false=>
   have eb:z24 s=s:=by unfold z24;rw[e];rfl
   rw[e] at q
   simp only[zfr,go_sem,↓q,q,eb]
  | true=>
   have eb:z24 s=s.dropLast:=by unfold z24;rw[e];rfl
   rw[e] at q
   have h1:1≤s.length:=by
    cases s with
    | nil=>simp [z28] at e
    | cons a r=>simp
   have w:IntKind.i64.wrap ((s.length:Int)-1)=((s.length-1:Nat):Int):=by rw[z0l _ (by omega) (by omega)];omega
   have W:win s 0 (s.length-1)=s.dropLast:=by unfold win;rw[List.drop_zero,List.dropLast_eq_take]
   have h2:s.length-1≤s.length:=by omega
   simp only[zfr,go_sem,↓q,q,eb,List.length_cons,List.length_nil,w,W,h2]
 simp only[zkW,go_sem,↓key,key]
def z1d (s:List UInt8):List (List UInt8):=if s=[] then [] else z0m 10 (z24 s)
def zcS (s:List UInt8):Bool:=decide (s=[])||z28 s
theorem zuQ (s:List UInt8) (hs:s.length≤1000000):z0c X z95 [AS s] h K=K (.tup [AStr (z1d s),AB (zcS s)]) h []:=by
 refine rule ?_
 rw[c_q006 rfl]
 by_cases h0:s=[]
 ·subst h0
  simp only[zfn,go_sem]
  rfl
 ·have q:=fun h K=>zaU (h:=h) (K:=K) s hs
  have hb:(z24 s).length≤1000000:=by
   unfold z24
   split
   ·simp;omega
   ·exact hs
  have q2:=fun h K=>ze9 (h:=h) (K:=K) (z24 s) 10 hb
  have e1:z1d s=z0m 10 (z24 s):=by unfold z1d;rw[if_neg h0]
  have e2:zcS s=z28 s:=by unfold zcS;simp [h0]
  simp only[zfn,go_sem,h0,↓q,q,↓q2,q2,e1,e2]
end Go.Am
end
section
/- Numbers read. -/
open Go
set_option linter.all false
namespace Go.Am
variable {h:Heap} {K:Post}
theorem zoK {s:List UInt8} (h1:z05 s≠[]) (h2:(z05 s).length≤17) (h3:(z05 s).all digB=true):z0c X z6K [AS s] h K=K (.tup [AI (numV s),.nili]) h []:=by
 refine z5s (X:=X) (by kernel_rfl) ?_
 rw[zpD]
 exact z8t (vs:=[.str s]) (by kernel_rfl) (s:=zej) rfl rfl (zpK h1 h2 h3)
theorem z8w {K':Ex→St→Prop} (s d:List UInt8) (hd:d.length≤1000000) (h1:d.all digB=false→K' .ret ⟨[(4,AI 0),(5,AB false)],h,[]⟩)
 (h2:d.all digB=true→K' (.exit 0) ⟨[(0,AS s),(6,AS d),(38,AI d.length),(39,AI d.length),(40,AB false)],h,[]⟩) :
 z0T (z0c X) X.gl z2g K' [(0,AS s),(6,AS d),(38,AI d.length),(39,AI 0)] h []:=by
 refine z0U (fun k:Nat=>⟨[(0,AS s),(6,AS d),(38,AI d.length),(39,AI k)],h,[]⟩) (fun k=>k≤d.length∧(d.take k).all digB=true) (fun k=>d.length-k) 0 rfl ⟨by omega,by simp⟩ ?_
 rintro k ⟨hk,hp⟩
 rcases Nat.lt_or_ge k d.length with hlt | hge
 ·have hlt':(k:Int)<(d.length:Int):=by omega
  have hg:d[k]?=some d[k]:=List.getElem?_eq_getElem hlt
  have wk:IntKind.i64.wrap ((k:Int)+1)=((k+1:Nat):Int):=z0l _ (by omega) (by omega)
  have hnot:digB d[k]=false→d.all digB=false:=fun e=>by
   rw[← Bool.not_eq_true,List.all_eq_true]
   intro ha
   have:=ha d[k] (List.getElem_mem hlt)
   rw[e] at this
   cases this
  by_cases c1:d[k].toNat<48
  ·have c1':(d[k].toNat:Int)<48:=by omega
   have:=h1 (hnot (by simp [digB];omega))
   simp only[go_sem,hlt',hg,c1',this]
  ·have c1':¬ (d[k].toNat:Int)<48:=by omega
   by_cases c2:57<d[k].toNat
   ·have c2':(57:Int)<(d[k].toNat:Int):=by omega
    have:=h1 (hnot (by simp [digB];omega))
    simp only[go_sem,hlt',hg,c1',c2',this]
   ·have c2':¬ (57:Int)<(d[k].toNat:Int):=by omega
    simp only[go_sem,hlt',hg,c1',c2',wk]
    refine⟨k+1,rfl,⟨by omega,?_⟩,by omega⟩
    rw[List.take_succ,hg,List.all_append,hp]
    simp [digB]
    omega
 ·have hk':k=d.length:=by omega
  have hlt':¬ (k:Int)<(d.length:Int):=by omega
  have:=h2 (by rw[← hp,hk',List.take_length])
  subst hk'
  simp only[go_sem,Nat.lt_irrefl,decide_false,this]
attribute [-go_sem] z5h
theorem zd8 (s:List UInt8) (dg:Nat) (hd:dg≤17) (hs:s.length≤1000000):z0c X z6C [AS s,AI dg] h K=K (.tup [AI (if numF dg s then numV s else 0),AB (numF dg s)]) h []:=by
 refine rule ?_
 rw[c_q008 rfl]
 have q:=fun h K=>z6R (h:=h) (K:=K) s [45] hs (by simp)
 have eq:(if s.take ([45]:List UInt8).length=[45] then s.drop ([45]:List UInt8).length else s)=z05 s:=rfl
 rw[eq] at q
 obtain⟨d,hdd⟩:∃ d,z05 s=d:=⟨_,rfl⟩
 have hsl:d.length≤s.length:=by rw[← hdd];unfold z05;split <;> simp
 have nF:numF dg s=(!d.isEmpty&&decide (d.length≤dg) && !(decide (d.head?=some 48)&&(decide (1<d.length)||decide (d.length<s.length)))&&d.all digB):=by unfold numF;rw[hdd]
 rw[hdd] at q
 by_cases h0:d=[]
 ·subst h0
  have e:numF dg s=false:=by rw[nF];rfl
  simp only[z5b,go_sem,↓q,q,e]
 by_cases h1:dg<d.length
 ·have h1':(dg:Int)<(d.length:Int):=by omega
  have e:numF dg s=false:=by
   have a3:decide (d.length≤dg)=false:=by simpa using h1
   rw[nF,a3];simp
  simp only[z5b,go_sem,↓q,q,e,h0,h1']
 have h1':¬ (dg:Int)<(d.length:Int):=by omega
 obtain⟨c,r,rfl⟩:∃ c r,d=c::r:=by cases d with | nil=>exact absurd rfl h0 | cons c r=>exact⟨c,r,rfl⟩
 have h1n:¬ dg<r.length+1:=h1
 have h1i:¬ (dg:Int)<((r.length+1:Nat):Int):=by omega
 have hl6:(c::r).length≤1000000:=by omega
 have fin:∀ (e:numF dg s=(c::r).all digB) (hb:(c::r).all digB=true) (h:Heap) (K:Post),z0c X z6K [AS s] h K=K (.tup [AI (numV s),.nili]) h []:=fun e hb h K=>zoK (by rw[hdd];simp) (by rw[hdd];omega) (by rw[hdd];exact hb)
 by_cases hc:c=48
 ·have hc':(c.toNat:Int)=48:=by subst hc;rfl
  by_cases h3:1<r.length+1
  ·have h3':(1:Int)<((r.length+1:Nat):Int):=by omega
   have e:numF dg s=false:=by
    have a1:decide (1<(c::r).length)=true:=by simpa using h3
    have a4:decide ((c::r).head?=some 48)=true:=by simp [hc]
    rw[nF,a1,a4];simp
   simp only[z5b,go_sem,↓q,q,h0,h1',h1n,h1i,hc',h3',e]
  have h3':¬ (1:Int)<((r.length+1:Nat):Int):=by omega
  by_cases h4:r.length+1<s.length
  ·have h4':((r.length+1:Nat):Int)<(s.length:Int):=by omega
   have e:numF dg s=false:=by
    have a1:decide ((c::r).length<s.length)=true:=by simpa using h4
    have a4:decide ((c::r).head?=some 48)=true:=by simp [hc]
    rw[nF,a1,a4];simp
   simp only[z5b,go_sem,↓q,q,h0,h1',h1n,h1i,hc',h3',h4',e]
  have h4':¬ ((r.length+1:Nat):Int)<(s.length:Int):=by omega
  have e:numF dg s=(c::r).all digB:=by
   rw[nF]
   have a1:decide (1<(c::r).length)=false:=by simpa using h3
   have a2:decide ((c::r).length<s.length)=false:=by simpa using h4
   have a3:decide ((c::r).length≤dg)=true:=by simpa using h1n
   rw[a1,a2,a3]
   simp
  simp only[z5b,go_sem,↓q,q,h0,h1',h1n,h1i,hc',h3',h4']
  refine z8w s (c::r) hl6 (fun hb=>?_) (fun hb=>?_)
  ·rw[hb] at e
   simp only[go_sem,e]
  ·have ea:=fin e hb
   rw[hb] at e
   rw[z1V,z2j,z5h]
   simp only[z5c,go_sem,↓ea,ea,e]
 ·have hc':¬ (c.toNat:Int)=48:=by
   intro q
   apply hc
   apply UInt8.toNat_inj.1
   exact Int.ofNat_inj.1 q
  have e:numF dg s=(c::r).all digB:=by
   rw[nF]
   have a3:decide ((c::r).length≤dg)=true:=by simpa using h1n
   rw[a3]
   simp [hc]
  simp only[z5b,go_sem,↓q,q,h0,h1',h1n,h1i,hc']
  refine z8w s (c::r) hl6 (fun hb=>?_) (fun hb=>?_)
  ·rw[hb] at e
   simp only[go_sem,e]
  ·have ea:=fin e hb
   rw[hb] at e
   rw[z1V,z2j,z5h]
   simp only[z5c,go_sem,↓ea,ea,e]
end Go.Am
end
