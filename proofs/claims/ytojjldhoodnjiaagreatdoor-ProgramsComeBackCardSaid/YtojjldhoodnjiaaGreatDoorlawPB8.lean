/- Texts of the proof, laid together: Ctx, SpStream, MathFrac, SpBase, SpList, SpShp, SpStr, SpIdx, SpLen, SpMap, SpStrs, SpFind, SpLimD, SpLim, SpLotA, SpRecD, SpGenA, SpSome, SpGenL, SpRec, SpSortRec, SpCompact, SpGenR, PMerge, SpMrgA, SpSort, SpMrgB, SpMrgC, SpMrgD, PFin, SpTxt, AmL4, AmL5, SpSplit, SpLines, SpNum, SpNums, SpQNum, SpFlt1, SpFlt2, SpWords, SpJoin, SpBld, PBits, SpFlt3, SpFlt4, SpFlt5, SpArg, SpFlt6, SpFltT, SpPath, PVec3, PVec4, SpWalk, SpVec1. -/
import Derived.Shelf.Strings.Repeat
import Derived.Shelf.Strings.SlTrimAscii
import Derived.Shelf.Spec.TrailingZeros
import Derived.Shelf.Strings.Count
import Derived.Shelf.Strings.OnBuilder
import Derived.Test.YtojjldhoodnjiaaGreatDoorlawPB7
set_option linter.all false
section
/- The functions together. -/
set_option linter.unusedVariables false
set_option maxRecDepth 100000
namespace Go.Am
def fns:List (Nat × AFun):=[(zhB,zlC),(za1,zlL),(z4r,zlK),(z71,zg7),(zaB,zmc),(za2,zlP),(za0,zlF),(zaL,zms),(z8H,zlS),(zaK,zmq),(z2i,zlH),(z4e,zcS),(z6b,zgH),(z8O,zgF),(z8S,zgN),(z8Q,zgK),(za3,zlQ),(zaG,zmi),(zaz,zlE),(z27,zlG),(z1z,zlJ),(z2r,zmf),(zaN,zmu),(z8K,zmd),(z4d,zme),(za4,zlU),(z8I,zlT),(zar,zl0),(z8N,zmr),(zaO,zmv),(z5s,zlD),(z1i,zg6),(z8P,zgG),(z8U,zgP),(z29,zgE),(z6c,zgJ),(z3p,zgL),(z4u,zgI),(zax,zl9),(z4b,zlN),(z73,zlI),(z28,zlM),(zaD,zmg),(z79,zmx),(z78,zmw),(zaA,zmb),(za6,zlW),(z4c,zlR),(za9,zma),(za8,zlZ),(z8J,zgA),(zas,zl1),(z77,zmk),(z5Z,zg9),(zaM,zmt),(zat,zl2),(z74,zgB),(z8T,zgO),(z8R,zgM),(z26,zg5),(z8M,zgC),(z4q,zlA),(zeE,zl3),(zeF,zl4),(zav,zl7),(z5t,zg8),(za7,zlX),(z4s,zlY),(zaF,zmh),(zaJ,zmn),(zaI,zml),(z6a,zgD),(z4t,zac),(zeG,zl5),(zaH,zmj),(z2q,zlO),(za5,zlV),(zau,zl6),(zeJ,zmm),(zay,zlB),(z5u,z7Y),(zaw,zl8),(zeK,zmo),(zeL,zmp)]
def GRL:List (Nat × Sh):=[]
def PRL:z9S:=[(z5Y,z5g),(zaC,zfL),(zeH,zjH),(z8L,zdj),(z1l,z7h),(zeI,trimS),(z8G,y1h)]
def GLL:List (Nat × PV):=[(1,zck)]
def fnOf:List (Nat × AFun)→Nat→Option AFun
 | [],_=>none
 | (k,F)::r,n=>bif Nat.beq k n then some F else fnOf r n
def X:Ctx:=⟨fnOf fns,glOf GLL,extF z0l z0s,libF GRL PRL⟩
theorem zhJ {p:Nat→AFun→Bool}:∀ (l:List (Nat × AFun)),(l.all fun y=>p y.1 y.2)=true→∀ n F,fnOf l n=some F→p n F=true
 | [],_,n,F,h=>by cases h
 | (k,G)::r,ha,n,F,h=>by
  simp only[List.all_cons,Bool.and_eq_true] at ha
  simp only[fnOf] at h
  cases hk:Nat.beq k n with
  | true=>
   rw[hk] at h
   have:=Nat.eq_of_beq_eq_true hk
   simp only[cond_true,Option.some.injEq] at h
   subst this;subst h;exact ha.1
  | false=>
   rw[hk] at h
   exact zhJ r ha.2 n F h
def fns0:List (Nat × AFun):=[(z71,zg7),(z8G,a_q02g),(zys,a_q063),(z4e,zcS),(z6b,zgH),(z8O,zgF),(z8S,zgN),(z8Q,zgK),(zxz,a_q002),(zx3,a_q00c),(zxW,a_q02h),(zxJ,a_q00y),(zxR,a_q01y),(zye,a_q048),(z1i,zg6),(z8P,zgG),(z8U,zgP),(z29,zgE),(z6c,zgJ),(z3p,zgL),(z4u,zgI),(zx1,a_q00a),(zxC,a_q00m),(zhA,a_q00n),(zxI,a_q00x),(zxU,a_q021),(zxT,a_q020),(zpz,a_q003),(zyi,a_q04c),(z5r,a_q005),(zyn,a_q04i),(zyq,a_q04l),(z8J,zgA),(z5Z,zg9),(z74,zgB),(z8T,zgO),(z8R,zgM),(z26,zg5),(z8M,zgC),(zx2,a_q00b),(zx6,a_q00f),(zxY,a_q03u),(zxK,a_q00z),(zxM,a_q011),(zxP,a_q014),(zxO,a_q013),(zxN,a_q012),(zxZ,a_q03w),(zxV,a_q022),(zxS,a_q01z),(zx0,a_q004),(zyd,a_q047),(zyc,a_q046),(zyo,a_q04j),(zyg,a_q04a),(zym,a_q04h),(z5t,zg8),(z6a,zgD),(z4t,zac),(zx7,a_q00g),(zxB,a_q00l),(zxD,a_q00o),(zxH,a_q00w),(zxG,a_q00v),(zyb,a_q043),(zyh,a_q04b),(zyf,a_q049),(zyp,a_q04k),(zp0,a_q007),(zyl,a_q04g),(zyk,a_q04e),(zp5,a_q04f),(z5u,z7Y),(zx5,a_q00e),(zeD,a_q00k),(zp4,a_q03v),(zx8,a_q00h),(zxE,a_q00p),(zx4,a_q00d),(zxL,a_q010),(zp2,a_q00s),(zp1,a_q00r),(zaE,a_q051),(zyj,a_q04d),(zya,a_q042),(zx9,a_q00i),(zxF,a_q00q),(zp3,a_q00t),(zxQ,a_q018),(zxX,a_q03t),(zxA,a_q00j)]
def PRL0:z9S:=[(z5Y,z5g),(zaC,zfL),(zeH,zjH),(z8L,zdj),(z1l,z7h),(zeI,trimS)]
def X0:Ctx:=⟨fnOf fns0,glOf GLL,extF z0l z0s,libF GRL PRL0⟩
theorem zg1:X0.fn z4t=some zac:=by kernel_rfl
theorem zg0:X0.fn z5u=some z7Y:=by kernel_rfl
theorem zg4:X.NoNext:=fun f F h=>zhJ (p:=fun _ F=>F.isDet||F.body.noNext) fns (by kernel_rfl) f F h
theorem x_q02c:X.fn zhB=some zlC:=by kernel_rfl
theorem c_q02c {u0 v0:AV} {h h1:Heap} {P:Post} (hp:z0p h [u0]=some ([v0],h1)):z0c X zhB [u0] h P=zne (z0c X) X.gl v0 h1 [] (finR [.t 2] false h.length P):=by rw[z0h x_q02c rfl hp rfl];exact e_q02c
theorem x_q02v:X.fn za1=some zlL:=by kernel_rfl
theorem c_q02v {u0 u1 v0 v1:AV} {h h1:Heap} {P:Post} (hp:z0p h [u0,u1]=some ([v0,v1],h1)):z0c X za1 [u0,u1] h P=zhk (z0c X) X.gl z3x z6q v0 v1 h1 [] (finR [.t 4] false h.length P):=by rw[z0h x_q02v rfl hp rfl];exact e_q02v
theorem x_q02u:X.fn z4r=some zlK:=by kernel_rfl
theorem c_q02u {u0 u1 u2 v0 v1 v2:AV} {h h1:Heap} {P:Post} (hp:z0p h [u0,u1,u2]=some ([v0,v1,v2],h1)):z0c X z4r [u0,u1,u2] h P=znh (z0c X) X.gl v0 v1 v2 h1 [] (finR [.t 6] false h.length P):=by rw[z0h x_q02u rfl hp rfl];exact e_q02u
theorem x_q02f:X.fn z71=some zg7:=by kernel_rfl
theorem c_q02f {u0 v0:AV} {h h1:Heap} {P:Post} (hp:z0p h [u0]=some ([v0],h1)):z0c X z71 [u0] h P=zhf (z0c X) X.gl z3v z6l v0 h1 [] (finR [.t 2] false h.length P):=by rw[z0h x_q02f rfl hp rfl];exact e_q02f
theorem x_q03z:X.fn zaB=some zmc:=by kernel_rfl
theorem c_q03z {u0 u1 v0 v1:AV} {h h1:Heap} {P:Post} (hp:z0p h [u0,u1]=some ([v0,v1],h1)):z0c X zaB [u0,u1] h P=zdN (z0c X) X.gl z36 z62 v0 v1 h1 [] (finR [.t 4] false h.length P):=by rw[z0h x_q03z rfl hp rfl];exact e_q03z
theorem x_q02z:X.fn za2=some zlP:=by kernel_rfl
theorem c_q02z {u0 u1 v0 v1:AV} {h h1:Heap} {P:Post} (hp:z0p h [u0,u1]=some ([v0,v1],h1)):z0c X za2 [u0,u1] h P=zhn (z0c X) X.gl z30 z6s v0 v1 h1 [] (finR [.t 4] false h.length P):=by rw[z0h x_q02z rfl hp rfl];exact e_q02z
theorem x_q02p:X.fn za0=some zlF:=by kernel_rfl
theorem c_q02p {u0 u1 v0 v1:AV} {h h1:Heap} {P:Post} (hp:z0p h [u0,u1]=some ([v0,v1],h1)):z0c X za0 [u0,u1] h P=zhh (z0c X) X.gl z3w z6p v0 v1 h1 [] (finR [.t 4] false h.length P):=by rw[z0h x_q02p rfl hp rfl];exact e_q02p
theorem x_q069:X.fn zaL=some zms:=by kernel_rfl
theorem c_q069 {u0 v0:AV} {h h1:Heap} {P:Post} (hp:z0p h [u0]=some ([v0],h1)):z0c X zaL [u0] h P=zeg (z0c X) X.gl z2D z69 v0 h1 [] (finR [.t 2,.t 3] false h.length P):=by rw[z0h x_q069 rfl hp rfl];exact e_q069
theorem x_q033:X.fn z8H=some zlS:=by kernel_rfl
theorem c_q033 {u0 v0:AV} {h h1:Heap} {P:Post} (hp:z0p h [u0]=some ([v0],h1)):z0c X z8H [u0] h P=zdC (z0c X) X.gl z31 z6t v0 h1 [] (finR [.t 2] false h.length P):=by rw[z0h x_q033 rfl hp rfl];exact e_q033
theorem x_q064:X.fn zaK=some zmq:=by kernel_rfl
theorem c_q064 {u0 v0:AV} {h h1:Heap} {P:Post} (hp:z0p h [u0]=some ([v0],h1)):z0c X zaK [u0] h P=zef (z0c X) X.gl v0 h1 [] (finR [.t 2,.t 3,.t 4] false h.length P):=by rw[z0h x_q064 rfl hp rfl];exact e_q064
theorem x_q02r:X.fn z2i=some zlH:=by kernel_rfl
theorem c_q02r {u0 u1 v0 v1:AV} {h h1:Heap} {P:Post} (hp:z0p h [u0,u1]=some ([v0,v1],h1)):z0c X z2i [u0,u1] h P=zhi (z0c X) X.gl v0 v1 h1 [] (finR [.t 4] false h.length P):=by rw[z0h x_q02r rfl hp rfl];exact e_q02r
theorem zyD:X.fn z4e=some zcS:=by kernel_rfl
theorem c_q062 {u0 v0:AV} {h h1:Heap} {P:Post} (hp:z0p h [u0]=some ([v0],h1)):z0c X z4e [u0] h P=zeb (z0c X) X.gl z3B z68 v0 h1 [] (finR [.t 2] false h.length P):=by rw[z0h zyD rfl hp rfl];exact e_q062
theorem x_q06h:X.fn z6b=some zgH:=by kernel_rfl
theorem zxn {u0 u1 v0 v1:AV} {h h1:Heap} {P:Post} (hp:z0p h [u0,u1]=some ([v0,v1],h1)):z0c X z6b [u0,u1] h P=zeo (z0c X) X.gl z2E z49 v0 v1 h1 [] (finR [.t 4] false h.length P):=by rw[z0h x_q06h rfl hp rfl];exact e_q06h
theorem x_q06d:X.fn z8O=some zgF:=by kernel_rfl
theorem c_q06d {u0 v0:AV} {h h1:Heap} {P:Post} (hp:z0p h [u0]=some ([v0],h1)):z0c X z8O [u0] h P=zek (z0c X) X.gl v0 h1 [] (finR [.t 2] false h.length P):=by rw[z0h x_q06d rfl hp rfl];exact e_q06d
theorem x_q06o:X.fn z8S=some zgN:=by kernel_rfl
theorem c_q06o {u0 u1 v0 v1:AV} {h h1:Heap} {P:Post} (hp:z0p h [u0,u1]=some ([v0,v1],h1)):z0c X z8S [u0,u1] h P=z7x (z0c X) X.gl v0 v1 h1 [] (finR [.t 4] false h.length P):=by rw[z0h x_q06o rfl hp rfl];exact e_q06o
theorem x_q06l:X.fn z8Q=some zgK:=by kernel_rfl
theorem c_q06l {u0 u1 v0 v1:AV} {h h1:Heap} {P:Post} (hp:z0p h [u0,u1]=some ([v0,v1],h1)):z0c X z8Q [u0,u1] h P=z3m (z0c X) X.gl z2G z4D v0 v1 h1 [] (finR [] false h.length P):=by rw[z0h x_q06l rfl hp rfl];exact e_q06l
theorem x_q030:X.fn za3=some zlQ:=by kernel_rfl
theorem c_q030 {u0 u1 v0 v1:AV} {h h1:Heap} {P:Post} (hp:z0p h [u0,u1]=some ([v0,v1],h1)):z0c X za3 [u0,u1] h P=znj (z0c X) X.gl v0 v1 h1 [] (finR [.t 4] false h.length P):=by rw[z0h x_q030 rfl hp rfl];exact e_q030
theorem x_q057:X.fn zaG=some zmi:=by kernel_rfl
theorem c_q057 {u0 u1 v0 v1:AV} {h h1:Heap} {P:Post} (hp:z0p h [u0,u1]=some ([v0,v1],h1)):z0c X zaG [u0,u1] h P=zns (z0c X) X.gl v0 v1 h1 [] (finR [.t 4] false h.length P):=by rw[z0h x_q057 rfl hp rfl];exact e_q057
theorem x_q02m:X.fn zaz=some zlE:=by kernel_rfl
theorem c_q02m {u0 v0:AV} {h h1:Heap} {P:Post} (hp:z0p h [u0]=some ([v0],h1)):z0c X zaz [u0] h P=z4a (z0c X) X.gl z6n z6o v0 h1 [] (finR [.cell 2 (some 6)] false h.length P):=by rw[z0h x_q02m rfl hp rfl];exact e_q02m
theorem x_q02q:X.fn z27=some zlG:=by kernel_rfl
theorem c_q02q {u0 u1 v0 v1:AV} {h h1:Heap} {P:Post} (hp:z0p h [u0,u1]=some ([v0,v1],h1)):z0c X z27 [u0,u1] h P=znf (z0c X) X.gl v0 v1 h1 [] (finR [.t 4] false h.length P):=by rw[z0h x_q02q rfl hp rfl];exact e_q02q
theorem x_q02t:X.fn z1z=some zlJ:=by kernel_rfl
theorem c_q02t {u0 u1 v0 v1:AV} {h h1:Heap} {P:Post} (hp:z0p h [u0,u1]=some ([v0,v1],h1)):z0c X z1z [u0,u1] h P=zng (z0c X) X.gl v0 v1 h1 [] (finR [.t 4] false h.length P):=by rw[z0h x_q02t rfl hp rfl];exact e_q02t
theorem x_q04y:X.fn z2r=some zmf:=by kernel_rfl
theorem c_q04y {u0 u1 v0 v1:AV} {h h1:Heap} {P:Post} (hp:z0p h [u0,u1]=some ([v0,v1],h1)):z0c X z2r [u0,u1] h P=znq (z0c X) X.gl v0 v1 h1 [] (finR [.t 4,.t 5] false h.length P):=by rw[z0h x_q04y rfl hp rfl];exact e_q04y
theorem x_q06g:X.fn zaN=some zmu:=by kernel_rfl
theorem c_q06g {u0 v0:AV} {h h1:Heap} {P:Post} (hp:z0p h [u0]=some ([v0],h1)):z0c X zaN [u0] h P=z5R (z0c X) X.gl v0 h1 [] (finR [.t 2] false h.length P):=by rw[z0h x_q06g rfl hp rfl];exact e_q06g
theorem x_q04w:X.fn z8K=some zmd:=by kernel_rfl
theorem c_q04w {u0 v0:AV} {h h1:Heap} {P:Post} (hp:z0p h [u0]=some ([v0],h1)):z0c X z8K [u0] h P=znp (z0c X) X.gl v0 h1 [] (finR [.t 2] false h.length P):=by rw[z0h x_q04w rfl hp rfl];exact e_q04w
theorem x_q04x:X.fn z4d=some zme:=by kernel_rfl
theorem c_q04x {u0 v0:AV} {h h1:Heap} {P:Post} (hp:z0p h [u0]=some ([v0],h1)):z0c X z4d [u0] h P=zhu (z0c X) X.gl v0 h1 [] (finR [.t 2] false h.length P):=by rw[z0h x_q04x rfl hp rfl];exact e_q04x
theorem x_q03d:X.fn za4=some zlU:=by kernel_rfl
theorem c_q03d {u0 v0:AV} {h h1:Heap} {P:Post} (hp:z0p h [u0]=some ([v0],h1)):z0c X za4 [u0] h P=z2p (z0c X) X.gl z6v z6w v0 h1 [] (finR [.t 2] false h.length P):=by rw[z0h x_q03d rfl hp rfl];exact e_q03d
theorem x_q03a:X.fn z8I=some zlT:=by kernel_rfl
theorem c_q03a {u0 v0:AV} {h h1:Heap} {P:Post} (hp:z0p h [u0]=some ([v0],h1)):z0c X z8I [u0] h P=zho (z0c X) X.gl z32 z6u v0 h1 [] (finR [.t 2,.t 3,.t 4] false h.length P):=by rw[z0h x_q03a rfl hp rfl];exact e_q03a
theorem x_q001:X.fn zar=some zl0:=by kernel_rfl
theorem c_q001 {u0 u1 v0 v1:AV} {h h1:Heap} {P:Post} (hp:z0p h [u0,u1]=some ([v0,v1],h1)):z0c X zar [u0,u1] h P=zgX (z0c X) X.gl z3r z6g v0 v1 h1 [] (finR [.t 4,.t 5] false h.length P):=by rw[z0h x_q001 rfl hp rfl];exact e_q001
theorem x_q065:X.fn z8N=some zmr:=by kernel_rfl
theorem c_q065 {u0 u1 v0 v1:AV} {h h1:Heap} {P:Post} (hp:z0p h [u0,u1]=some ([v0,v1],h1)):z0c X z8N [u0,u1] h P=znz (z0c X) X.gl v0 v1 h1 [] (finR [.t 3] false h.length P):=by rw[z0h x_q065 rfl hp rfl];exact e_q065
theorem x_q06i:X.fn zaO=some zmv:=by kernel_rfl
theorem c_q06i {u0 v0:AV} {h h1:Heap} {P:Post} (hp:z0p h [u0]=some ([v0],h1)):z0c X zaO [u0] h P=z23 (z0c X) X.gl z2F z4A z4B v0 h1 [] (finR [.cell 2 (some 6),.t 3] false h.length P):=by rw[z0h x_q06i rfl hp rfl];exact e_q06i
theorem x_q02l:X.fn z5s=some zlD:=by kernel_rfl
theorem c_q02l {u0 u1 v0 v1:AV} {h h1:Heap} {P:Post} (hp:z0p h [u0,u1]=some ([v0,v1],h1)):z0c X z5s [u0,u1] h P=zhg (z0c X) X.gl z6m v0 v1 h1 [] (finR [.t 4] false h.length P):=by rw[z0h x_q02l rfl hp rfl];exact e_q02l
theorem x_q009:X.fn z1i=some zg6:=by kernel_rfl
theorem c_q009 {u0 u1 u2 v0 v1 v2:AV} {h h1:Heap} {P:Post} (hp:z0p h [u0,u1,u2]=some ([v0,v1,v2],h1)):z0c X z1i [u0,u1,u2] h P=znb (z0c X) X.gl v0 v1 v2 h1 [] (finR [.t 6] false h.length P):=by rw[z0h x_q009 rfl hp rfl];exact e_q009
theorem x_q06e:X.fn z8P=some zgG:=by kernel_rfl
theorem c_q06e {u0 v0:AV} {h h1:Heap} {P:Post} (hp:z0p h [u0]=some ([v0],h1)):z0c X z8P [u0] h P=z2S (z0c X) X.gl z6A v0 h1 [] (finR [.cell 2 (some 6),.t 3] false h.length P):=by rw[z0h x_q06e rfl hp rfl];exact e_q06e
theorem x_q06r:X.fn z8U=some zgP:=by kernel_rfl
theorem c_q06r {h h1:Heap} {P:Post} (hp:z0p h []=some ([],h1)):z0c X z8U [] h P=zn0 (z0c X) X.gl  h1 [] (finR [.cell 0 (some 36)] false h.length P):=by rw[z0h x_q06r rfl hp rfl];exact e_q06r
theorem x_q06c:X.fn z29=some zgE:=by kernel_rfl
theorem c_q06c {u0 v0:AV} {h h1:Heap} {P:Post} (hp:z0p h [u0]=some ([v0],h1)):z0c X z29 [u0] h P=zej (z0c X) X.gl v0 h1 [] (finR [.t 2] false h.length P):=by rw[z0h x_q06c rfl hp rfl];exact e_q06c
theorem x_q06k:X.fn z6c=some zgJ:=by kernel_rfl
theorem zxo {u0 u1 v0 v1:AV} {h h1:Heap} {P:Post} (hp:z0p h [u0,u1]=some ([v0,v1],h1)):z0c X z6c [u0,u1] h P=zes (z0c X) X.gl z6C v0 v1 h1 [] (finR [.t 4] false h.length P):=by rw[z0h x_q06k rfl hp rfl];exact e_q06k
theorem x_q06m:X.fn z3p=some zgL:=by kernel_rfl
theorem c_q06m {u0 u1 v0 v1:AV} {h h1:Heap} {P:Post} (hp:z0p h [u0,u1]=some ([v0,v1],h1)):z0c X z3p [u0,u1] h P=zh0 (z0c X) X.gl z3D z6D v0 v1 h1 [] (finR [] false h.length P):=by rw[z0h x_q06m rfl hp rfl];exact e_q06m
theorem x_q06j:X.fn z4u=some zgI:=by kernel_rfl
theorem c_q06j {u0 u1 u2 u3 v0 v1 v2 v3:AV} {h h1:Heap} {P:Post} (hp:z0p h [u0,u1,u2,u3]=some ([v0,v1,v2,v3],h1)):z0c X z4u [u0,u1,u2,u3] h P=zhz (z0c X) X.gl v0 v1 v2 v3 h1 [] (finR [] false h.length P):=by rw[z0h x_q06j rfl hp rfl];exact e_q06j
theorem x_q01v:X.fn zax=some zl9:=by kernel_rfl
theorem c_q01v {u0 u1 v0 v1:AV} {h h1:Heap} {P:Post} (hp:z0p h [u0,u1]=some ([v0,v1],h1)):z0c X zax [u0,u1] h P=zhc (z0c X) X.gl z3u z6k v0 v1 h1 [] (finR [.t 4] false h.length P):=by rw[z0h x_q01v rfl hp rfl];exact e_q01v
theorem x_q02x:X.fn z4b=some zlN:=by kernel_rfl
theorem c_q02x {u0 u1 v0 v1:AV} {h h1:Heap} {P:Post} (hp:z0p h [u0,u1]=some ([v0,v1],h1)):z0c X z4b [u0,u1] h P=zhl (z0c X) X.gl z3y z6r v0 v1 h1 [] (finR [.t 4] false h.length P):=by rw[z0h x_q02x rfl hp rfl];exact e_q02x
theorem x_q02s:X.fn z73=some zlI:=by kernel_rfl
theorem zxm {u0 u1 u2 v0 v1 v2:AV} {h h1:Heap} {P:Post} (hp:z0p h [u0,u1,u2]=some ([v0,v1,v2],h1)):z0c X z73 [u0,u1,u2] h P=zhj (z0c X) X.gl v0 v1 v2 h1 [] (finR [.t 6] false h.length P):=by rw[z0h x_q02s rfl hp rfl];exact e_q02s
theorem x_q02w:X.fn z28=some zlM:=by kernel_rfl
theorem c_q02w {u0 u1 v0 v1:AV} {h h1:Heap} {P:Post} (hp:z0p h [u0,u1]=some ([v0,v1],h1)):z0c X z28 [u0,u1] h P=zni (z0c X) X.gl v0 v1 h1 [] (finR [.t 4] false h.length P):=by rw[z0h x_q02w rfl hp rfl];exact e_q02w
theorem x_q04z:X.fn zaD=some zmg:=by kernel_rfl
theorem c_q04z {u0 v0:AV} {h h1:Heap} {P:Post} (hp:z0p h [u0]=some ([v0],h1)):z0c X zaD [u0] h P=zhv (z0c X) X.gl v0 h1 [] (finR [] false h.length P):=by rw[z0h x_q04z rfl hp rfl];exact e_q04z
theorem x_q06u:X.fn z79=some zmx:=by kernel_rfl
theorem c_q06u {u0 v0:AV} {h h1:Heap} {P:Post} (hp:z0p h [u0]=some ([v0],h1)):z0c X z79 [u0] h P=zn1 (z0c X) X.gl v0 h1 [] (finR [.t 2] false h.length P):=by rw[z0h x_q06u rfl hp rfl];exact e_q06u
theorem x_q06s:X.fn z78=some zmw:=by kernel_rfl
theorem c_q06s {u0 v0:AV} {h h1:Heap} {P:Post} (hp:z0p h [u0]=some ([v0],h1)):z0c X z78 [u0] h P=zap (z0c X) X.gl v0 h1 [] (finR [.t 2] false h.length P):=by rw[z0h x_q06s rfl hp rfl];exact e_q06s
theorem x_q03p:X.fn zaA=some zmb:=by kernel_rfl
theorem c_q03p {u0 v0:AV} {h h1:Heap} {P:Post} (hp:z0p h [u0]=some ([v0],h1)):z0c X zaA [u0] h P=znm (z0c X) X.gl v0 h1 [] (finR [.t 2] false h.length P):=by rw[z0h x_q03p rfl hp rfl];exact e_q03p
theorem x_q03i:X.fn za6=some zlW:=by kernel_rfl
theorem c_q03i {u0 u1 u2 v0 v1 v2:AV} {h h1:Heap} {P:Post} (hp:z0p h [u0,u1,u2]=some ([v0,v1,v2],h1)):z0c X za6 [u0,u1,u2] h P=znl (z0c X) X.gl v0 v1 v2 h1 [] (finR [.t 6] false h.length P):=by rw[z0h x_q03i rfl hp rfl];exact e_q03i
theorem x_q031:X.fn z4c=some zlR:=by kernel_rfl
theorem c_q031 {u0 v0:AV} {h h1:Heap} {P:Post} (hp:z0p h [u0]=some ([v0],h1)):z0c X z4c [u0] h P=znk (z0c X) X.gl v0 h1 [] (finR [.t 2] false h.length P):=by rw[z0h x_q031 rfl hp rfl];exact e_q031
theorem x_q03n:X.fn za9=some zma:=by kernel_rfl
theorem c_q03n {u0 v0:AV} {h h1:Heap} {P:Post} (hp:z0p h [u0]=some ([v0],h1)):z0c X za9 [u0] h P=z3k (z0c X) X.gl v0 h1 [] (finR [.t 2] false h.length P):=by rw[z0h x_q03n rfl hp rfl];exact e_q03n
theorem x_q03m:X.fn za8=some zlZ:=by kernel_rfl
theorem c_q03m {u0 v0:AV} {h h1:Heap} {P:Post} (hp:z0p h [u0]=some ([v0],h1)):z0c X za8 [u0] h P=zhr (z0c X) X.gl z35 z61 v0 h1 [] (finR [.t 2] false h.length P):=by rw[z0h x_q03m rfl hp rfl];exact e_q03m
theorem x_q044:X.fn z8J=some zgA:=by kernel_rfl
theorem c_q044 {u0 u1 h P}:z0c X z8J [u0,u1] h P=zhs (z0c X) X.gl z38 z63 u0 u1 h [] (finR [.t 4] false h.length P):=by rw[z7I x_q044 rfl rfl];exact e_q044
theorem x_q006:X.fn zas=some zl1:=by kernel_rfl
theorem c_q006 {u0 v0:AV} {h h1:Heap} {P:Post} (hp:z0p h [u0]=some ([v0],h1)):z0c X zas [u0] h P=zgY (z0c X) X.gl v0 h1 [] (finR [.t 2,.t 3] false h.length P):=by rw[z0h x_q006 rfl hp rfl];exact e_q006
theorem x_q05c:X.fn z77=some zmk:=by kernel_rfl
theorem c_q05c {u0 u1 v0 v1:AV} {h h1:Heap} {P:Post} (hp:z0p h [u0,u1]=some ([v0,v1],h1)):z0c X z77 [u0,u1] h P=znu (z0c X) X.gl v0 v1 h1 [] (finR [.t 4] false h.length P):=by rw[z0h x_q05c rfl hp rfl];exact e_q05c
theorem x_q03y:X.fn z5Z=some zg9:=by kernel_rfl
theorem c_q03y {u0 u1 h P}:z0c X z5Z [u0,u1] h P=zno (z0c X) X.gl u0 u1 h [] (finR [.t 4] false h.length P):=by rw[z7I x_q03y rfl rfl];exact e_q03y
theorem x_q06f:X.fn zaM=some zmt:=by kernel_rfl
theorem c_q06f {u0 v0:AV} {h h1:Heap} {P:Post} (hp:z0p h [u0]=some ([v0],h1)):z0c X zaM [u0] h P=zhy (z0c X) X.gl z3C z6B v0 h1 [] (finR [.t 2] false h.length P):=by rw[z0h x_q06f rfl hp rfl];exact e_q06f
theorem x_q008:X.fn zat=some zl2:=by kernel_rfl
theorem c_q008 {u0 u1 v0 v1:AV} {h h1:Heap} {P:Post} (hp:z0p h [u0,u1]=some ([v0,v1],h1)):z0c X zat [u0,u1] h P=z5O (z0c X) X.gl z2C z6h v0 v1 h1 [] (finR [.t 4,.t 5] false h.length P):=by rw[z0h x_q008 rfl hp rfl];exact e_q008
theorem x_q045:X.fn z74=some zgB:=by kernel_rfl
theorem c_q045 {u0 u1 h P}:z0c X z74 [u0,u1] h P=zht (z0c X) X.gl z39 z64 u0 u1 h [] (finR [.t 4] false h.length P):=by rw[z7I x_q045 rfl rfl];exact e_q045
theorem x_q06q:X.fn z8T=some zgO:=by kernel_rfl
theorem c_q06q {u0 v0:AV} {h h1:Heap} {P:Post} (hp:z0p h [u0]=some ([v0],h1)):z0c X z8T [u0] h P=z8C (z0c X) X.gl v0 h1 [] (finR [.t 2] false h.length P):=by rw[z0h x_q06q rfl hp rfl];exact e_q06q
theorem x_q06n:X.fn z8R=some zgM:=by kernel_rfl
theorem c_q06n {u0 v0:AV} {h h1:Heap} {P:Post} (hp:z0p h [u0]=some ([v0],h1)):z0c X z8R [u0] h P=z3n (z0c X) X.gl v0 h1 [] (finR [.t 2] false h.length P):=by rw[z0h x_q06n rfl hp rfl];exact e_q06n
theorem x_q000:X.fn z26=some zg5:=by kernel_rfl
theorem c_q000 {u0 v0:AV} {h h1:Heap} {P:Post} (hp:z0p h [u0]=some ([v0],h1)):z0c X z26 [u0] h P=zna (z0c X) X.gl v0 h1 [] (finR [.t 2] false h.length P):=by rw[z0h x_q000 rfl hp rfl];exact e_q000
theorem x_q05p:X.fn z8M=some zgC:=by kernel_rfl
theorem c_q05p {u0 u1 v0 v1:AV} {h h1:Heap} {P:Post} (hp:z0p h [u0,u1]=some ([v0,v1],h1)):z0c X z8M [u0,u1] h P=znx (z0c X) X.gl v0 v1 h1 [] (finR [.t 4,.t 5] false h.length P):=by rw[z0h x_q05p rfl hp rfl];exact e_q05p
theorem x_q01w:X.fn z4q=some zlA:=by kernel_rfl
theorem zxl {u0 u1 v0 v1:AV} {h h1:Heap} {P:Post} (hp:z0p h [u0,u1]=some ([v0,v1],h1)):z0c X z4q [u0,u1] h P=zhd (z0c X) X.gl v0 v1 h1 [] (finR [.t 4] false h.length P):=by rw[z0h x_q01w rfl hp rfl];exact e_q01w
theorem x_q019:X.fn zeE=some zl3:=by kernel_rfl
theorem c_q019 {u0 v0:AV} {h h1:Heap} {P:Post} (hp:z0p h [u0]=some ([v0],h1)):z0c X zeE [u0] h P=zxr (z0c X) X.gl v0 h1 [] (finR [.t 2] false h.length P):=by rw[z0h x_q019 rfl hp rfl];exact e_q019
theorem x_q01a:X.fn zeF=some zl4:=by kernel_rfl
theorem c_q01a {u0 u1 v0 v1:AV} {h h1:Heap} {P:Post} (hp:z0p h [u0,u1]=some ([v0,v1],h1)):z0c X zeF [u0,u1] h P=znc (z0c X) X.gl z3s z6i v0 v1 h1 [] (finR [.t 4] false h.length P):=by rw[z0h x_q01a rfl hp rfl];exact e_q01a
theorem x_q01t:X.fn zav=some zl7:=by kernel_rfl
theorem c_q01t {u0 u1 v0 v1:AV} {h h1:Heap} {P:Post} (hp:z0p h [u0,u1]=some ([v0,v1],h1)):z0c X zav [u0,u1] h P=zha (z0c X) X.gl v0 v1 h1 [] (finR [.t 4] false h.length P):=by rw[z0h x_q01t rfl hp rfl];exact e_q01t
theorem x_q03x:X.fn z5t=some zg8:=by kernel_rfl
theorem c_q03x {u0 u1 h P}:z0c X z5t [u0,u1] h P=znn (z0c X) X.gl u0 u1 h [] (finR [.t 4] false h.length P):=by rw[z7I x_q03x rfl rfl];exact e_q03x
theorem x_q03k:X.fn za7=some zlX:=by kernel_rfl
theorem c_q03k {u0 u1 v0 v1:AV} {h h1:Heap} {P:Post} (hp:z0p h [u0,u1]=some ([v0,v1],h1)):z0c X za7 [u0,u1] h P=zhq (z0c X) X.gl z34 z6y v0 v1 h1 [] (finR [.t 4] false h.length P):=by rw[z0h x_q03k rfl hp rfl];exact e_q03k
theorem x_q03l:X.fn z4s=some zlY:=by kernel_rfl
theorem zda {u0 u1 u2 v0 v1 v2:AV} {h h1:Heap} {P:Post} (hp:z0p h [u0,u1,u2]=some ([v0,v1,v2],h1)):z0c X z4s [u0,u1,u2] h P=z7w (z0c X) X.gl z6z z60 v0 v1 v2 h1 [] (finR [.cell 6 (some 5)] false h.length P):=by rw[z0h x_q03l rfl hp rfl];exact e_q03l
theorem x_q055:X.fn zaF=some zmh:=by kernel_rfl
theorem c_q055 {u0 u1 v0 v1:AV} {h h1:Heap} {P:Post} (hp:z0p h [u0,u1]=some ([v0,v1],h1)):z0c X zaF [u0,u1] h P=znr (z0c X) X.gl v0 v1 h1 [] (finR [.t 4,.t 5] false h.length P):=by rw[z0h x_q055 rfl hp rfl];exact e_q055
theorem x_q05h:X.fn zaJ=some zmn:=by kernel_rfl
theorem c_q05h {u0 u1 u2 u3 v0 v1 v2 v3:AV} {h h1:Heap} {P:Post} (hp:z0p h [u0,u1,u2,u3]=some ([v0,v1,v2,v3],h1)):z0c X zaJ [u0,u1,u2,u3] h P=zhw (z0c X) X.gl z66 v0 v1 v2 v3 h1 [] (finR [.t 8] false h.length P):=by rw[z0h x_q05h rfl hp rfl];exact e_q05h
theorem x_q05e:X.fn zaI=some zml:=by kernel_rfl
theorem c_q05e {u0 u1 v0 v1:AV} {h h1:Heap} {P:Post} (hp:z0p h [u0,u1]=some ([v0,v1],h1)):z0c X zaI [u0,u1] h P=znv (z0c X) X.gl v0 v1 h1 [] (finR [.t 4] false h.length P):=by rw[z0h x_q05e rfl hp rfl];exact e_q05e
theorem x_q05q:X.fn z6a=some zgD:=by kernel_rfl
theorem c_q05q {u0 v0:AV} {h h1:Heap} {P:Post} (hp:z0p h [u0]=some ([v0],h1)):z0c X z6a [u0] h P=zny (z0c X) X.gl v0 h1 [] (finR [.t 2] false h.length P):=by rw[z0h x_q05q rfl hp rfl];exact e_q05q
theorem zyC:X.fn z4t=some zac:=by kernel_rfl
theorem c_q05s {u0 u1 v0 v1:AV} {h h1:Heap} {P:Post} (hp:z0p h [u0,u1]=some ([v0,v1],h1)):z0c X z4t [u0,u1] h P = ∃ v h' x,P v h' x∧zdY (z0c X) X.gl z3A z67 v0 v1 h1 [] (finR [.t 4] false h.length fun v1 h1 x1=>v1=v∧h1=h'∧x1=x):=by rw[z2R zyC rfl hp rfl];exact zpw fun v h' x=>congrArg (And (P v h' x)) zxw
theorem x_q01b:X.fn zeG=some zl5:=by kernel_rfl
theorem c_q01b {u0 v0:AV} {h h1:Heap} {P:Post} (hp:z0p h [u0]=some ([v0],h1)):z0c X zeG [u0] h P=znd (z0c X) X.gl z3t z6j v0 h1 [] (finR [.t 2,.t 3] false h.length P):=by rw[z0h x_q01b rfl hp rfl];exact e_q01b
theorem x_q058:X.fn zaH=some zmj:=by kernel_rfl
theorem c_q058 {u0 u1 v0 v1:AV} {h h1:Heap} {P:Post} (hp:z0p h [u0,u1]=some ([v0,v1],h1)):z0c X zaH [u0,u1] h P=znt (z0c X) X.gl v0 v1 h1 [] (finR [.t 4] false h.length P):=by rw[z0h x_q058 rfl hp rfl];exact e_q058
theorem x_q02y:X.fn z2q=some zlO:=by kernel_rfl
theorem c_q02y {u0 u1 v0 v1:AV} {h h1:Heap} {P:Post} (hp:z0p h [u0,u1]=some ([v0,v1],h1)):z0c X z2q [u0,u1] h P=zhm (z0c X) X.gl z3z v0 v1 h1 [] (finR [.t 4] false h.length P):=by rw[z0h x_q02y rfl hp rfl];exact e_q02y
theorem x_q03h:X.fn za5=some zlV:=by kernel_rfl
theorem c_q03h {u0 v0:AV} {h h1:Heap} {P:Post} (hp:z0p h [u0]=some ([v0],h1)):z0c X za5 [u0] h P=zhp (z0c X) X.gl z33 z6x v0 h1 [] (finR [.t 2] false h.length P):=by rw[z0h x_q03h rfl hp rfl];exact e_q03h
theorem x_q01s:X.fn zau=some zl6:=by kernel_rfl
theorem c_q01s {u0 u1 v0 v1:AV} {h h1:Heap} {P:Post} (hp:z0p h [u0,u1]=some ([v0,v1],h1)):z0c X zau [u0,u1] h P=zgZ (z0c X) X.gl v0 v1 h1 [] (finR [.t 4,.t 5] false h.length P):=by rw[z0h x_q01s rfl hp rfl];exact e_q01s
theorem x_q05g:X.fn zeJ=some zmm:=by kernel_rfl
theorem c_q05g {u0 u1 v0 v1:AV} {h h1:Heap} {P:Post} (hp:z0p h [u0,u1]=some ([v0,v1],h1)):z0c X zeJ [u0,u1] h P=znw (z0c X) X.gl z65 v0 v1 h1 [] (finR [.t 4] false h.length P):=by rw[z0h x_q05g rfl hp rfl];exact e_q05g
theorem x_q01x:X.fn zay=some zlB:=by kernel_rfl
theorem c_q01x {u0 u1 v0 v1:AV} {h h1:Heap} {P:Post} (hp:z0p h [u0,u1]=some ([v0,v1],h1)):z0c X zay [u0,u1] h P=zhe (z0c X) X.gl v0 v1 h1 [] (finR [.t 4] false h.length P):=by rw[z0h x_q01x rfl hp rfl];exact e_q01x
theorem zyB:X.fn z5u=some z7Y:=by kernel_rfl
theorem c_q05r {u0 u1 v0 v1:AV} {h h1:Heap} {P:Post} (hp:z0p h [u0,u1]=some ([v0,v1],h1)):z0c X z5u [u0,u1] h P=zhx (z0c X) X.gl v0 v1 h1 [] (finR [.t 4] false h.length P):=by rw[z0h zyB rfl hp rfl];exact zxv
theorem x_q01u:X.fn zaw=some zl8:=by kernel_rfl
theorem c_q01u {u0 u1 v0 v1:AV} {h h1:Heap} {P:Post} (hp:z0p h [u0,u1]=some ([v0,v1],h1)):z0c X zaw [u0,u1] h P=zhb (z0c X) X.gl v0 v1 h1 [] (finR [.t 4] false h.length P):=by rw[z0h x_q01u rfl hp rfl];exact e_q01u
theorem x_q05w:X.fn zeK=some zmo:=by kernel_rfl
theorem c_q05w {u0 v0:AV} {h h1:Heap} {P:Post} (hp:z0p h [u0]=some ([v0],h1)):z0c X zeK [u0] h P=zxs (z0c X) X.gl v0 h1 [] (finR [.t 2,.t 3] false h.length P):=by rw[z0h x_q05w rfl hp rfl];exact e_q05w
theorem x_q060:X.fn zeL=some zmp:=by kernel_rfl
theorem c_q060 {u0 v0:AV} {h h1:Heap} {P:Post} (hp:z0p h [u0]=some ([v0],h1)):z0c X zeL [u0] h P=zxt (z0c X) X.gl v0 h1 [] (finR [.t 2,.t 3] false h.length P):=by rw[z0h x_q060 rfl hp rfl];exact e_q060
attribute [go_sem] zof zog zqf zd3 zd4 znU znV zqc zdv zdw zo8 zo9 zqp zdO zdP zoo zop zqj zdA zdB zob zoc zod zoe zqd zqe zd0 zd1 zd2 z8x zoQ zoR zqx zeh zei zoq zor zqk zdD zdE
attribute [go_sem] zoO zoP zqw zec zee zoV zoW zqz zep zeq zph zpi zq2 zew z4n znX znY znZ zoa zdy z8w zdz z1x zou zov zow zox z22 z1y z0O z3j zos zot zql zdF zdG znF z8D zpV zdk
attribute [go_sem] z8r zoX zoY zoZ zq0 zer z5S z3l znW zdx zoS zel zpa zpb zpc zpd zpe zpf zpg zq1 zet z88 zeu z89 zev z8A z8B zpj zpk zq3 zex zey znR znS znT zqb zdt z8v zdu zoh
attribute [go_sem] zoi zqg zd5 zd6 zo6 zo7 zqo zdL zdM zoA zoB zqq zdQ zdR zoT zoU zqy zem zen znG z5V zpW zdl z5P zoC zoD zqr zdS zdT znH znI znJ znK zpX zpY zdm zdn zdo z8s zo1
attribute [go_sem] zo2 zqn zdJ zdK zo3 zo4 zo5 z2g z82 z1N zoI zoJ z8E zqt zdW zdX z5Q zoK zoL zoM zoN zqu zqv zdZ z86 z87 zea znL znM znN znO znP znQ zpZ zqa zdp zdq zdr z8t zds
attribute [go_sem] z8u zoj zok zol zom zon zqh zqi zd7 zd8 z8y zd9 z8z zoy zoz zo0 zqm zdH z81 zdI zoE zoF zoG zoH zqs zdU zdV z83 z84
end Go.Am
end
section
/- The stream of numbers out of which the laws draw. -/
open Go
namespace Go.Am
abbrev eI (n:Int):PV:=.int .i64 n
abbrev AL (l:List Int):AV:=.p (.sl none (l.map eI))
abbrev strm (L:List Int) (a:Int):Obj:=.box [AL L,AI a]
def zcX (x n:Int):Int:=if n<1 then 0 else if x.tmod n<0 then IntKind.i64.wrap (x.tmod n+n) else x.tmod n
theorem ztk (x n:Int) (h:Heap) (K:Post):z0c X z5s [AI x,AI n] h K=K (AI (zcX x n)) h []:=by
 refine rule ?_
 rw[c_q02l rfl]
 simp only[zhg,go_sem]
 unfold zcX
 by_cases h1:n<1
 ·simp only[h1,if_true]
 ·simp only[h1,if_false,show ¬ n=0 by omega]
  split <;> rfl
theorem zuq (x n:Int) (h1:1≤n) (h2:n≤4611686018427387904):0≤zcX x n∧zcX x n<n:=by
 unfold zcX
 rw[if_neg (by omega)]
 have:=Int.tmod_lt_of_pos x (show 0<n by omega)
 have h3 : -n<x.tmod n:=by
  have:=Int.lt_tmod_of_pos x (show 0<n by omega)
  exact this
 split
 ·rw[z0j _ (by omega) (by omega)];omega
 ·omega
def z1K (L:List Int) (a n:Int):Int:=
 if L.length=0 then zcX (IntKind.i64.wrap ((a+1)*7919)) n
 else zcX (IntKind.i64.wrap (zcX (L.getD (a.tmod L.length).toNat 0) 1073741824+IntKind.i64.wrap (IntKind.i64.wrap (a.tdiv L.length)*IntKind.i64.wrap (7919+a.tmod L.length)))) n
theorem z5d (L:List Int) (a n:Int) (h1:1≤n) (h2:n≤4611686018427387904):0≤z1K L a n∧z1K L a n<n:=by
 unfold z1K
 split <;> exact zuq _ _ h1 h2
theorem z6O {h:Heap} {id:Nat} {o':Obj} (hid:id<h.length):(h.set id o')[id]?=some o':=by simp [hid]
theorem z6f {h:Heap} {id:Nat} {o:Obj} (hh:h[id]?=some o):id<h.length:=(List.getElem?_eq_some_iff.1 hh).1
def posN (n:Nat) (a:Int):Prop:=0≤a∧a+n<4611686018427387904
theorem z10 {n m:Nat} {a b:Int} (H:posN m a) (h:a≤b) (hn:b+n≤a+m):posN n b:=by unfold posN at *;omega
theorem zil {a:Int} (H:posN 14 a):posN 0 (a)∧posN 0 (a+1)∧posN 0 (a+1+1)∧posN 0 (a+1+1+1)∧posN 0 (a+1+1+1+1)∧posN 0 (a+1+1+1+1+1)∧posN 0 (a+1+1+1+1+1+1)∧posN 0 (a+1+1+1+1+1+1+1)∧posN 0 (a+1+1+1+1+1+1+1+1)∧posN 0 (a+1+1+1+1+1+1+1+1+1)∧posN 0 (a+1+1+1+1+1+1+1+1+1+1)∧posN 0 (a+1+1+1+1+1+1+1+1+1+1+1)∧posN 0 (a+1+1+1+1+1+1+1+1+1+1+1+1)∧posN 0 (a+1+1+1+1+1+1+1+1+1+1+1+1+1)∧posN 0 (a+1+1+1+1+1+1+1+1+1+1+1+1+1+1):=by
 unfold posN at *;omega
def Gen (f:Nat) (args:List AV) (L:List Int) (a a2:Int) (v:AV):Prop:=∀ (h:Heap) (id:Nat) (K:Post),h[id]?=some (strm L a)→z0c X f (.ref id 0::args) h K=K v (h.set id (strm L a2)) []
section
variable {f:Nat} {args:List AV} {L:List Int} {a a2:Int} {v:AV} {h l:Heap} {id:Nat} {K:Post}
theorem Gen.set (g:Gen f args L a a2 v) (hid:id<h.length):z0c X f (.ref id 0::args) (h.set id (strm L a)) K=K v (h.set id (strm L a2)) []:=by
 rw[g _ _ _ (z6O hid),List.set_set]
theorem Gen.app (g:Gen f args L a a2 v) (hid:id<h.length):z0c X f (.ref id 0::args) (h.set id (strm L a)++l) K=K v (h.set id (strm L a2)++l) []:=by
 rw[g _ _ _ (by rw[zpJ (by simpa using hid)];exact z6O hid),zt2 (by simpa using hid),List.set_set]
theorem Gen.hd (g:Gen f args L a a2 v):z0c X f (.ref 0 0::args) (strm L a::l) K=K v (strm L a2::l) []:=by
 rw[g _ _ _ rfl];rfl
theorem Gen.of (H:∀ (h:Heap) (id:Nat),id<h.length→z0c X f (.ref id 0::args) (h.set id (strm L a)) fun v1 h1 x1=>v1=v∧h1=h.set id (strm L a2)∧x1=[]):Gen f args L a a2 v:=by
 intro h id K hh
 have hid:=z6f hh
 have:h.set id (strm L a)=h:=by
  apply List.ext_getElem?
  intro i
  rw[List.getElem?_set]
  split
  ·rename_i e;subst e;rw[hh]
  ·rfl
 have k:=H h id hid
 rw[this] at k
 exact rule k
end
def GenE (f:Nat) (args:List AV) (L:List Int) (a:Int) (Q:AV→Int→Prop):Prop:=∀ (h:Heap) (id:Nat),h[id]?=some (strm L a)→∃ v a2,Q v a2∧∀ K:Post,z0c X f (.ref id 0::args) h K=K v (h.set id (strm L a2)) []
section
variable {f:Nat} {args:List AV} {L:List Int} {a:Int} {Q:AV→Int→Prop}
theorem GenE.set (g:GenE f args L a Q) {h:Heap} {id:Nat} (hid:id<h.length):∃ v a2,Q v a2∧∀ K:Post,z0c X f (.ref id 0::args) (h.set id (strm L a)) K=K v (h.set id (strm L a2)) []:=by
 obtain⟨v,a2,q,r⟩:=g _ _ (z6O hid)
 exact⟨v,a2,q,fun K=>by rw[r,List.set_set]⟩
theorem GenE.app (g:GenE f args L a Q) {h l:Heap} {id:Nat} (hid:id<h.length):∃ v a2,Q v a2∧∀ K:Post,z0c X f (.ref id 0::args) (h.set id (strm L a)++l) K=K v (h.set id (strm L a2)++l) []:=by
 obtain⟨v,a2,q,r⟩:=g (h.set id (strm L a)++l) id (by rw[zpJ (by simpa using hid)];exact z6O hid)
 exact⟨v,a2,q,fun K=>by rw[r,zt2 (by simpa using hid),List.set_set]⟩
theorem GenE.hd (g:GenE f args L a Q) {l:Heap}:∃ v a2,Q v a2∧∀ K:Post,z0c X f (.ref 0 0::args) (strm L a::l) K=K v (strm L a2::l) []:=g (strm L a::l) 0 rfl
theorem GenE.of (H:∀ (h:Heap) (id:Nat),id<h.length→z0c X f (.ref id 0::args) (h.set id (strm L a)) fun v1 h1 x1=>∃ a2,Q v1 a2∧h1=h.set id (strm L a2)∧x1=[]):GenE f args L a Q:=by
 intro h id hh
 have hid:=z6f hh
 have:h.set id (strm L a)=h:=by
  apply List.ext_getElem?
  intro i
  rw[List.getElem?_set]
  split
  ·rename_i e;subst e;rw[hh]
  ·rfl
 have k:=H h id hid
 rw[this] at k
 obtain⟨v,h',x,⟨a2,q,e1,e2⟩,r⟩:=z0c.one zg4 k
 subst e1;subst e2
 exact⟨v,a2,q,r⟩
end
def z4i (l:List Int) (L:List Int) (a:Int):Int:=l.getD (z1K L a l.length).toNat 0
theorem z94 {l L:List Int} {a:Int} (hl:0<l.length) (hl2:l.length<4611686018427387904):z4i l L a∈l:=by
 obtain⟨b1,b2⟩:=z5d L a l.length (by omega) (by omega)
 unfold z4i
 have:(z1K L a l.length).toNat<l.length:=by omega
 simp only[List.getD,List.getElem?_eq_getElem this,Option.getD_some]
 exact List.getElem_mem _
def isI:PV→Bool
 | .int .i64 _=>true
 | _=>false
def unI:PV→Int
 | .int _ n=>n
 | _=>0
theorem y1j {xs:List PV} (h:xs.all isI=true):xs=(xs.map unI).map eI:=by
 induction xs with
 | nil=>rfl
 | cons x r ih=>
  simp only[List.all_cons,Bool.and_eq_true] at h
  simp only[List.map_cons]
  rw[← ih h.2]
  cases x with
  | int k n=>cases k <;> first | rfl | cases h.1
  | _=>cases h.1
set_option maxHeartbeats 400000 in
theorem zpF (L:List Int) (a n:Int) (hp:posN 0 a):Gen z2i [AI n] L a (a+1) (AI (z1K L a n)):=by
 refine Gen.of fun h id hid=>?_
 rw[c_q02r rfl]
 obtain⟨h0,h1⟩:=hp
 have w1:IntKind.i64.wrap (a+1)=a+1:=z0j _ (by omega) (by omega)
 have w2:IntKind.i64.wrap (a+1-1)=a:=by rw[z0j _ (by omega) (by omega)];omega
 have hs:∀ o',(h.set id o')[id]?=some o':=fun o'=>z6O hid
 rcases Nat.eq_zero_or_pos L.length with hl | hl
 ·simp only[zhi,go_sem,hs,ztk,hl,w1]
  simp only[z1K,hl,if_true]
 ·have e1:((L.length:Int)=0)=False:=by simp only[eq_iff_iff,iff_false];omega
  have e2:0≤a.tmod L.length:=Int.tmod_nonneg _ h0
  have e3:a.tmod L.length<L.length:=Int.tmod_lt_of_pos _ (by omega)
  have e4:=z9d (k:=.i64) e2
  have e5:(L.map eI)[(a.tmod L.length).toNat]?=some (eI (L.getD (a.tmod L.length).toNat 0)):=by
   rw[z1E eI (show (a.tmod L.length).toNat<L.length by omega)]
   simp [List.getD,show (a.tmod L.length).toNat<L.length by omega]
  simp only[zhi,go_sem,hs,ztk,e1,w1,w2,e4,e5]
  simp only[z1K,show ¬ L.length=0 by omega,if_false]
section
variable {L:List Int} {a:Int} {h l:Heap} {id:Nat} {K:Post}
theorem z2w (hid:id<h.length) (hp:posN 0 a) (n:Int):z0c X z2i [.ref id 0,AI n] (h.set id (strm L a)) K=K (AI (z1K L a n)) (h.set id (strm L (a+1))) []:=(zpF L a n hp).set hid
theorem zbm (hid:id<h.length) (hp:posN 0 a) (n:Int):z0c X z2i [.ref id 0,AI n] (h.set id (strm L a)++l) K=K (AI (z1K L a n)) (h.set id (strm L (a+1))++l) []:=(zpF L a n hp).app hid
theorem zfm (hp:posN 0 a) (n:Int):z0c X z2i [.ref 0 0,AI n] (strm L a::l) K=K (AI (z1K L a n)) (strm L (a+1)::l) []:=(zpF L a n hp).hd
theorem zpE (hp:posN 0 a) (n:Int):Gen z27 [AI n] L a (a+1) (AB (decide (z1K L a n=0))):=by
 refine Gen.of fun h id hid=>?_
 rw[c_q02q rfl]
 simp only[znf,go_sem,z2w hid hp]
theorem zbl (hid:id<h.length) (hp:posN 0 a) (n:Int):z0c X z27 [.ref id 0,AI n] (h.set id (strm L a)) K=K (AB (decide (z1K L a n=0))) (h.set id (strm L (a+1))) []:=(zpE hp n).set hid
theorem zbk (hid:id<h.length) (hp:posN 0 a) (n:Int):z0c X z27 [.ref id 0,AI n] (h.set id (strm L a)++l) K=K (AB (decide (z1K L a n=0))) (h.set id (strm L (a+1))++l) []:=(zpE hp n).app hid
theorem zfl (hp:posN 0 a) (n:Int):z0c X z27 [.ref 0 0,AI n] (strm L a::l) K=K (AB (decide (z1K L a n=0))) (strm L (a+1)::l) []:=(zpE hp n).hd
theorem zpG (hp:posN 0 a) (xs:List PV) (hx:xs.all isI=true) (hl:0<xs.length) (hl2:xs.length<4611686018427387904) :
 Gen z1z [.p (.sl none xs)] L a (a+1) (AI (z4i (xs.map unI) L a)):=by
 refine Gen.of fun h id hid=>?_
 rw[c_q02t rfl]
 obtain⟨b1,b2⟩:=z5d L a xs.length (by omega) (by omega)
 have e4:=z9d (k:=.i64) b1
 have e5:xs[(z1K L a xs.length).toNat]?=some (eI (z4i (xs.map unI) L a)):=by
  have hm:=y1j hx
  generalize hq:xs.map unI=q at *
  subst hm
  simp only[List.length_map] at *
  rw[z1E eI (show (z1K L a q.length).toNat<q.length by omega)]
  simp [z4i,List.getD,show (z1K L a q.length).toNat<q.length by omega]
 simp only[zng,go_sem,z2w hid hp,e4,e5]
theorem zbo (hid:id<h.length) (hp:posN 0 a) {xs:List PV} (hx:xs.all isI=true) (hl:0<xs.length) (hl2:xs.length<4611686018427387904) :
 z0c X z1z [.ref id 0,.p (.sl none xs)] (h.set id (strm L a)) K=K (AI (z4i (xs.map unI) L a)) (h.set id (strm L (a+1))) []:=(zpG hp xs hx hl hl2).set hid
theorem zbn (hid:id<h.length) (hp:posN 0 a) {xs:List PV} (hx:xs.all isI=true) (hl:0<xs.length) (hl2:xs.length<4611686018427387904) :
 z0c X z1z [.ref id 0,.p (.sl none xs)] (h.set id (strm L a)++l) K=K (AI (z4i (xs.map unI) L a)) (h.set id (strm L (a+1))++l) []:=(zpG hp xs hx hl hl2).app hid
theorem zfn (hp:posN 0 a) {xs:List PV} (hx:xs.all isI=true) (hl:0<xs.length) (hl2:xs.length<4611686018427387904) :
 z0c X z1z [.ref 0 0,.p (.sl none xs)] (strm L a::l) K=K (AI (z4i (xs.map unI) L a)) (strm L (a+1)::l) []:=(zpG hp xs hx hl hl2).hd
def z2Y (u v:Int) (L:List Int) (a:Int):Int:=u+z1K L a (v-u+1)
theorem z96 {u v:Int} (L:List Int) (a:Int) (h1:u≤v) (h2:v≤u+4611686018427387900):u≤z2Y u v L a∧z2Y u v L a≤v:=by
 have:=z5d L a (v-u+1) (by omega) (by omega)
 unfold z2Y;omega
theorem zgb (hp:posN 0 a) (u v:Int) (huv:u≤v) (hu : -1152921504606846976≤u) (hv:v≤1152921504606846976) :
 Gen z4r [AI u,AI v] L a (a+1) (AI (z2Y u v L a)):=by
 refine Gen.of fun h id hid=>?_
 rw[c_q02u rfl]
 obtain⟨b1,b2⟩:=z96 L a huv (by omega)
 have w1:IntKind.i64.wrap (v-u)=v-u:=z0j _ (by omega) (by omega)
 have w2:IntKind.i64.wrap (v-u+1)=v-u+1:=z0j _ (by omega) (by omega)
 have w3:IntKind.i64.wrap (u+z1K L a (v-u+1))=z2Y u v L a:=z0j (z2Y u v L a) (by omega) (by omega)
 simp only[znh,go_sem,show ¬ v<u by omega,w1,w2,z2w hid hp,w3]
theorem z9G (hid:id<h.length) (hp:posN 0 a) {u v:Int} (huv:u≤v) (hu : -1152921504606846976≤u) (hv:v≤1152921504606846976) :
 z0c X z4r [.ref id 0,AI u,AI v] (h.set id (strm L a)) K=K (AI (z2Y u v L a)) (h.set id (strm L (a+1))) []:=(zgb hp u v huv hu hv).set hid
theorem z9F (hid:id<h.length) (hp:posN 0 a) {u v:Int} (huv:u≤v) (hu : -1152921504606846976≤u) (hv:v≤1152921504606846976) :
 z0c X z4r [.ref id 0,AI u,AI v] (h.set id (strm L a)++l) K=K (AI (z2Y u v L a)) (h.set id (strm L (a+1))++l) []:=(zgb hp u v huv hu hv).app hid
theorem zbp (hp:posN 0 a) {u v:Int} (huv:u≤v) (hu : -1152921504606846976≤u) (hv:v≤1152921504606846976) :
 z0c X z4r [.ref 0 0,AI u,AI v] (strm L a::l) K=K (AI (z2Y u v L a)) (strm L (a+1)::l) []:=(zgb hp u v huv hu hv).hd
end
attribute [go_sem ↓] z2w zbm zfm zbl zbk zfl zbo zbn zfn z9G z9F zbp
attribute [go_sem] z2w zbm zfm zbl zbk zfl zbo zbn zfn z9G z9F zbp isI unI
end Go.Am
end
section
/- Plain laws of fractions in lowest terms. -/
namespace Go.Am
end Go.Am
end
section
/- Small functions of numbers and of lists of numbers. -/
open Go
namespace Go.Am
variable {h:Heap} {K:Post}
theorem z7H (n a b:Int):z0c X z1i [AI n,AI a,AI b] h K=K (AB (decide (n<a)||decide (b<n))) h []:=by
 refine rule ?_
 rw[c_q009 rfl]
 by_cases h1:n<a <;> simp only[znb,go_sem,h1]
theorem s_in (n a b:Int):z0c X za6 [AI n,AI a,AI b] h K=K (AB (decide (a≤n)&&decide (n≤b))) h []:=by
 refine rule ?_
 rw[c_q03i rfl]
 by_cases h1:a≤n <;> simp only[znl,go_sem,h1]
end Go.Am
end
section
/- Functions of lists. -/
open Go
namespace Go.Am
variable {h:Heap} {K:Post}
def z4Z:List Int→Int
 | []=>0
 | e::r=>if e=0 then z4Z r else e
end Go.Am
end
section
/- Values of a shape: loads and stores in rows. -/
open Go
namespace Go.Am
variable {h:Heap} {K:Post}
theorem y0I {sh:Sh} {x:PV} (hx:x.shp sh=true):cutP sh 0 x=some x:=by
 cases sh with
 | none=>exact zzs hx
 | some n=>
  cases x with
  | agg cs=>
   simp only[PV.shp,Bool.and_eq_true,beq_iff_eq] at hx
   simp [cutP,hx.1]
   exact List.take_of_length_le (by omega)
  | _=>cases hx
theorem zt4 {sh:Sh} {x y:PV} (hx:x.shp sh=true) (hy:y.shp sh=true) (id i fz:Nat) (xs:List PV) (h1:Heap):stE sh id i 0 fz sh xs x h1 (some y)=some (.und,h1.set id (.row sh (xs.set i x) fz),[]):=by
 cases sh with
 | none=>
  cases y with
  | agg cs=>cases hy
  | _=>simp only[PV.shp] at hx;simp [stE,hx]
 | some n=>
  cases y with
  | agg cs=>
   cases x with
   | agg ds=>
    simp only[PV.shp,Bool.and_eq_true,beq_iff_eq] at hx hy
    simp [stE,PV.cells,splice,hx.1,hy.1,show cs.drop n=[] from List.drop_of_length_le (by omega)]
   | _=>cases hx
  | _=>cases hy
def shps (sh:Sh) (xs:List PV):Prop:=∀ x∈xs,x.shp sh=true
theorem zwi {sh:Sh} {xs:List PV} (hx:shps sh xs) {i:Nat} (hi:i<xs.length):xs[i].shp sh=true:=hx _ (List.getElem_mem hi)
theorem zwh {h:Heap} {id:Nat} {o:Obj} (hh:h[id]?=some o):h.set id o=h:=by
 apply List.ext_getElem?
 intro i
 rw[List.getElem?_set]
 split
 ·rename_i e;subst e;rw[hh];simp [z6f hh]
 ·rfl
structure Shows (sh:Sh) (v:AV) (xs:List PV) (h:Heap):Prop where
 len:oLen v=some (AI xs.length)
 get:∀ (k:Nat) (hk:k<xs.length),∃ a,z03 sh v (AI k) h=some a∧z0e sh a h=some (.p xs[k])
theorem ziC {sh:Sh} {xs:List PV} (hs:shps sh xs):Shows sh (.p (.sl sh xs)) xs h:=by
 refine⟨rfl,fun k hk=>⟨.vp xs[k],?_,?_⟩⟩
 ·simp [z03,z1k,hk]
 ·simp only[zqB,y0I (zwi hs hk)];rfl
end Go.Am
end
section
/- Strings: keys,the library's functions without text. -/
open Go
set_option linter.unusedSimpArgs false
namespace Go.Am
variable {h:Heap} {K:Post}
abbrev AS (s:List UInt8):AV:=.p (.str s)
theorem X_ext:X.ext=extF z0l z0s:=rfl
theorem zi3 (s:List UInt8) (c:UInt8):z0c X z0l [AS s,.p (.int .u8 c.toNat)] h K=K (AI (idxB s c)) h []:=by
 have:=zuS (X:=X) (f:=z0l) (asv:=[AS s,.p (.int .u8 c.toNat)]) (vs:=[.str s,.int .u8 c.toNat]) (h:=h) (h1:=h) (r:=.int .i64 (idxB s c)) (K:=K) (by kernel_rfl) rfl rfl rfl ?_
 ·exact this
 ·rw[X_ext]
  unfold extF
  rw[show Nat.beq z0l z0l=true from by kernel_rfl]
  simp
theorem z9E (s:List UInt8) (c:UInt8):z0c X zaH [AS s,.p (.int .u8 c.toNat)] h K=K (AI (idxB s c)) h []:=by
 have key:∀ (h:Heap) (K:Post),z0c X z4q [AS s,.p (.int .u8 c.toNat)] h K=K (AI (idxB s c)) h []:=by
  intro h K
  refine rule ?_
  rw[zxl rfl]
  simp only[zhd,go_sem,zi3]
 refine rule ?_
 rw[c_q058 rfl]
 simp only[znt,go_sem,key]
theorem zvk (s:List UInt8) (c:UInt8):decide (idxB s c<0) = !s.contains c:=by
 unfold idxB
 rw[Bool.eq_iff_iff]
 by_cases hf:s.findIdx (· == c)<s.length
 ·rw[if_pos hf]
  have:=List.findIdx_getElem (w:=hf)
  simp only[beq_iff_eq] at this
  have hm:c∈s:=by rw[← this];exact List.getElem_mem hf
  simp [hm]
 ·rw[if_neg hf]
  have hm:¬ c∈s:=fun hm=>hf (List.findIdx_lt_length_of_exists ⟨c,hm,by simp⟩)
  simp [hm]
theorem s_only (s t:List UInt8) (hl:s.length≤1000000000):z0c X za7 [AS s,AS t] h K=K (AB (s.all fun c=>t.contains c)) h []:=by
 refine rule ?_
 rw[c_q03k rfl]
 simp only[zhq,go_sem]
 refine z0Y (fun k:Nat=>⟨[(0,AS s),(1,AS t),(7,AI s.length),(8,AI k)],h,[]⟩) (fun k=>k≤s.length∧(s.take k).all (fun c=>t.contains c)=true) (fun k=>s.length-k) 0 rfl ⟨by omega,rfl⟩ ?_
 rintro k ⟨hk,hp⟩
 rcases Nat.lt_or_ge k s.length with hlt | hge
 ·have hg:s[k]?=some s[k]:=List.getElem?_eq_getElem hlt
  have w2:IntKind.i64.wrap ((k:Int)+1)=((k+1:Nat):Int):=z0j _ (by omega) (by omega)
  have hi:=zvk t s[k]
  by_cases hc:idxB t s[k]<0
  ·have:s.all (fun c=>t.contains c)=false:=by
    rw[List.all_eq_false]
    refine⟨_,List.getElem_mem hlt,?_⟩
    rw[decide_eq_true hc] at hi
    cases hq:t.contains s[k] with
    | true=>rw[hq] at hi;cases hi
    | false=>simp
   simp only[go_sem,hlt,hg,z9E,hc,this]
  ·rw[decide_eq_false hc] at hi
   have hq:t.contains s[k]=true:=by cases hq:t.contains s[k] with | true=>rfl | false=>rw[hq] at hi;cases hi
   simp only[go_sem,hlt,hg,z9E,hc,w2]
   exact⟨k+1,rfl,⟨by omega,by rw[List.take_succ_eq_append_getElem hlt,List.all_append,hp];simp only[List.all_cons,List.all_nil,hq];rfl⟩,by omega⟩
 ·have ek:k=s.length:=by omega
  subst ek
  rw[List.take_length] at hp
  simp only[go_sem,Nat.lt_irrefl,hp]
end Go.Am
end
section
/- Where a byte stands in a text. -/
open Go
set_option linter.all false
namespace Go.Am
variable {h:Heap} {K:Post}
theorem zcw (s:List UInt8) (c:UInt8):z0c X z4q [AS s,.p (.int .u8 c.toNat)] h K=K (AI (idxB s c)) h []:=by
 refine rule ?_
 rw[zxl rfl]
 simp only[zhd,go_sem,zi3]
theorem zzE (a b:List UInt8) (c:UInt8) (ha:c∉a):idxB (a++c::b) c=(a.length:Int):=by
 unfold idxB
 have h1:(a++c::b).findIdx (· == c)=a.length:=by
  rw[List.findIdx_append]
  have:a.findIdx (· == c)=a.length:=by
   rw[List.findIdx_eq_length]
   intro x hx
   simp
   intro e;subst e;exact ha hx
  rw[this,if_neg (by omega)]
  simp [List.findIdx_cons]
 rw[h1,if_pos (by simp)]
end Go.Am
end
section
/- Lengths of numbers in bits,and comparisons of plain values. -/
open Go
namespace Go.Am
variable {h:Heap} {K:Post}
set_option maxRecDepth 20000
theorem y0J {l:List Int}:shps none (l.map eI):=fun x hx=>by obtain⟨n,_,rfl⟩:=List.mem_map.1 hx;rfl
end Go.Am
end
section
/- Maps,asv lists of keys with values. -/
open Go
set_option linter.all false
namespace Go.Am
section
variable {α β:Type} [DecidableEq α]
def mesF (key:α→PV) (val:β→AV):Nat→List (α × β)→List ME
 | _,[]=>[]
 | n,e::r=>⟨key e.1,val e.2,n⟩::mesF key val (n+1) r
def mobj (key:α→PV) (val:β→AV) (l:List (α × β)):Obj:=.amap (mesF key val 0 l) l.length
def z1P (k:α):List (α × β)→Option Nat
 | []=>none
 | e::r=>if k=e.1 then some 0 else (z1P k r).map (· + 1)
def getM (k:α):List (α × β)→Option β
 | []=>none
 | e::r=>if k=e.1 then some e.2 else getM k r
def updM (k:α) (v:β):List (α × β)→List (α × β)
 | []=>[(k,v)]
 | e::r=>if k=e.1 then (k,v)::r else e::updM k v r
def KeyI (key:α→PV):Prop:=∀ a b,PV.eqv (key a) (key b)=some (decide (a=b))
theorem zbW:KeyI (fun n:Int=>PV.int .i64 n):=fun a b=>by simp [PV.eqv,PV.eq1]
theorem z8Y {n:Int} {k:IntKind}:z5k (none,[0]) (.p (.int k n))=some (.int k n):=by simp [z5k,PV.key,PV.shp,PV.sc,PV.cells,PV.kind]
variable {key:α→PV} {val:β→AV}
theorem z9b (hk:KeyI key) (k:α):∀ (l:List (α × β)) (n:Nat),z2B (key k) (mesF key val n l)=some (z1P k l)
 | [],n=>rfl
 | e::r,n=>by
  simp only[mesF,z2B,hk k e.1,z1P]
  by_cases h:k=e.1
  ·simp [h]
  ·simp [h,z9b hk k r (n+1)]
theorem zca:∀ (l:List (α × β)) (n i:Nat),(mesF key val n l)[i]?=(l[i]?).map fun e=>⟨key e.1,val e.2,n+i⟩
 | [],n,i=>rfl
 | e::r,n,0=>rfl
 | e::r,n,i+1=>by simp only[mesF,List.getElem?_cons_succ,zca r (n+1) i];rw[show n+1+i=n+(i+1) by omega]
theorem ziP {k:α}:∀ {l:List (α × β)} {i:Nat},z1P k l=some i→i<l.length
 | [],i,h=>by cases h
 | e::r,i,h=>by
  unfold z1P at h
  split at h
  ·cases h;simp
  ·obtain⟨j,hj,e2⟩:=Option.map_eq_some_iff.1 h
   have:=ziP hj
   simp;omega
theorem z9P {k:α}:∀ {l:List (α × β)} {i:Nat},z1P k l=some i→l[i]?=(getM k l).map fun v=>(k,v)
 | [],i,h=>by cases h
 | e::r,i,h=>by
  unfold z1P at h
  unfold getM
  split at h
  ·rename_i hk;cases h;simp [hk]
  ·rename_i hk
   obtain⟨j,hj,e2⟩:=Option.map_eq_some_iff.1 h
   subst e2
   rw[if_neg hk,List.getElem?_cons_succ]
   exact z9P hj
theorem zb2 {k:α}:∀ {l:List (α × β)},z1P k l=none→getM k l=none
 | [],h=>rfl
 | e::r,h=>by
  unfold z1P at h
  unfold getM
  split at h
  ·cases h
  ·rename_i hk
   rw[if_neg hk]
   exact zb2 (by simpa using h)
theorem zb3 {k:α}:∀ {l:List (α × β)} {i:Nat},z1P k l=some i→(getM k l).isSome=true
 | [],i,h=>by cases h
 | e::r,i,h=>by
  unfold z1P at h
  unfold getM
  split at h
  ·rename_i hk;simp [hk]
  ·rename_i hk
   obtain⟨j,hj,e2⟩:=Option.map_eq_some_iff.1 h
   rw[if_neg hk]
   exact zb3 hj
theorem zvs {k:α} {l:List (α × β)} {n:Nat}:((z1P k l).bind fun i=>(mesF key val n l)[i]?).map ME.val=(getM k l).map val:=by
 cases h:z1P k l with
 | none=>rw[zb2 h];rfl
 | some i=>
  simp only[Option.bind_some,zca,z9P h]
  cases getM k l <;> rfl
theorem ziH {k:α} {v:β}:∀ {l:List (α × β)},z1P k l=none→updM k v l=l++[(k,v)]
 | [],h=>rfl
 | e::r,h=>by
  unfold z1P at h
  unfold updM
  split at h
  ·cases h
  ·rename_i hk
   rw[if_neg hk,ziH (by simpa using h)];rfl
theorem ziI {k:α} {v:β}:∀ {l:List (α × β)} {i:Nat},z1P k l=some i→updM k v l=l.set i (k,v)
 | [],i,h=>by cases h
 | e::r,i,h=>by
  unfold z1P at h
  unfold updM
  split at h
  ·rename_i hk;cases h;simp [hk]
  ·rename_i hk
   obtain⟨j,hj,e2⟩:=Option.map_eq_some_iff.1 h
   subst e2
   rw[if_neg hk,ziI hj];rfl
theorem zhZ (k:α) (v:β):∀ (l:List (α × β)) (n:Nat),mesF key val n (l++[(k,v)])=mesF key val n l++[⟨key k,val v,n+l.length⟩]
 | [],n=>rfl
 | e::r,n=>by simp only[List.cons_append,mesF,zhZ k v r (n+1),List.length_cons];rw[show n+1+r.length=n+(r.length+1) by omega]
theorem zjN {k:α} {v:β} {l:List (α × β)} {i n:Nat} (h:z1P k l=some i):(mesF key val n l).modify i (fun e=>{ e with val:=val v })=mesF key val n (l.set i (k,v)):=by
 apply List.ext_getElem?
 intro j
 rw[List.getElem?_modify,zca,zca,List.getElem?_set]
 have hi:=ziP h
 have hg:=z9P h
 by_cases hij:i=j
 ·subst hij
  rw[hg]
  simp only[if_true,hi]
  obtain⟨w,hw⟩:=Option.isSome_iff_exists.1 (zb3 h)
  rw[hw];rfl
 ·simp [hij]
variable {h:Heap} {id:Nat} {l:List (α × β)} {kk:Sh × List Nat} {k:α}
theorem zia (hh:h[id]?=some (mobj key val l)):mget h (.mp id)=some (id,mesF key val 0 l,l.length):=by
 simp only[mget,hh,mobj]
theorem zhX (hk:KeyI key) (hh:h[id]?=some (mobj key val l)) (hq:z5k kk (.p (key k))=some (key k)) {ok:Bool} {z:AV} :
 z7F kk ok z (.mp id) (.p (key k)) h=some (bif ok then .tup [((getM k l).map val).getD z,AV.p (.bool (getM k l).isSome)] else ((getM k l).map val).getD z):=by
 simp only[z7F,hq,zia hh,Option.map_some,z9b hk,zvs,Option.isSome_map]
 rfl
theorem zvv (hk:KeyI key) (hh:h[id]?=some (mobj key val l)) (hq:z5k kk (.p (key k))=some (key k)) {v:β} (hv:okIn (val v)=true) :
 zcf kk (.mp id) (.p (key k)) (val v) h=some (.und,h.set id (mobj key val (updM k v l)),z3c id (val v)):=by
 simp only[zcf,hq,zia hh,hv,z9b hk]
 cases hw:z1P k l with
 | none=>
  simp only[mobj,ziH hw,zhZ,List.length_append,List.length_cons,List.length_nil,Nat.zero_add]
 | some i=>
  simp only[mobj,ziI hw,zjN hw,List.length_set]
end
end Go.Am
end
section
/- Lists of strings sorted,left out: printed by program. -/
open Go
set_option linter.unusedSimpArgs false
namespace Go.Am
attribute [-go_sem] PV.cells splice
variable {h:Heap} {K:Post}
end Go.Am
end
section
/- Finding values in lists: printed by program. -/
open Go
set_option linter.unusedSimpArgs false
namespace Go.Am
attribute [-go_sem] PV.cells
variable {h:Heap} {K:Post}
end Go.Am
end
section
/- Limits: what they are,what is wrong with them. -/
open Go
namespace Go.Am
variable {h:Heap} {K:Post}
structure Lim where
 key:List UInt8
 lo:Int
 hi:Int
 bin:Int
def inB (a n b:Int):Bool:=decide (a≤n)&&decide (n≤b)
end Go.Am
end
section
/- What is wrong with limits,both ways: printed by program. -/
open Go
set_option linter.unusedSimpArgs false
namespace Go.Am
variable {h:Heap} {K:Post}
end Go.Am
end
section
/- Package lot on measured values,and what the reference says of them. -/
open Go
namespace Go.Am
variable {h:Heap} {K:Post}
end Go.Am
end
section
/- Records: what they are,what is wrong with them. -/
open Go
set_option linter.unusedSimpArgs false
namespace Go.Am
variable {h:Heap} {K:Post}
theorem zsX {b:Nat} {P:Post} {vs:List AV} {h:Heap}:retK true b P (some vs) h []=P (z1b vs) (h.take (max b (z1b vs).top)) []:=by
 simp [retK,z2t,z1p]
attribute [go_sem] zsX
structure Rec where
 unit:List UInt8
 time:Int
 site:List UInt8
 res:List Int
def good (x:Lim) (n:Int):Bool:=inB x.lo n x.hi
def zzC (l:List Lim) (res:List Int):List Bool:=List.zipWith good l res
def zz7 (l:List Lim) (res:List Int):Int:=if (zzC l res).findIdx (fun b=>!b)<(zzC l res).length then ((zzC l res).findIdx (fun b=>!b):Int) else -1
end Go.Am
end
section
/- What is drawn: numbers,measured values. -/
open Go
namespace Go.Am
variable {L:List Int} {a:Int}
theorem g_Odd (hp:posN 14 a) (u v:Int) (huv:u≤v) (hu : -1000000000000≤u) (hv:v≤1000000000000):∃ k a2:Int,a≤a2∧a2≤a+2 ∧ -1099511627776≤k∧k≤1099511627776 ∧
 Gen z73 [AI u,AI v] L a a2 (AI k):=by
 have w1:IntKind.i64.wrap (u-1)=u-1:=z0j _ (by omega) (by omega)
 have w2:IntKind.i64.wrap (v+1)=v+1:=z0j _ (by omega) (by omega)
 by_cases hf:z1K L a 12=0
 ·have hm:=z94 (L:=L) (a:=a+1) (l:=[u-1,v+1,u,v,-1099511627776,1099511627776]) (by simp) (by simp)
  simp only[List.mem_cons,List.not_mem_nil,or_false] at hm
  refine⟨z4i [u-1,v+1,u,v,-1099511627776,1099511627776] L (a+1),a+1+1,by omega,by omega,by omega,by omega,Gen.of fun h id hid=>?_⟩
  rw[zxm rfl]
  simp only[zhj,go_sem,hid,zil hp,hf,w1,w2]
 ·have hm:=z96 L (a+1) huv (by omega)
  refine⟨z2Y u v L (a+1),a+1+1,by omega,by omega,by omega,by omega,Gen.of fun h id hid=>?_⟩
  rw[zxm rfl]
  simp only[zhj,go_sem,hid,zil hp,hf,w1,w2,huv,show -1152921504606846976≤u by omega,show v≤1152921504606846976 by omega]
end Go.Am
end
section
/- Strings that are drawn. -/
open Go
set_option linter.unusedSimpArgs false
namespace Go.Am
variable {L:List Int} {a:Int} {h l:Heap} {id:Nat} {K:Post}
def isS:PV→Bool
 | .str _=>true
 | _=>false
def unS:PV→List UInt8
 | .str s=>s
 | _=>[]
def z5m (l:List (List UInt8)) (L:List Int) (a:Int):List UInt8:=l.getD (z1K L a l.length).toNat []
theorem z6F {l:List (List UInt8)} {L:List Int} {a:Int} (hl:0<l.length) (hl2:l.length<4611686018427387904):z5m l L a∈l:=by
 obtain⟨b1,b2⟩:=z5d L a l.length (by omega) (by omega)
 unfold z5m
 have:(z1K L a l.length).toNat<l.length:=by omega
 simp only[List.getD,List.getElem?_eq_getElem this,Option.getD_some]
 exact List.getElem_mem _
theorem y1k {xs:List PV} (h:xs.all isS=true):xs=(xs.map unS).map PV.str:=by
 induction xs with
 | nil=>rfl
 | cons x r ih=>
  simp only[List.all_cons,Bool.and_eq_true] at h
  simp only[List.map_cons]
  rw[← ih h.2]
  cases x <;> first | rfl | cases h.1
theorem zpH (hp:posN 0 a) (xs:List PV) (hx:xs.all isS=true) (hl:0<xs.length) (hl2:xs.length<4611686018427387904) :
 Gen z28 [.p (.sl none xs)] L a (a+1) (AS (z5m (xs.map unS) L a)):=by
 refine Gen.of fun h id hid=>?_
 rw[c_q02w rfl]
 obtain⟨b1,b2⟩:=z5d L a xs.length (by omega) (by omega)
 have e4:=z9d (k:=.i64) b1
 have e5:xs[(z1K L a xs.length).toNat]?=some (.str (z5m (xs.map unS) L a)):=by
  have hm:=y1k hx
  generalize hq:xs.map unS=q at *
  subst hm
  simp only[List.length_map] at *
  rw[z1E PV.str (show (z1K L a q.length).toNat<q.length by omega)]
  simp [z5m,List.getD,show (z1K L a q.length).toNat<q.length by omega]
 simp only[zni,go_sem,z2w hid hp,e4,e5]
theorem zbs (hid:id<h.length) (hp:posN 0 a) {xs:List PV} (hx:xs.all isS=true) (hl:0<xs.length) (hl2:xs.length<4611686018427387904) :
 z0c X z28 [.ref id 0,.p (.sl none xs)] (h.set id (strm L a)) K=K (AS (z5m (xs.map unS) L a)) (h.set id (strm L (a+1))) []:=(zpH hp xs hx hl hl2).set hid
theorem zbr (hid:id<h.length) (hp:posN 0 a) {xs:List PV} (hx:xs.all isS=true) (hl:0<xs.length) (hl2:xs.length<4611686018427387904) :
 z0c X z28 [.ref id 0,.p (.sl none xs)] (h.set id (strm L a)++l) K=K (AS (z5m (xs.map unS) L a)) (h.set id (strm L (a+1))++l) []:=(zpH hp xs hx hl hl2).app hid
theorem zfo (hp:posN 0 a) {xs:List PV} (hx:xs.all isS=true) (hl:0<xs.length) (hl2:xs.length<4611686018427387904) :
 z0c X z28 [.ref 0 0,.p (.sl none xs)] (strm L a::l) K=K (AS (z5m (xs.map unS) L a)) (strm L (a+1)::l) []:=(zpH hp xs hx hl hl2).hd
attribute [go_sem ↓] zbs zbr zfo
attribute [go_sem] zbs zbr zfo isS unS
end Go.Am
end
section
/- What is drawn: strings,limits. -/
open Go
set_option linter.unusedSimpArgs false
namespace Go.Am
variable {L:List Int} {a:Int} {h l:Heap} {id:Nat} {K:Post}
end Go.Am
end
section
/- Records: what is wrong with them,both ways. -/
open Go
set_option linter.unusedSimpArgs false
namespace Go.Am
variable {h:Heap} {K:Post}
end Go.Am
end
section
/- Sorting records: printed by program. -/
open Go
set_option linter.unusedSimpArgs false
namespace Go.Am
attribute [-go_sem] PV.cells splice
variable {h:Heap} {K:Post}
end Go.Am
end
section
/- Leaving out what is alike: printed by program. -/
open Go
set_option linter.unusedSimpArgs false
namespace Go.Am
attribute [-go_sem] PV.cells splice
variable {h:Heap} {K:Post}
end Go.Am
end
section
/- What is drawn: records. -/
open Go
set_option linter.unusedSimpArgs false
namespace Go.Am
variable {L:List Int} {a:Int} {h l:Heap} {id:Nat} {K:Post}
end Go.Am
end
section
/- Merging two ordered lists: by sorting and leaving out what is alike,and by looking each one up. Plain lists. -/
namespace Go.Am
variable {α:Type}
structure Ordr (c:α→α→Int):Prop where
 neg:∀ a b,c b a = - c a b
 trans:∀ a b d,c a b≤0→c b d≤0→c a d≤0
theorem Ordr.refl {c:α→α→Int} (o:Ordr c) (a:α):c a a=0:=by have:=o.neg a a;omega
variable {c:α→α→Int} {q:α→α→Bool} {a b:List α}
end Go.Am
end
section
/- Records alike;copies;bins. -/
open Go
set_option linter.unusedSimpArgs false
namespace Go.Am
variable {h:Heap} {K:Post}
def y0D (a b:Rec):Bool:=decide (a.unit=b.unit)&&(decide (a.time=b.time)&&(decide (a.site=b.site)&&decide (a.res=b.res)))
theorem ztt (a b:Rec):y0D a b=true↔a=b:=by
 cases a;cases b
 simp [y0D]
end Go.Am
end
section
/- Sorting numbers: printed by program. -/
open Go
set_option linter.unusedSimpArgs false
namespace Go.Am
attribute [-go_sem] PV.cells splice
variable {h:Heap} {K:Post}
end Go.Am
end
section
/- Bins,both ways;lists joined;records sorted. -/
open Go
set_option linter.unusedSimpArgs false
namespace Go.Am
variable {h:Heap} {K:Post}
end Go.Am
end
section
/- Lists of records joined,compared,merged. -/
open Go
set_option linter.unusedSimpArgs false
namespace Go.Am
variable {h:Heap} {K:Post}
instance:DecidableEq Rec:=fun a b=>decidable_of_iff (y0D a b=true) (ztt a b)
end Go.Am
end
section
/- Records merged asv the reference does it. -/
open Go
set_option linter.unusedSimpArgs false
namespace Go.Am
variable {h:Heap} {K:Post}
end Go.Am
end
section
/- Retests: which record of a unit counts. Plain lists;both ways yield the same. -/
set_option linter.all false
namespace Go.Am
def badR (l:List Lim) (r:Rec):Bool:=decide (0≤zz7 l r.res)
def rec0:Rec:=⟨[],0,[],[]⟩
def cntL (l:List Lim) (rule:Int) (f:List Rec):Rec:=
 if rule=1 then f.headD rec0 else if f.findIdx (fun x=>!badR l x)<f.length∧rule=3 then f.getD (f.findIdx fun x=>!badR l x) rec0 else f.getLastD rec0
end Go.Am
end
section
/- Lists of strings. -/
open Go
set_option linter.all false
namespace Go.Am
variable {h:Heap} {K:Post}
theorem zjk:X.ex2=libF GRL PRL:=rfl
abbrev AStr (us:List (List UInt8)):AV:=.p (.sl none (us.map PV.str))
theorem zws {us:List (List UInt8)}:shps none (us.map PV.str):=fun x hx=>by obtain⟨n,_,rfl⟩:=List.mem_map.1 hx;rfl
end Go.Am
end
section
/- The abstract machine,part L4: strings.Repeat,strings.Trim,math/bits.TrailingZeros64 asv rows. -/
set_option linter.all false
namespace Go.Am
variable {P:Program} {gl:Nat→Option PV}
open Go.Shelf
theorem z4k {w w':World} (h:Go.RowKit.Below w.heap.size w w'):WExt w w':=⟨h.size,fun b hb=>h.block b hb,by unfold zed;rw[h.os,h.tape,h.output]⟩
theorem zq7 (s:List UInt8):∀ c,Go.Lib.repeatL s c=repL s c
 | 0=>rfl
 | c+1=>by rw[Go.Lib.repeatL,repL,zq7 s c]
theorem repeatRow {ρ:Ren} (L:Go.Proofs.Lays.n105 P ρ) (E:Go.Proofs.Builder.Extra P ρ) (he:∀ us w,(callFunc (ρ.f 105) us).run P w = .ok (.enter (ρ.f 105) us) w):PureRow P gl (ρ.f 105) z7h where
 enter:=he
 run M w vs r us hc hb hG hl hr hs:=by
  unfold z7h at hs
  split at hs
  ·rename_i s c
   split at hs
   ·rename_i hbd
    match us,hl with
    | [u,v],_=>
     have q:=hr 0 _ u rfl rfl
     cases q
     have q2:=hr 1 _ v rfl rfl
     cases q2
     simp only[Option.some.injEq] at hs
     subst hs
     obtain⟨n,rfl⟩:=Int.eq_ofNat_of_zero_le hbd.1
     have hsz:(⟨s.toArray⟩:ByteArray).size=s.length:=by simp [ByteArray.size]
     simp only[Int.toNat_natCast] at hbd ⊢
     refine (Go.Proofs.Any.strings_Repeat L E ⟨s.toArray⟩ n w (by omega) (by rw[hsz];omega)).mono fun e w' h=>?_
     obtain⟨rfl,h⟩:=h
     exact⟨_,rfl,z4k h,by rw[zq7];exact .p _ _ (.str _)⟩
   ·cases hs
  ·cases hs
theorem zvq (s cs:List UInt8):Go.Lib.trimS s cs=zw2 s cs:=rfl
theorem trimRow {ρ:Ren} (L:Go.Proofs.Lays.n160 P ρ) (h116:(P.info? (ρ.t 116)).map (fun i=>(i.zero,i.size))=some (some (.agg (Array.replicate 256 (.bool false))),256)) (he:∀ us w,(callFunc (ρ.f 160) us).run P w = .ok (.enter (ρ.f 160) us) w):PureRow P gl (ρ.f 160) trimS where
 enter:=he
 run M w vs r us hc hb hG hl hr hs:=by
  unfold trimS at hs
  split at hs
  ·rename_i s cs
   split at hs
   ·rename_i hbd
    match us,hl with
    | [u,v],_=>
     have q:=hr 0 _ u rfl rfl
     cases q
     have q2:=hr 1 _ v rfl rfl
     cases q2
     simp only[Option.some.injEq] at hs
     subst hs
     have hsz:∀ l:List UInt8,(⟨l.toArray⟩:ByteArray).size=l.length:=fun l=>by simp [ByteArray.size]
     refine (Go.Proofs.Any.strings_Trim_laid L h116 ⟨s.toArray⟩ ⟨cs.toArray⟩ w (by rw[hsz];omega) (by rw[hsz];omega) (Go.Proofs.ascii_of_all hbd.2.2)).mono fun e w' h=>?_
     obtain⟨rfl,h⟩:=h
     exact⟨_,rfl,z4k h,by rw[← zvq];exact .p _ _ (.str _)⟩
   ·cases hs
  ·cases hs
end Go.Am
end
section
/- The abstract machine,part L5: strings.Count at one byte,strings.Join asv rows. -/
set_option linter.all false
namespace Go.Am
variable {P:Program} {gl:Nat→Option PV}
open Go.Shelf
theorem countRow {ρ:Ren} (L:Go.Proofs.Lays.n138 P ρ) (he:∀ us w,(callFunc (ρ.f 138) us).run P w = .ok (.enter (ρ.f 138) us) w):PureRow P gl (ρ.f 138) zdj where
 enter:=he
 run M w vs r us hc hb hG hl hr hs:=by
  unfold zdj at hs
  split at hs
  ·rename_i s c
   match us,hl with
   | [u,v],_=>
    have q:=hr 0 _ u rfl rfl
    cases q
    have q2:=hr 1 _ v rfl rfl
    cases q2
    simp only[Option.some.injEq] at hs
    subst hs
    refine (Go.Proofs.Any.strings_Count_one L ⟨s.toArray⟩ c w).mono fun e w' h=>?_
    obtain⟨rfl,rfl⟩:=h
    exact⟨_,rfl,WExt.refl _,.p _ _ (.int _ _)⟩
  ·cases hs
end Go.Am
end
section
/- Texts split at a byte. -/
open Go
set_option linter.all false
namespace Go.Am
variable {h:Heap} {K:Post}
theorem ztl (s:List UInt8) (c:UInt8):z0c X z8L [AS s,AS [c]] h K=K (AI (s.count c)) h []:=by
 refine z3P (X:=X) (by kernel_rfl) ?_
 rw[zjk]
 exact z3q (vs:=[.str s,.str [c]]) (by kernel_rfl) (s:=zdj) (by kernel_rfl) rfl rfl
theorem zkb (s:List UInt8) (c:UInt8) (hs:s.length≤1000000):z0c X zax [AS s,AS [c]] h K=K (AI (idxB s c)) h []:=by
 refine rule ?_
 rw[c_q01v rfl]
 have q:=fun h K=>zcw (h:=h) (K:=K) s c
 simp only[zhc,go_sem,↓q,q,List.length_cons,List.length_nil]
 split
 ·rename_i h1;subst h1;simp [idxB]
 ·trivial
theorem zvS (s:List UInt8) (c:UInt8) (hs:s.length≤1000000):z0c X zaG [AS s,AS [c]] h K=K (AI (idxB s c)) h []:=by
 refine rule ?_
 rw[c_q057 rfl]
 have q:=fun h K=>zkb (h:=h) (K:=K) s c hs
 simp only[zns,go_sem,↓q,q]
theorem y0H {α:Type} (a:List α) (x y:α) (b:List α):(a++x::b).set a.length y=a++y::b:=by simp
def z5C (c:UInt8) (s:List UInt8) (k:Nat):List PV:=((z0q c s).take k).map PV.str++List.replicate (s.count c+1-k) (.str [])
theorem zt7 (c:UInt8) (s:List UInt8) (k:Nat) (hk:k≤s.count c+1):(z5C c s k).length=s.count c+1:=by
 unfold z5C
 have:=z1t c s
 simp;omega
theorem zf0 (c:UInt8) (s:List UInt8) (k:Nat) (hk:k<s.count c+1) (p:List UInt8) (hp:(z0q c s)[k]?=some p):(z5C c s k).set k (.str p)=z5C c s (k+1):=by
 have hl:=z1t c s
 have e:((z0q c s).take k).map PV.str=((z0q c s).take k).map PV.str:=rfl
 have el:(((z0q c s).take k).map PV.str).length=k:=by simp;omega
 unfold z5C
 rw[show s.count c+1-k=(s.count c+1-(k+1))+1 by omega,List.replicate_succ]
 conv=>lhs;arg 2;rw[← el]
 rw[y0H,List.take_succ,hp]
 simp
theorem zfz (c:UInt8) (s:List UInt8) (k:Nat) (hk:k<s.count c+1):(z5C c s k)[k]?=some (.str []):=by
 have hl:=z1t c s
 unfold z5C
 rw[List.getElem?_append_right (by simp;omega)]
 rw[List.getElem?_replicate,if_pos (by simp;omega)]
theorem zt6 (c:UInt8) (s:List UInt8):z5C c s (s.count c+1)=(z0q c s).map PV.str:=by
 have hl:=z1t c s
 unfold z5C
 rw[List.take_of_length_le (by omega),Nat.sub_self]
 simp
attribute [-go_sem] z8E
theorem zjZ (s:List UInt8) (c:UInt8) (hs:s.length≤1000000):z0c X zaJ [AS s,AS [c],AI 0,AI (-1)] h K=K (AStr (z0q c s)) h []:=by
 refine rule ?_
 rw[c_q05h rfl]
 have ec:=fun h K=>ztl (h:=h) (K:=K) s c
 have hcl:s.count c≤s.length:=List.count_le_length
 have w1:IntKind.i64.wrap ((s.count c:Int)+1)=((s.count c+1:Nat):Int):=z0j _ (by omega) (by omega)
 simp only[zhw,go_sem,↓ec,ec,w1]
 rw[z8E]
 have w2:IntKind.i64.wrap ((s.length:Int)+1)=((s.length+1:Nat):Int):=z0j _ (by omega) (by omega)
 have w3:min ((s.count c+1:Nat):Int) ((s.length+1:Nat):Int)=((s.count c+1:Nat):Int):=by omega
 have w4:IntKind.i64.wrap (((s.count c+1:Nat):Int)-1)=(s.count c:Int):=by rw[z0j _ (by omega) (by omega)];omega
 have hm:s.count c+1≤z0J:=by unfold z0J;omega
 simp only[z5Q,go_sem,w2,w3,w4,hm]
 have row0:List.replicate (s.count c+1) (PV.str [])=z5C c s 0:=by simp [z5C]
 rw[row0]
 refine z0Y (fun k:Nat=>⟨[(0,AS (z2P c k s)),(1,AS [c]),(2,AI 0),(3,AI (s.count c)),(9,.own h.length (s.count c+1) 0 (s.count c+1)),(10,AI k)],h++[.row none (z5C c s k) 0],[]⟩) (fun k=>k≤s.count c) (fun k=>s.count c-k) 0 rfl (by omega) ?_
 intro k hk
 obtain⟨r1,r2,r3⟩:=zbc c k s hk
 have hrl:=zt7 c s k (by omega)
 have hsl:=z1t c s
 rcases Nat.lt_or_ge k (s.count c) with hlt | hge
 ·obtain⟨a,b,hab,ha⟩:=zxq (c:=c) (s:=z2P c k s) (List.count_pos_iff.1 (by omega))
  have hi:=fun h K=>zvS (h:=h) (K:=K) (z2P c k s) c (by omega)
  have hix:idxB (z2P c k s) c=(a.length:Int):=by rw[hab];exact zzE a b c ha
  rw[hix] at hi
  have hnext:z2P c (k+1) s=b:=by rw[zfg,hab,dropW ha]
  have hrl2:(z2P c k s).length=a.length+(b.length+1):=by rw[hab];simp
  have g1:(z0q c s)[k]?=some a:=by
   have:=congrArg (fun l=>l[0]?) r1
   simp only[List.getElem?_drop,Nat.add_zero] at this
   rw[← this,hab,z1Y ha]
   rfl
  have W1:win (z2P c k s) 0 a.length=a:=by rw[hab];unfold win;simp
  have W2:win (z2P c k s) (a.length+1) ((z2P c k s).length-(a.length+1))=b:=by
   rw[hab];unfold win
   rw[show a++c::b=(a++[c])++b by simp,List.drop_left' (by simp)]
   exact List.take_of_length_le (by simp;omega)
  have hp:¬ (a.length:Int)<0:=by omega
  have wa:IntKind.i64.wrap ((a.length:Int)+0)=(a.length:Int):=by rw[Int.add_zero];exact z0j _ (by omega) (by omega)
  have wb:IntKind.i64.wrap ((a.length:Int)+1)=((a.length+1:Nat):Int):=z0j _ (by omega) (by omega)
  have wk:IntKind.i64.wrap ((k:Int)+1)=((k+1:Nat):Int):=z0j _ (by omega) (by omega)
  have hlt':(k:Int)<(s.count c:Int):=by omega
  have hse:=zf0 c s k (by omega) a g1
  have st:=fun h1=>zt4 (sh:=none) (x:=.str a) (y:=.str []) rfl rfl h.length k 0 (z5C c s k) h1
  have c1:a.length≤(z2P c k s).length:=by omega
  have c2:a.length+1≤(z2P c k s).length:=by omega
  have c3:k<s.count c+1:=by omega
  simp only[go_sem,hlt',hi,↓hi,hp,wa,wb,wk,hrl,W1,W2,zfz c s k c3,st,hse,c1,c2,c3]
  exact⟨k+1,by rw[hnext],by omega,by omega⟩
 ·have hk':k=s.count c:=by omega
  have hlt':¬ (k:Int)<(s.count c:Int):=by omega
  have st:=fun h1=>zt4 (sh:=none) (x:=.str (z2P c k s)) (y:=.str []) rfl rfl h.length k 0 (z5C c s k) h1
  have c3:k<s.count c+1:=by omega
  have wk:IntKind.i64.wrap ((k:Int)+1)=((k+1:Nat):Int):=z0j _ (by omega) (by omega)
  have g1:(z0q c s)[k]?=some (z2P c k s):=by
   have:=congrArg (fun l=>l[0]?) r1
   simp only[List.getElem?_drop,Nat.add_zero] at this
   rw[← this,z12 (List.count_eq_zero.1 (by omega))]
   rfl
  have hse:(z5C c s k).set k (.str (z2P c k s))=(z0q c s).map PV.str:=by
   rw[zf0 c s k c3 _ g1,hk',zt6]
  have c4:k+1=s.count c+1:=by omega
  have hwin:win ((z0q c s).map PV.str) 0 (s.count c+1)=(z0q c s).map PV.str:=by unfold win;rw[List.drop_zero,List.take_of_length_le (by simp;omega)]
  have hml:((z0q c s).map PV.str).length=s.count c+1:=by simp [hsl]
  simp only[go_sem,hlt',hrl,zfz c s k c3,st,hse,c3,wk,hml,c4,hwin]
theorem zto (s:List UInt8) (c:UInt8) (hs:s.length≤1000000):z0c X z77 [AS s,AS [c]] h K=K (AStr (z0q c s)) h []:=by
 refine rule ?_
 rw[c_q05c rfl]
 have q:=fun h K=>zjZ (h:=h) (K:=K) s c hs
 simp only[znu,go_sem,↓q,q]
theorem zcu (s p:List UInt8) (hs:s.length≤1000000) (hp:p.length≤1000000):z0c X zav [AS s,AS p] h K=K (AB (decide (s.take p.length=p))) h []:=by
 refine rule ?_
 rw[c_q01t rfl]
 by_cases h1:p.length≤s.length
 ·have h1':(p.length:Int)≤(s.length:Int):=by omega
  have W:win s 0 p.length=s.take p.length:=by unfold win;simp
  simp only[zha,go_sem,h1',h1,W]
 ·have h1':¬ (p.length:Int)≤(s.length:Int):=by omega
  have e:decide (s.take p.length=p)=false:=by
   simp only[decide_eq_false_iff_not]
   intro e
   have:=congrArg List.length e
   simp at this
   omega
  simp only[zha,go_sem,h1',h1,e]
theorem zfp (s p:List UInt8) (hs:s.length≤1000000) (hp:p.length≤1000000):z0c X zaI [AS s,AS p] h K=K (AS (if s.take p.length=p then s.drop p.length else s)) h []:=by
 refine rule ?_
 rw[c_q05e rfl]
 have key:∀ (h:Heap) (K:Post),z0c X zay [AS s,AS p] h K=K (AS (if s.take p.length=p then s.drop p.length else s)) h []:=by
  intro h K
  refine rule ?_
  rw[c_q01x rfl]
  have q:=fun h K=>zcu (h:=h) (K:=K) s p hs hp
  by_cases e:s.take p.length=p
  ·have hl:p.length≤s.length:=by
    have:=congrArg List.length e
    simp at this
    omega
   have W:win s p.length (s.length-p.length)=s.drop p.length:=by unfold win;rw[List.take_of_length_le (by simp)]
   simp only[zhe,go_sem,↓q,q,e,decide_true,hl,W]
  ·simp only[zhe,go_sem,↓q,q,e,decide_false]
 simp only[znv,go_sem,↓key,key]
end Go.Am
end
section
/- Lines of a text. -/
open Go
set_option linter.all false
namespace Go.Am
variable {h:Heap} {K:Post}
theorem zcv (s p:List UInt8) (hs:s.length≤1000000) (hp:p.length≤1000000):z0c X zaw [AS s,AS p] h K=K (AB (decide (p.length≤s.length∧s.drop (s.length-p.length)=p))) h []:=by
 refine rule ?_
 rw[c_q01u rfl]
 by_cases h1:p.length≤s.length
 ·have h1':(p.length:Int)≤(s.length:Int):=by omega
  have w:IntKind.i64.wrap ((s.length:Int)-(p.length:Int))=((s.length-p.length:Nat):Int):=by rw[z0j _ (by omega) (by omega)];omega
  have W:win s (s.length-p.length) (s.length-(s.length-p.length))=s.drop (s.length-p.length):=by unfold win;rw[List.take_of_length_le (by simp)]
  have h2:s.length-p.length≤s.length:=by omega
  simp only[zhb,go_sem,h1',h1,w,W,h2]
 ·have h1':¬ (p.length:Int)≤(s.length:Int):=by omega
  simp only[zhb,go_sem,h1',h1]
def z3o (s:List UInt8):Bool:=decide (s.getLast?=some 10)
def z3g (s:List UInt8):List UInt8:=if z3o s then s.dropLast else s
theorem zfZ (s:List UInt8):decide (([10]:List UInt8).length≤s.length∧s.drop (s.length-([10]:List UInt8).length)=[10])=z3o s:=by
 unfold z3o
 rw[decide_eq_decide]
 rcases List.eq_nil_or_concat s with rfl | ⟨r,x,rfl⟩
 ·simp
 ·simp
theorem zcr (s:List UInt8) (hs:s.length≤1000000):z0c X zaF [AS s,AS [10]] h K=K (.tup [AS (z3g s),AB (z3o s)]) h []:=by
 refine rule ?_
 rw[c_q055 rfl]
 have key:∀ (h:Heap) (K:Post),z0c X zau [AS s,AS [10]] h K=K (.tup [AS (z3g s),AB (z3o s)]) h []:=by
  intro h K
  refine rule ?_
  rw[c_q01s rfl]
  have q:=fun h K=>zcv (h:=h) (K:=K) s [10] hs (by simp)
  rw[zfZ] at q
  cases e:z3o s with
  | false=>
   have eb:z3g s=s:=by unfold z3g;rw[e];rfl
   rw[e] at q
   simp only[zgZ,go_sem,↓q,q,eb]
  | true=>
   have eb:z3g s=s.dropLast:=by unfold z3g;rw[e];rfl
   rw[e] at q
   have h1:1≤s.length:=by
    cases s with
    | nil=>simp [z3o] at e
    | cons a r=>simp
   have w:IntKind.i64.wrap ((s.length:Int)-1)=((s.length-1:Nat):Int):=by rw[z0j _ (by omega) (by omega)];omega
   have W:win s 0 (s.length-1)=s.dropLast:=by unfold win;rw[List.drop_zero,List.dropLast_eq_take]
   have h2:s.length-1≤s.length:=by omega
   simp only[zgZ,go_sem,↓q,q,eb,List.length_cons,List.length_nil,w,W,h2]
 simp only[znr,go_sem,↓key,key]
def z1r (s:List UInt8):List (List UInt8):=if s=[] then [] else z0q 10 (z3g s)
def ze5 (s:List UInt8):Bool:=decide (s=[])||z3o s
theorem y04 (s:List UInt8) (hs:s.length≤1000000):z0c X zas [AS s] h K=K (.tup [AStr (z1r s),AB (ze5 s)]) h []:=by
 refine rule ?_
 rw[c_q006 rfl]
 by_cases h0:s=[]
 ·subst h0
  simp only[zgY,go_sem]
  rfl
 ·have q:=fun h K=>zcr (h:=h) (K:=K) s hs
  have hb:(z3g s).length≤1000000:=by
   unfold z3g
   split
   ·simp;omega
   ·exact hs
  have q2:=fun h K=>zto (h:=h) (K:=K) (z3g s) 10 hb
  have e1:z1r s=z0q 10 (z3g s):=by unfold z1r;rw[if_neg h0]
  have e2:ze5 s=z3o s:=by unfold ze5;simp [h0]
  simp only[zgY,go_sem,h0,↓q,q,↓q2,q2,e1,e2]
end Go.Am
end
section
/- Numbers read. -/
open Go
set_option linter.all false
namespace Go.Am
variable {h:Heap} {K:Post}
theorem y02 {s:List UInt8} (h1:z1U s≠[]) (h2:(z1U s).length≤17) (h3:(z1U s).all digB=true):z0c X zaC [AS s] h K=K (.tup [AI (numV s),.nili]) h []:=by
 refine z3P (X:=X) (by kernel_rfl) ?_
 rw[zjk]
 exact z3q (vs:=[.str s]) (by kernel_rfl) (s:=zfL) rfl rfl (zuo h1 h2 h3)
theorem z9a {K':Ex→St→Prop} (s d:List UInt8) (hd:d.length≤1000000) (h1:d.all digB=false→K' .ret ⟨[(4,AI 0),(5,AB false)],h,[]⟩)
 (h2:d.all digB=true→K' (.exit 0) ⟨[(0,AS s),(6,AS d),(38,AI d.length),(39,AI d.length),(40,AB false)],h,[]⟩) :
 z1a (z0c X) X.gl z2C K' [(0,AS s),(6,AS d),(38,AI d.length),(39,AI 0)] h []:=by
 refine z0Y (fun k:Nat=>⟨[(0,AS s),(6,AS d),(38,AI d.length),(39,AI k)],h,[]⟩) (fun k=>k≤d.length∧(d.take k).all digB=true) (fun k=>d.length-k) 0 rfl ⟨by omega,by simp⟩ ?_
 rintro k ⟨hk,hp⟩
 rcases Nat.lt_or_ge k d.length with hlt | hge
 ·have hlt':(k:Int)<(d.length:Int):=by omega
  have hg:d[k]?=some d[k]:=List.getElem?_eq_getElem hlt
  have wk:IntKind.i64.wrap ((k:Int)+1)=((k+1:Nat):Int):=z0j _ (by omega) (by omega)
  have hnot:digB d[k]=false→d.all digB=false:=fun e=>by
   rw[← Bool.not_eq_true,List.all_eq_true]
   intro ha
   have:=ha d[k] (List.getElem_mem hlt)
   rw[e] at this
   cases this
  by_cases c1:d[k].toNat<48
  ·have c1':(d[k].toNat:Int)<48:=by omega
   have:=h1 (hnot (by simp [digB];omega))
   simp only[go_sem,hlt',hg,c1',this]
  ·have c1':¬ (d[k].toNat:Int)<48:=by omega
   by_cases c2:57<d[k].toNat
   ·have c2':(57:Int)<(d[k].toNat:Int):=by omega
    have:=h1 (hnot (by simp [digB];omega))
    simp only[go_sem,hlt',hg,c1',c2',this]
   ·have c2':¬ (57:Int)<(d[k].toNat:Int):=by omega
    simp only[go_sem,hlt',hg,c1',c2',wk]
    refine⟨k+1,rfl,⟨by omega,?_⟩,by omega⟩
    rw[List.take_succ,hg,List.all_append,hp]
    simp [digB]
    omega
 ·have hk':k=d.length:=by omega
  have hlt':¬ (k:Int)<(d.length:Int):=by omega
  have:=h2 (by rw[← hp,hk',List.take_length])
  subst hk'
  simp only[go_sem,Nat.lt_irrefl,decide_false,this]
attribute [-go_sem] z5V
theorem ztm (s:List UInt8) (dg:Nat) (hd:dg≤17) (hs:s.length≤1000000):z0c X zat [AS s,AI dg] h K=K (.tup [AI (if numF dg s then numV s else 0),AB (numF dg s)]) h []:=by
 refine rule ?_
 rw[c_q008 rfl]
 have q:=fun h K=>zfp (h:=h) (K:=K) s [45] hs (by simp)
 have eq:(if s.take ([45]:List UInt8).length=[45] then s.drop ([45]:List UInt8).length else s)=z1U s:=rfl
 rw[eq] at q
 obtain⟨d,hdd⟩:∃ d,z1U s=d:=⟨_,rfl⟩
 have hsl:d.length≤s.length:=by rw[← hdd];unfold z1U;split <;> simp
 have nF:numF dg s=(!d.isEmpty&&decide (d.length≤dg) && !(decide (d.head?=some 48)&&(decide (1<d.length)||decide (d.length<s.length)))&&d.all digB):=by unfold numF;rw[hdd]
 rw[hdd] at q
 by_cases h0:d=[]
 ·subst h0
  have e:numF dg s=false:=by rw[nF];rfl
  simp only[z5O,go_sem,↓q,q,e]
 by_cases h1:dg<d.length
 ·have h1':(dg:Int)<(d.length:Int):=by omega
  have e:numF dg s=false:=by
   have a3:decide (d.length≤dg)=false:=by simpa using h1
   rw[nF,a3];simp
  simp only[z5O,go_sem,↓q,q,e,h0,h1']
 have h1':¬ (dg:Int)<(d.length:Int):=by omega
 obtain⟨c,r,rfl⟩:∃ c r,d=c::r:=by cases d with | nil=>exact absurd rfl h0 | cons c r=>exact⟨c,r,rfl⟩
 have h1n:¬ dg<r.length+1:=h1
 have h1i:¬ (dg:Int)<((r.length+1:Nat):Int):=by omega
 have hl6:(c::r).length≤1000000:=by omega
 have fin:∀ (e:numF dg s=(c::r).all digB) (hb:(c::r).all digB=true) (h:Heap) (K:Post),z0c X zaC [AS s] h K=K (.tup [AI (numV s),.nili]) h []:=fun e hb h K=>y02 (by rw[hdd];simp) (by rw[hdd];omega) (by rw[hdd];exact hb)
 by_cases hc:c=48
 ·have hc':(c.toNat:Int)=48:=by subst hc;rfl
  by_cases h3:1<r.length+1
  ·have h3':(1:Int)<((r.length+1:Nat):Int):=by omega
   have e:numF dg s=false:=by
    have a1:decide (1<(c::r).length)=true:=by simpa using h3
    have a4:decide ((c::r).head?=some 48)=true:=by simp [hc]
    rw[nF,a1,a4];simp
   simp only[z5O,go_sem,↓q,q,h0,h1',h1n,h1i,hc',h3',e]
  have h3':¬ (1:Int)<((r.length+1:Nat):Int):=by omega
  by_cases h4:r.length+1<s.length
  ·have h4':((r.length+1:Nat):Int)<(s.length:Int):=by omega
   have e:numF dg s=false:=by
    have a1:decide ((c::r).length<s.length)=true:=by simpa using h4
    have a4:decide ((c::r).head?=some 48)=true:=by simp [hc]
    rw[nF,a1,a4];simp
   simp only[z5O,go_sem,↓q,q,h0,h1',h1n,h1i,hc',h3',h4',e]
  have h4':¬ ((r.length+1:Nat):Int)<(s.length:Int):=by omega
  have e:numF dg s=(c::r).all digB:=by
   rw[nF]
   have a1:decide (1<(c::r).length)=false:=by simpa using h3
   have a2:decide ((c::r).length<s.length)=false:=by simpa using h4
   have a3:decide ((c::r).length≤dg)=true:=by simpa using h1n
   rw[a1,a2,a3]
   simp
  simp only[z5O,go_sem,↓q,q,h0,h1',h1n,h1i,hc',h3',h4']
  refine z9a s (c::r) hl6 (fun hb=>?_) (fun hb=>?_)
  ·rw[hb] at e
   simp only[go_sem,e]
  ·have ea:=fin e hb
   rw[hb] at e
   rw[z3J,z3W,z5V]
   simp only[z5P,go_sem,↓ea,ea,e]
 ·have hc':¬ (c.toNat:Int)=48:=by
   intro q
   apply hc
   apply UInt8.toNat_inj.1
   exact Int.ofNat_inj.1 q
  have e:numF dg s=(c::r).all digB:=by
   rw[nF]
   have a3:decide ((c::r).length≤dg)=true:=by simpa using h1n
   rw[a3]
   simp [hc]
  simp only[z5O,go_sem,↓q,q,h0,h1',h1n,h1i,hc']
  refine z9a s (c::r) hl6 (fun hb=>?_) (fun hb=>?_)
  ·rw[hb] at e
   simp only[go_sem,e]
  ·have ea:=fin e hb
   rw[hb] at e
   rw[z3J,z3W,z5V]
   simp only[z5P,go_sem,↓ea,ea,e]
end Go.Am
end
section
/- Several numbers read. -/
open Go
set_option linter.all false
namespace Go.Am
variable {h:Heap} {K:Post}
end Go.Am
end
section
/- Numbers read,the reference's way. -/
open Go
set_option linter.all false
namespace Go.Am
variable {h:Heap} {K:Post}
theorem y03 (n:Int) (h1 : -1000000000000000000≤n) (h2:n≤1000000000000000000):z0c X zeH [AI n] h K=K (AS (itoa n)) h []:=by
 refine z3P (X:=X) (by kernel_rfl) ?_
 rw[zjk]
 exact z3q (vs:=[.int .i64 n]) (by kernel_rfl) (s:=zjH) (by kernel_rfl) rfl (by
  unfold zjH
  have a1:decide (-9223372036854775808≤n)=true:=by simp;omega
  have a2:decide (n≤9223372036854775807)=true:=by simp;omega
  show (bif decide (-9223372036854775808≤n)&&decide (n≤9223372036854775807) then some (AV.p (PV.str (itoa n))) else none)=_
  rw[a1,a2]
  rfl)
end Go.Am
end
section
/- Tests and faults: what is wrong with them,both ways. -/
open Go
set_option linter.all false
namespace Go.Am
variable {h:Heap} {K:Post}
theorem s_Trim (s cs:List UInt8) (hs:s.length≤1000000) (hc:cs.length≤1000) (ha:cs.all (fun b=>decide (b.toNat<128))=true):z0c X zeI [AS s,AS cs] h K=K (AS (zw2 s cs)) h []:=by
 refine z3P (X:=X) (by kernel_rfl) ?_
 rw[zjk]
 exact z3q (vs:=[.str s,.str cs]) (by kernel_rfl) (s:=trimS) (by kernel_rfl) rfl (by simp only[trimS];rw[if_pos ⟨hs,hc,ha⟩])
theorem zcp (s:List UInt8) (hs:s.length≤1000000):z0c X z26 [AS s] h K=K (AB (z0Q s)) h []:=by
 refine rule ?_
 rw[c_q000 rfl]
 have e:=fun h K=>s_Trim (h:=h) (K:=K) s [48,49] hs (by simp) (by decide)
 have b:decide (zw2 s [48,49]=[])=z0Q s:=ztH s
 simp only[zna,go_sem,e,b]
theorem zcq (s:List UInt8) (hs:s.length≤1000000):z0c X z4c [AS s] h K=K (AB (z0Q s)) h []:=by
 refine rule ?_
 rw[c_q031 rfl]
 have e:=fun h K=>s_only (h:=h) (K:=K) s [48,49] (by omega)
 have b:(s.all fun c=>[48,49].contains c)=z0Q s:=rfl
 simp only[znk,go_sem,e,b]
end Go.Am
end
section
/- Faults: what is wrong with them,both ways. -/
open Go
set_option linter.all false
namespace Go.Am
variable {h:Heap} {K:Post}
theorem IndexI {v:AV} (l:List Int) (hv:Shows none v (l.map eI) h) (x:Int) (hl:l.length≤1000000):z0c X z8J [v,AI x] h K=K (AI (if l.findIdx (fun y=>decide (y=x))<l.length then (l.findIdx (fun y=>decide (y=x)):Int) else -1)) h []:=by
 refine rule ?_
 rw[c_q044]
 have vl:=hv.len
 rw[List.length_map] at vl
 simp only[zhs,go_sem,vl]
 refine z0Y (fun k:Nat=>⟨[(0,v),(1,AI x),(7,AI l.length),(8,AI k)],h,[]⟩) (fun k=>k≤l.length∧∀ y∈l.take k,decide (y=x)=false) (fun k=>l.length-k) 0 rfl (by simp) ?_
 rintro k ⟨hk,hn⟩
 rcases Nat.lt_or_ge k l.length with hlt | hge
 ·obtain⟨a,ha,hb⟩:=hv.get k (by simpa using hlt)
  rw[List.getElem_map] at hb
  have w2:IntKind.i64.wrap ((k:Int)+1)=((k+1:Nat):Int):=z0j _ (by omega) (by omega)
  by_cases hpk:x=l[k]
  ·have hf:l.findIdx (fun y=>decide (y=x))=k:=by
    rw[List.findIdx_eq hlt]
    refine⟨by simp [hpk],fun j hj=>?_⟩
    have:=hn l[j] (by rw[List.mem_take_iff_getElem];exact⟨j,by omega,rfl⟩)
    simpa using this
   simp only[go_sem,hlt,ha,hb,hpk.symm,w2]
   simp only[hf,hlt,if_true]
  ·simp only[go_sem,hlt,ha,hb,hpk,w2]
   refine⟨k+1,rfl,⟨by omega,fun y hy=>?_⟩,by omega⟩
   rw[List.take_succ_eq_append_getElem hlt,List.mem_append,List.mem_singleton] at hy
   rcases hy with hy | hy
   ·exact hn y hy
   ·rw[hy];simp;exact fun e=>hpk e.symm
 ·have e1:k=l.length:=by omega
  subst e1
  simp only[go_sem,Nat.lt_irrefl]
  rw[List.take_length] at hn
  have:¬ l.findIdx (fun y=>decide (y=x))<l.length:=by
   rw[Nat.not_lt,Nat.le_iff_lt_or_eq];right
   exact (List.findIdx_eq_length.2 (fun y hy=>by simp [hn y hy])).symm
  rw[if_neg this]
theorem zkD {v:AV} (l:List Int) (hv:∀ h':Heap,h'=h→Shows none v (l.map eI) h') (x:Int) (hl:l.length≤1000000):z0c X z5t [v,AI x] h K=K (AB (l.contains x)) h []:=by
 refine rule ?_
 rw[c_q03x]
 have e:=fun K=>IndexI (h:=h) (K:=K) l (hv h rfl) x hl
 have hd:decide (0≤(if l.findIdx (fun y=>decide (y=x))<l.length then (l.findIdx (fun y=>decide (y=x)):Int) else -1))=l.contains x:=by
  rw[Bool.eq_iff_iff,decide_eq_true_eq,List.contains_iff_mem]
  constructor
  ·intro hq
   split at hq
   ·rename_i hlt
    have:=List.findIdx_getElem (w:=hlt)
    simp only[decide_eq_true_eq] at this
    exact this ▸ List.getElem_mem hlt
   ·omega
  ·intro hm
   rw[if_pos (List.findIdx_lt_length_of_exists ⟨x,hm,by simp⟩)];omega
 simp only[znn,go_sem,e,hd]
theorem zgn (l:List Int) (x:Int) (hl:l.length≤1000000):z0c X z5t [AL l,AI x] h K=K (AB (l.contains x)) h []:=zkD l (fun h' _=>ziC y0J) x hl
end Go.Am
end
section
/- Where a string stands among strings;words. -/
open Go
set_option linter.all false
namespace Go.Am
variable {h:Heap} {K:Post}
theorem IndexS {v:AV} (l:List (List UInt8)) (hv:Shows none v (l.map PV.str) h) (x:List UInt8) (hl:l.length≤1000000):z0c X z74 [v,AS x] h K=K (AI (if l.findIdx (fun y=>decide (y=x))<l.length then (l.findIdx (fun y=>decide (y=x)):Int) else -1)) h []:=by
 refine rule ?_
 rw[c_q045]
 have vl:=hv.len
 rw[List.length_map] at vl
 simp only[zht,go_sem,vl]
 refine z0Y (fun k:Nat=>⟨[(0,v),(1,AS x),(7,AI l.length),(8,AI k)],h,[]⟩) (fun k=>k≤l.length∧∀ y∈l.take k,decide (y=x)=false) (fun k=>l.length-k) 0 rfl (by simp) ?_
 rintro k ⟨hk,hn⟩
 rcases Nat.lt_or_ge k l.length with hlt | hge
 ·obtain⟨a,ha,hb⟩:=hv.get k (by simpa using hlt)
  rw[List.getElem_map] at hb
  have w2:IntKind.i64.wrap ((k:Int)+1)=((k+1:Nat):Int):=z0j _ (by omega) (by omega)
  by_cases hpk:x=l[k]
  ·have hf:l.findIdx (fun y=>decide (y=x))=k:=by
    rw[List.findIdx_eq hlt]
    refine⟨by simp [hpk],fun j hj=>?_⟩
    have:=hn l[j] (by rw[List.mem_take_iff_getElem];exact⟨j,by omega,rfl⟩)
    simpa using this
   simp only[go_sem,hlt,ha,hb,hpk.symm,w2]
   simp only[hf,hlt,if_true]
  ·simp only[go_sem,hlt,ha,hb,hpk,w2]
   refine⟨k+1,rfl,⟨by omega,fun y hy=>?_⟩,by omega⟩
   rw[List.take_succ_eq_append_getElem hlt,List.mem_append,List.mem_singleton] at hy
   rcases hy with hy | hy
   ·exact hn y hy
   ·rw[hy];simp;exact fun e=>hpk e.symm
 ·have e1:k=l.length:=by omega
  subst e1
  simp only[go_sem,Nat.lt_irrefl]
  rw[List.take_length] at hn
  have:¬ l.findIdx (fun y=>decide (y=x))<l.length:=by
   rw[Nat.not_lt,Nat.le_iff_lt_or_eq];right
   exact (List.findIdx_eq_length.2 (fun y hy=>by simp [hn y hy])).symm
  rw[if_neg this]
theorem zkE {v:AV} (l:List (List UInt8)) (hv:∀ h':Heap,h'=h→Shows none v (l.map PV.str) h') (x:List UInt8) (hl:l.length≤1000000):z0c X z5Z [v,AS x] h K=K (AB (l.contains x)) h []:=by
 refine rule ?_
 rw[c_q03y]
 have e:=fun K=>IndexS (h:=h) (K:=K) l (hv h rfl) x hl
 have hd:decide (0≤(if l.findIdx (fun y=>decide (y=x))<l.length then (l.findIdx (fun y=>decide (y=x)):Int) else -1))=l.contains x:=by
  rw[Bool.eq_iff_iff,decide_eq_true_eq,List.contains_iff_mem]
  constructor
  ·intro hq
   split at hq
   ·rename_i hlt
    have:=List.findIdx_getElem (w:=hlt)
    simp only[decide_eq_true_eq] at this
    exact this ▸ List.getElem_mem hlt
   ·omega
  ·intro hm
   rw[if_pos (List.findIdx_lt_length_of_exists ⟨x,hm,by simp⟩)];omega
 simp only[zno,go_sem,e,hd]
theorem strS (ws:List (List UInt8)) {h:Heap}:Shows none (AStr ws) (ws.map PV.str) h:=ziC zws
theorem z2x {c:UInt8}:∀ {s p:List UInt8},p∈z0q c s→p.length≤s.length
 | [],p,h=>by simp [z0q] at h;subst h;simp
 | b::r,p,h=>by
  rw[z0q.eq_2] at h
  split at h
  ·rcases List.mem_cons.1 h with rfl | h
   ·simp
   ·have:=z2x h;simp;omega
  ·split at h
   ·rename_i hq;exact absurd hq (z4K c r)
   ·rename_i p0 q hq
    rcases List.mem_cons.1 h with rfl | h
    ·have:=z2x (s:=r) (p:=p0) (by rw[hq];simp);simp;omega
    ·have:=z2x (s:=r) (p:=p) (by rw[hq];simp [h]);simp;omega
end Go.Am
end
section
/- Numbers written,joined. -/
open Go
set_option linter.all false
namespace Go.Am
variable {h:Heap} {K:Post}
end Go.Am
end
section
/- A builder of strings. -/
open Go
set_option linter.all false
namespace Go.Am
variable {h:Heap} {K:Post}
theorem zsT {b:Nat}:reif b h .nili=some .nili:=by simp only[reif]
attribute [local go_sem] zsT
def bldB (u:Bool) (id n:Nat):Obj:=.box [bif u then .ref id 0 else .bt 0 bldT id 0,.bt 1 bldE (id+1) n]
theorem zmD (id n:Nat):bldB true id n = .box [.ref id 0,.bt 1 bldE (id+1) n]:=rfl
theorem bldB_f (id n:Nat):bldB false id n = .box [.bt 0 bldT id 0,.bt 1 bldE (id+1) n]:=rfl
theorem set_id {o:Obj} {id:Nat} (hh:h[id]?=some o):h.set id o=h:=by
 apply List.ext_getElem?
 intro j
 by_cases e:id=j
 ·subst e;rw[List.getElem?_set_self (z6f hh),hh]
 ·rw[List.getElem?_set_ne e]
theorem zgq (u:Bool) (id n:Nat) (hh:h[id]?=some (bldB u id n)):z0c X zaD [.ref id 0] h K=K (.tup []) (h.set id (bldB true id n)) []:=by
 refine rule ?_
 rw[c_q04z rfl]
 cases u with
 | true=>
  rw[set_id hh]
  rw[zmD] at hh
  simp only[zhv,go_sem,hh]
 | false=>
  rw[bldB_f] at hh
  rw[zmD]
  simp only[bldT] at hh
  simp only[zhv,go_sem,hh]
theorem zt3 {h:Heap} {i j:Nat} {a b:Obj} (e:i≠j):(h.set i a).set j b=(h.set j b).set i a:=List.set_comm a b e
def zb5 (h:Heap) (u:Bool) (id:Nat) (s:List UInt8):Prop:=h[id]?=some (bldB u id s.length)∧h[id+1]?=some (.row none (z0o s) 0)
def held (h:Heap) (id:Nat) (s:List UInt8):Heap:=(h.set id (bldB true id s.length)).set (id+1) (.row none (z0o s) 0)
theorem z4V (s:List UInt8):(z0o s).length=s.length:=by simp [z0o]
theorem zjt (s t:List UInt8):z0o s++z0o t=z0o (s++t):=by simp [z0o]
theorem z2v {u:Bool} {id:Nat} {s t:List UInt8} (H:zb5 h u id s) (hm:s.length+t.length≤200000000000):z0c X z2r [.ref id 0,AS t] h K=K (.tup [AI t.length,.nili]) (held h id (s++t)) []:=by
 refine rule ?_
 rw[c_q04y rfl]
 have l:=z6f H.1
 have l2:=z6f H.2
 have e:=fun K=>zgq (K:=K) u id s.length H.1
 have g1:(h.set id (bldB true id s.length))[id]?=some (.box [.ref id 0,.bt 1 bldE (id+1) s.length]):=by rw[List.getElem?_set_self l,zmD]
 have g2:(h.set id (bldB true id s.length))[id+1]?=some (.row none (z0o s) 0):=by rw[List.getElem?_set_ne (by omega)];exact H.2
 have g3:∀ o,((h.set id (bldB true id s.length)).set (id+1) o)[id]?=some (.box [.ref id 0,.bt 1 bldE (id+1) s.length]):=fun o=>by rw[List.getElem?_set_ne (by omega)];exact g1
 have hl:s.length+t.length≤z0J:=by unfold z0J;omega
 simp only[bldE] at g1 g3
 simp only[znq,go_sem,e,g1,g2,g3,z4V,hl]
 rw[List.take_of_length_le (by simp)]
 unfold held
 rw[zt3 (i:=id+1) (j:=id) (by omega),List.set_set,zjt,List.length_append]
 rfl
theorem s_BLen {u:Bool} {id:Nat} {s:List UInt8} (H:zb5 h u id s):z0c X z8K [.ref id 0] h K=K (AI s.length) h []:=by
 refine rule ?_
 rw[c_q04w rfl]
 have g1:=H.1
 unfold bldB at g1
 simp only[znp,go_sem,g1]
def z2K (h:Heap) (id:Nat) (s:List UInt8):Heap:=if s=[] then h else h.set (id+1) (.row none (z0o s) (s.length+1))
theorem z5w (s:List UInt8):z3Y (z0o s)=some s:=by
 induction s with
 | nil=>rfl
 | cons a r ih=>
  have h1:(0:Int)≤(a.toNat:Int)∧(a.toNat:Int)<256:=⟨by omega,by have:=a.toNat_lt;omega⟩
  have e:z0o (a::r) = .int .u8 a.toNat::z0o r:=rfl
  rw[e]
  unfold z3Y
  rw[if_pos h1,ih]
  simp
theorem z6N {u:Bool} {id:Nat} {s:List UInt8} (H:zb5 h u id s) (hm:s.length≤200000000000):z0c X z4d [.ref id 0] h K=K (AS s) (z2K h id s) []:=by
 refine rule ?_
 rw[c_q04x rfl]
 have l:=z6f H.1
 have l2:=z6f H.2
 have g1:=H.1
 have g2:=H.2
 unfold bldB at g1
 have hl:s.length≤z0J:=by unfold z0J;omega
 unfold z2K
 by_cases h0:s=[]
 ·subst h0
  simp only[bldE,List.length_nil] at g1
  simp only[zhu,go_sem,g1,g2,z4V,hl]
  exact if_pos rfl ▸ trivial
 ·have h0':¬ s.length=0:=by simpa using h0
  have h1:1≤s.length:=by omega
  simp only[bldE] at g1
  have e0:(0:Int)≤(s.length:Int):=by omega
  simp only[zhu,go_sem,g1,g2,z4V,hl,h0',h1,z5w,e0,Int.toNat_natCast,h0]
def bh (h:Heap) (u:Bool) (s:List UInt8) (l:Heap):Heap:=h++bldB u h.length s.length :: .row none (z0o s) 0::l
theorem zb8 {u:Bool} {s:List UInt8} {l:Heap}:zb5 (bh h u s l) u h.length s:=by
 unfold bh
 exact⟨by simp,by rw[List.getElem?_append_right (by omega)];simp⟩
theorem zyV {u:Bool} {s t:List UInt8} {l:Heap}:held (bh h u s l) h.length t=bh h true t l:=by
 unfold held bh
 rw[List.set_append_right _ _ (by omega),List.set_append_right _ _ (by omega),Nat.sub_self,show h.length+1-h.length=1 by omega]
 rfl
theorem s_WS {u:Bool} {s t:List UInt8} {l:Heap} (hm:s.length+t.length≤200000000000):z0c X z2r [.ref h.length 0,AS t] (bh h u s l) K=K (.tup [AI t.length,.nili]) (bh h true (s++t) l) []:=by
 rw[z2v zb8 hm,zyV]
theorem s_BL {u:Bool} {s:List UInt8} {l:Heap}:z0c X z8K [.ref h.length 0] (bh h u s l) K=K (AI s.length) (bh h u s l) []:=s_BLen zb8
theorem zxi {u:Bool} {s:List UInt8} {l:Heap}:(bh h u s l).length=h.length+(l.length+2):=by
 unfold bh
 simp
theorem bh_app {u:Bool} {s:List UInt8} {l l2:Heap}:bh h u s l++l2=bh h u s (l++l2):=by
 unfold bh
 simp
theorem bh_get {u:Bool} {s:List UInt8} {l:Heap} {n:Nat}:(bh h u s l)[h.length+(n+2)]?=l[n]?:=by
 unfold bh
 rw[List.getElem?_append_right (by omega),show h.length+(n+2)-h.length=n+2 by omega]
 rfl
theorem bh_set {u:Bool} {s:List UInt8} {l:Heap} {n:Nat} {o:Obj}:(bh h u s l).set (h.length+(n+2)) o=bh h u s (l.set n o):=by
 unfold bh
 rw[List.set_append_right _ _ (by omega),show h.length+(n+2)-h.length=n+2 by omega]
 rfl
theorem zmC {u:Bool} {s:List UInt8} {l:Heap} {n:Nat}:(bh h u s l).take (h.length+(n+2))=bh h u s (l.take n):=by
 unfold bh
 rw[List.take_length_add_append]
 rfl
end Go.Am
end
section
/- Numbers asv sets of bits;rows of a test asv numbers. -/
set_option linter.all false
namespace Go.Am
theorem zjr {s:List UInt8} (k:Nat) (h:z0Q s=true):z0Q (s.take k)=true:=by
 unfold z0Q at *
 rw[List.all_eq_true] at *
 exact fun x hx=>h x (List.mem_of_mem_take hx)
theorem bit_at {s:List UInt8} {k:Nat} (hk:k<s.length) (h:z0Q s=true):s[k]=48∨s[k]=49:=by
 unfold z0Q at h
 have:=List.all_eq_true.1 h _ (List.getElem_mem hk)
 unfold zzJ at this
 simpa [List.contains_cons] using this
end Go.Am
end
section
/- Lists of faults: what is wrong with them,both ways. -/
open Go
set_option linter.all false
namespace Go.Am
variable {h:Heap} {K:Post}
end Go.Am
end
section
/- Rows of a test asv numbers. -/
open Go
set_option linter.all false
namespace Go.Am
variable {h:Heap} {K:Post}
end Go.Am
end
section
/- Faults on rows: what the program makes of them. -/
open Go
set_option linter.all false
namespace Go.Am
variable {h:Heap} {K:Post}
end Go.Am
end
section
/- Rows that are handed tov a function: it sees their values. -/
open Go
namespace Go.Am
theorem zyQ {X:Ctx} {f:Nat} {F:AFun} {a:List AV} {vs:List PV} {h h1:Heap} {P:Post} (hf:X.fn f=some F) (hr:F.byref=false) (hp:z0p h a=some (vs.map .p,h1)) (hq:z0p h1 (vs.map .p)=some (vs.map .p,h1)) (hl:vs.length=F.nparams) (hlen:h1.length=h.length):z0c X f a h P=z0c X f (vs.map .p) h1 P:=by
 cases hd:F.isDet with
 | false=>rw[z0h hf hr hp (by simpa using hl) hd,z0h hf hr hq (by simpa using hl) hd,hlen]
 | true=>rw[z2R hf hr hp (by simpa using hl) hd,z2R hf hr hq (by simpa using hl) hd,hlen]
theorem zzA {h:Heap} {id k:Nat}:(frz h id k).length=h.length:=by
 unfold frz
 split <;> simp
end Go.Am
end
section
/- Responses,asv the program computes them. -/
open Go
set_option linter.all false
namespace Go.Am
variable {h:Heap} {K:Post}
end Go.Am
end
section
/- Faults written. -/
open Go
set_option linter.all false
namespace Go.Am
variable {h:Heap} {K:Post}
theorem y00 {b:Nat} {P:Post} {s:List UInt8} {n:Int} {g:Heap} (k:P (.tup [AS s,AI n]) (g.take b) []):retK false b P (some [AS s,AI n]) g [(b,b+2)]:=by
 have e1:∀ m,reif m g (.tup [AS s,AI n])=some (.tup [AS s,AI n]):=fun m=>by simp [reif,z7g]
 have e2:AV.top (.tup [AS s,AI n])=0:=by simp [AV.top,AV.tops]
 have e3:z2t 1 [(b,b+2)] b=b:=by simp [z2t,bump]
 have e4:z1p [(b,b+2)] b=true:=by simp [z1p]
 simp only[retK,z1b,e1,e2,Nat.max_zero,List.length_cons,List.length_nil,Nat.zero_add,e3,e4,if_true]
 refine⟨Nat.zero_le _,?_⟩
 simpa using k
end Go.Am
end
section
/- The shortest way between two states of a test access port: a search over a queue. -/
open Go
set_option linter.all false
namespace Go.Am
variable {h:Heap} {K:Post}
attribute [-go_sem] z7F zcf zcd zce
def nxtT:List (List Nat):=[[1,0],[1,2],[3,9],[4,5],[4,5],[6,8],[6,7],[4,8],[1,2],[10,0],[11,12],[11,12],[13,15],[13,14],[11,15],[1,2]]
def nxt (s t:Nat):Nat:=(nxtT.getD s []).getD t 0
theorem y0l {s t:Nat} (hs:s<16) (ht:t<2):([AI 1,AI 0,AI 1,AI 2,AI 3,AI 9,AI 4,AI 5,AI 4,AI 5,AI 6,AI 8,AI 6,AI 7,AI 4,AI 8,AI 1,AI 2,AI 10,AI 0,AI 11,AI 12,AI 11,AI 12,AI 13,AI 15,AI 13,AI 14,AI 11,AI 15,AI 1,AI 2]:List AV)[s*2+t*1]?=some (AI (nxt s t)):=by
 have hs':s=0∨s=1∨s=2∨s=3∨s=4∨s=5∨s=6∨s=7∨s=8∨s=9∨s=10∨s=11∨s=12∨s=13∨s=14∨s=15:=by omega
 have ht':t=0∨t=1:=by omega
 rcases hs' with rfl | rfl | rfl | rfl | rfl | rfl | rfl | rfl | rfl | rfl | rfl | rfl | rfl | rfl | rfl | rfl <;> rcases ht' with rfl | rfl <;> rfl
theorem zpI {Y:Ctx} (hY:Y.fn z5u=some z7Y) (s t:Nat) (hs:s<16) (ht:t<2):z0c Y z5u [AI s,AI t] h K=K (AI (nxt s t)) h []:=by
 refine rule ?_
 rw[z0h hY rfl (show z0p h [AI s,AI t]=some ([AI s,AI t],h) from rfl) rfl,zxv]
 show zhx _ _ _ _ _ _ (finR [.t 4] false _ _)
 have g:=y0l hs ht
 simp only[zhx,go_sem,hs,ht,g]
abbrev Ways:=List (Int × List UInt8)
def keyP (n:Int):PV:=.int .i64 n
def valP (s:List UInt8):AV:=.p (.str s)
def bit1 (t:Nat):List UInt8:=[UInt8.ofNat (48+t)]
def zf6 (at_ t:Nat) (s:Ways × List Nat):Ways × List Nat:=
 if (getM (nxt at_ t:Int) s.1).isSome then s else (updM (nxt at_ t:Int) ((getM (at_:Int) s.1).getD []++bit1 t) s.1,s.2++[nxt at_ t])
def z6Q (at_:Nat):Nat→Ways × List Nat→Ways × List Nat
 | 0,s=>s
 | t+1,s=>zf6 at_ t (z6Q at_ t s)
def popS (s:Ways × List Nat):Ways × List Nat:=match s.2 with
 | []=>s
 | a::r=>z6Q a 2 (s.1,r)
def bfs (a:Nat):Nat→Ways × List Nat
 | 0=>([((a:Int),[])],[a])
 | k+1=>popS (bfs a k)
def z0f (a b:Nat):List UInt8:=(getM (b:Int) (bfs a 16).1).getD []
def zj8 (s:Ways × List Nat):Bool:=decide (s.1.length≤16)&&decide (s.2.length≤16)&&s.2.all (fun x=>decide (x<16))&&s.1.all (fun e=>decide (e.2.length≤16))
theorem zmB:(List.range 16).all (fun a=>(List.range 16).all (fun k=>zj8 (bfs a k) && !(bfs a k).2.isEmpty)&&zj8 (bfs a 16)&&(bfs a 16).2.isEmpty)=true:=by kernel_rfl
theorem zus {a k:Nat} (ha:a<16) (hk:k<16):zj8 (bfs a k)=true∧(bfs a k).2≠[]:=by
 have h1:=List.all_eq_true.1 zmB a (List.mem_range.2 ha)
 simp only[Bool.and_eq_true] at h1
 have h2:=List.all_eq_true.1 h1.1.1 k (List.mem_range.2 hk)
 simp only[Bool.and_eq_true,Bool.not_eq_true',List.isEmpty_eq_false_iff] at h2
 exact h2
theorem zyU {a:Nat} (ha:a<16):zj8 (bfs a 16)=true∧(bfs a 16).2=[]:=by
 have h1:=List.all_eq_true.1 zmB a (List.mem_range.2 ha)
 simp only[Bool.and_eq_true,List.isEmpty_iff] at h1
 exact⟨h1.1.2,h1.2⟩
theorem zuY {s:Ways × List Nat} (hf:zj8 s=true):s.1.length≤16∧s.2.length≤16∧(∀ x∈s.2,x<16)∧∀ e∈s.1,e.2.length≤16:=by
 unfold zj8 at hf
 simp only[Bool.and_eq_true,decide_eq_true_eq,List.all_eq_true] at hf
 exact⟨hf.1.1.1,hf.1.1.2,hf.1.2,hf.2⟩
theorem lookP {hp:Heap} {id:Nat} {m:Ways} {b:Int} (hh:hp[id]?=some (mobj keyP valP m)):z7F (none,[0]) false (.p (.str [])) (.mp id) (AI b) hp=some (.p (.str ((getM b m).getD []))):=by
 have:=zhX (key:=keyP) (val:=valP) (fun a b=>zbW a b) hh (kk:=(none,[0])) (k:=b) z8Y (ok:=false) (z:=.p (.str []))
 rw[cond_false] at this
 refine this.trans ?_
 cases getM b m <;> rfl
theorem lookQ {hp:Heap} {id:Nat} {m:Ways} {b:Int} (hh:hp[id]?=some (mobj keyP valP m)):z7F (none,[0]) true (.p (.str [])) (.mp id) (AI b) hp=some (.tup [.p (.str ((getM b m).getD [])),AB (getM b m).isSome]):=by
 have:=zhX (key:=keyP) (val:=valP) (fun a b=>zbW a b) hh (kk:=(none,[0])) (k:=b) z8Y (ok:=true) (z:=.p (.str []))
 rw[cond_true] at this
 refine this.trans ?_
 cases getM b m <;> rfl
theorem updP {hp:Heap} {id:Nat} {m:Ways} {b:Int} {v:List UInt8} (hh:hp[id]?=some (mobj keyP valP m)):zcf (none,[0]) (.mp id) (AI b) (.p (.str v)) hp=some (.und,hp.set id (mobj keyP valP (updM b v m)),[]):=
 zvv (key:=keyP) (val:=valP) (fun a b=>zbW a b) hh (kk:=(none,[0])) (k:=b) z8Y (v:=v) rfl
structure Que (R:Heap) (i:Nat) (xs:List Nat) (off:Nat) (q:List Nat):Prop where
 get:R[i]?=some (.row none (xs.map fun n:Nat=>eI n) 0)
 le:off≤xs.length
 eq:xs.drop off=q
theorem nq_one {hp:Heap} {id:Nat} {xs:List Nat} {off:Nat} {n:Int} {k:AV→Heap→Esc→Prop} (hh:hp[id]?=some (.row none (xs.map fun n:Nat=>eI n) 0)) (ho:off≤xs.length) (hm:xs.length≤1000000)
 (k1:k (.own id (xs.length+1) off (xs.length-off+1)) (hp.set id (.row none (xs.map (fun n:Nat=>eI n)++[eI n]) 0)) [])
 (k2:k (.own hp.length (xs.length-off+1) 0 (xs.length-off+1)) (hp++[.row none ((xs.drop off).map (fun n:Nat=>eI n)++[eI n]) 0]) []) :
 nqK (some none) [.own id xs.length off (xs.length-off),.p (.sl none [eI n])] hp k:=by
 have hx:xs.length-off+1≤z0J:=by unfold z0J;omega
 have hr:rds hp (.p (.sl none [eI n]))=some (none,[eI n]):=rfl
 have hw:win (xs.map fun n:Nat=>eI n) off (xs.length-off)=(xs.drop off).map fun n:Nat=>eI n:=by
  unfold win
  rw[← List.map_drop]
  exact List.take_of_length_le (by simp)
 unfold nqK z52 appq
 simp only[hr,if_true,hh,List.length_map,List.length_cons,List.length_nil,Nat.zero_add]
 rw[if_pos ⟨trivial,trivial,by omega,hx,Nat.zero_le _⟩,hw]
 refine⟨by simp,fun y hy=>?_⟩
 simp only[List.mem_cons,List.not_mem_nil,or_false] at hy
 rcases hy with rfl | rfl
 ·exact k1
 ·exact k2
theorem zhY {α β:Type} [DecidableEq α] {k:α} {v:β}:∀ {l:List (α × β)} {e:α × β},e∈updM k v l→e∈l∨e=(k,v)
 | [],e,h=>by simp [updM] at h;exact .inr h
 | x::r,e,h=>by
  unfold updM at h
  split at h
  ·rcases List.mem_cons.1 h with h | h
   ·exact .inr h
   ·exact .inl (List.mem_cons_of_mem _ h)
  ·rcases List.mem_cons.1 h with h | h
   ·exact .inl (h ▸ List.mem_cons_self)
   ·rcases zhY h with h | h
    ·exact .inl (List.mem_cons_of_mem _ h)
    ·exact .inr h
theorem zhM {α β:Type} [DecidableEq α] {k:α} {v:β}:∀ {l:List (α × β)},getM k l=some v→(k,v)∈l
 | [],h=>by cases h
 | x::r,h=>by
  unfold getM at h
  split at h
  ·rename_i he;cases h;subst he;simp
  ·exact List.mem_cons_of_mem _ (zhM h)
theorem ziO {n:Nat} {w:Ways} (hw:∀ e∈w,e.2.length≤n) (k:Int):((getM k w).getD []).length≤n:=by
 cases hg:getM k w with
 | none=>simp
 | some v=>exact hw _ (zhM hg)
theorem ztN {n at_ t:Nat} {s:Ways × List Nat} (hw:∀ e∈s.1,e.2.length≤n):∀ e∈(zf6 at_ t s).1,e.2.length≤n+1:=by
 unfold zf6
 split
 ·intro e he;have:=hw e he;omega
 ·intro e he
  rcases zhY he with h | h
  ·have:=hw e h;omega
  ·subst h
   have:=ziO hw (at_:Int)
   simp [bit1];omega
theorem zbz {n at_:Nat} {s:Ways × List Nat} (hw:∀ e∈s.1,e.2.length≤n):∀ (t:Nat),∀ e∈(z6Q at_ t s).1,e.2.length≤n+t
 | 0=>hw
 | t+1=>ztN (zbz hw t)
set_option maxHeartbeats 1000000 in
theorem zyy {Y:Ctx} (hY1:Y.fn z4t=some zac) (hY2:Y.fn z5u=some z7Y) (a b:Nat) (ha:a<16) (hb:b<16):z0c Y z4t [AI a,AI b] h K=K (.p (.str (z0f a b))) h []:=by
 refine rule ?_
 rw[z2R hY1 rfl (show z0p h [AI a,AI b]=some ([AI a,AI b],h) from rfl) rfl]
 simp only[zxw]
 show ∃ v h' x,_∧zdY _ _ _ _ _ _ _ _ (finR [.t 4] false _ _)
 simp only[zdY]
 refine⟨_,_,_,⟨rfl,rfl,rfl⟩,?_⟩
 have em:mobj keyP valP [((a:Int),([]:List UInt8))] = .amap [⟨.int .i64 a,.p (.str []),0⟩] 1:=rfl
 have u0:=fun (hp:Heap) (hh:hp[h.length]?=some (mobj keyP valP []))=>updP (b:=(a:Int)) (v:=[]) hh
 have e0:updM (a:Int) [] ([]:Ways)=[((a:Int),[])]:=rfl
 have em0:mobj keyP valP ([]:Ways) = .amap [] 0:=rfl
 rw[e0] at u0
 simp only[em0] at u0
 simp only[go_sem,u0]
 refine z0Y (fun t:Nat × Heap × Nat × List Nat × Nat × Option Nat=>⟨[(1,AI b),(5,.mp h.length),(6,.own (h.length+(t.2.2.1+1)) t.2.2.2.1.length t.2.2.2.2.1 (t.2.2.2.1.length-t.2.2.2.2.1))]++(match t.2.2.2.2.2 with | none=>[] | some q=>[(7,AI q),(25,AI 2),(26,AB false)]),h++mobj keyP valP (bfs a t.1).1::t.2.1,[]⟩)
  (fun t=>t.1≤16∧Que t.2.1 t.2.2.1 t.2.2.2.1 t.2.2.2.2.1 (bfs a t.1).2∧t.2.2.2.1.length≤1+2*t.1) (fun t=>16-t.1) (0,[.row none [eI a] 0],0,[a],0,none) (by simp [bfs]) ⟨by simp,⟨rfl,by simp,rfl⟩,by simp⟩ ?_
 rintro⟨k,R,i,xs,off,oq⟩ ⟨h1,hq,h2⟩
 dsimp only at h1 hq h2 ⊢
 have hqg:=hq.get
 have hle:=hq.le
 have heq:=hq.eq
 have hln:xs.length-off=(bfs a k).2.length:=by rw[← heq];simp
 by_cases hk:k<16
 ·obtain⟨hf,hne⟩:=zus ha hk
  obtain⟨f1,f2,f3,f4⟩:=zuY hf
  have hpos:0<xs.length-off:=by rw[hln];exact List.length_pos_iff.2 hne
  have hoff:off<xs.length:=by omega
  obtain⟨q0,qr,hqe⟩:∃ q0 qr,(bfs a k).2=q0::qr:=by
   cases hb2:(bfs a k).2 with
   | nil=>exact absurd hb2 hne
   | cons x y=>exact⟨x,y,rfl⟩
  have hx0:xs[off]?=some q0:=by
   have:(xs.drop off)[0]?=some q0:=by rw[heq,hqe];rfl
   rwa [List.getElem?_drop,Nat.add_zero] at this
  have hdr:xs.drop (off+1)=qr:=by
   rw[← List.drop_drop,heq,hqe];rfl
  have hq0:q0<16:=f3 q0 (by rw[hqe];simp)
  have hgq:(xs.map fun n:Nat=>eI n)[off]?=some (eI q0):=by rw[List.getElem?_map,hx0];rfl
  have hpi:(0:Int)<((xs.length-off:Nat):Int):=by omega
  have hl1:1≤xs.length-off:=by omega
  have hbn:bfs a (k+1)=z6Q q0 2 ((bfs a k).1,qr):=by show popS _=_;unfold popS;rw[hqe]
  have e3:xs.length-off-1=xs.length-(off+1):=by omega
  have hcond:off+(xs.length-off)≤xs.length:=by omega
  have hNL:∀ (e:List (Nat × AV)),z0E (some [1,5,6,7,25]) e=z0E (some [1,5,6,7,25]) e:=fun _=>rfl
  rcases oq with _ | oq
  all_goals
  simp only[List.append_nil,List.cons_append,List.nil_append,go_sem,List.getElem?_cons_succ,hqg,hpi,hpos,hgq,hl1,hcond]
  all_goals
  clear u0 em em0 e0
  generalize hw0:((bfs a k).1,qr)=s0 at *
  have es1:(bfs a k).1=s0.1:=by rw[← hw0]
  have es2:qr=s0.2:=by rw[← hw0]
  rw[es1,e3]
  refine z0Y (fun t:Nat × Heap × Nat × List Nat × Nat=>⟨[(1,AI b),(5,.mp h.length),(6,.own (h.length+(t.2.2.1+1)) t.2.2.2.1.length t.2.2.2.2 (t.2.2.2.1.length-t.2.2.2.2)),(7,AI q0),(25,AI t.1)],h++mobj keyP valP (z6Q q0 t.1 s0).1::t.2.1,[]⟩)
   (fun t=>t.1≤2∧Que t.2.1 t.2.2.1 t.2.2.2.1 t.2.2.2.2 (z6Q q0 t.1 s0).2∧t.2.2.2.1.length≤1+2*k+t.1) (fun t=>2-t.1) (0,R,i,xs,off+1) rfl ⟨by simp,⟨hqg,hoff,by rw[hdr,es2];rfl⟩,by simp;omega⟩ ?_
  rintro⟨j,R',i',ys,of'⟩ ⟨j1,jq,j2⟩
  dsimp only at j1 jq j2 ⊢
  have jg:=jq.get
  have jle:=jq.le
  have jeq:=jq.eq
  by_cases hj:j<2
  ·have hji:(j:Int)<2:=by omega
   have qn:=fun h K=>zpI (h:=h) (K:=K) hY2 q0 j hq0 hj
   have hvis:z6Q q0 (j+1) s0=zf6 q0 j (z6Q q0 j s0):=rfl
   generalize hsj:z6Q q0 j s0=s at *
   have lq:=fun (hp:Heap) (hh:hp[h.length]?=some (mobj keyP valP s.1))=>lookQ (b:=(nxt q0 j:Int)) hh
   have lp:=fun (hp:Heap) (hh:hp[h.length]?=some (mobj keyP valP s.1))=>lookP (b:=(q0:Int)) hh
   have up:=fun (hp:Heap) (v:List UInt8) (hh:hp[h.length]?=some (mobj keyP valP s.1))=>updP (b:=(nxt q0 j:Int)) (v:=v) hh
   have w1:IntKind.i64.wrap ((j:Int)+1)=((j+1:Nat):Int):=z0j _ (by omega) (by omega)
   cases hs:(getM (nxt q0 j:Int) s.1).isSome with
   | true=>
    have hv:zf6 q0 j s=s:=by unfold zf6;rw[if_pos hs]
    rw[hv] at hvis
    simp only[go_sem,hji,↓qn,qn,lq,hs,w1]
    exact⟨(j+1,R',i',ys,of'),by dsimp only;rw[hvis],⟨by dsimp only;omega,by dsimp only;rw[hvis];exact jq,by dsimp only;omega⟩,by dsimp only;omega⟩
   | false=>
    have hv:zf6 q0 j s=(updM (nxt q0 j:Int) ((getM (q0:Int) s.1).getD []++bit1 j) s.1,s.2++[nxt q0 j]):=by unfold zf6;rw[hs];rfl
    rw[hv] at hvis
    have w2:IntKind.i64.wrap (48+(j:Int))=((48+j:Nat):Int):=z0j _ (by omega) (by omega)
    have w3:IntKind.i32.wrap ((48+j:Nat):Int)=((48+j:Nat):Int):=by
     have:j=0∨j=1:=by omega
     rcases this with rfl | rfl <;> rfl
    have w4:(0:Int)≤((48+j:Nat):Int)∧((48+j:Nat):Int)<128:=by omega
    have hln2:=ziO (zbz (n:=16) (at_:=q0) (s:=s0) (by rw[← es1];exact f4) j) (q0:Int)
    rw[hsj] at hln2
    have w5:((getM (q0:Int) s.1).getD []).length+(bit1 j).length≤z0n:=by have:(bit1 j).length=1:=rfl;unfold z0n;omega
    have w6:[UInt8.ofNat ((48+j:Nat):Int).toNat]=bit1 j:=rfl
    simp only[go_sem,hji,↓qn,qn,lq,hs,lp,up,w1,w2,w3,w4,w5,w6]
    have hh1:(h++mobj keyP valP (updM (nxt q0 j:Int) ((getM (q0:Int) s.1).getD []++bit1 j) s.1)::R')[h.length+(i'+1)]?=some (.row none (ys.map fun n:Nat=>eI n) 0):=by
     rw[List.getElem?_append_right (by omega)];simpa using jg
    have hi':i'<R'.length:=z0g jg
    refine nq_one hh1 jle (by omega) ?_ ?_
    ·refine⟨(j+1,R'.set i' (.row none (ys.map (fun n:Nat=>eI n)++[eI (nxt q0 j)]) 0),i',ys++[nxt q0 j],of'),?_,⟨by dsimp only;omega,⟨?_,?_,?_⟩,?_⟩,by dsimp only;omega⟩
     ·dsimp only
      rw[hvis,List.set_append_right _ _ (by omega)]
      simp only[List.length_append,List.length_cons,List.length_nil,Nat.add_sub_cancel_left,List.set_cons_succ]
      rw[show ys.length+1-of'=ys.length-of'+1 by omega]
     ·dsimp only
      rw[List.getElem?_set_self hi'];simp
     ·simp;omega
     ·dsimp only
      rw[hvis,List.drop_append_of_le_length jle,jeq]
     ·simp;omega
    ·refine⟨(j+1,R'++[.row none ((ys.drop of').map (fun n:Nat=>eI n)++[eI (nxt q0 j)]) 0],R'.length,ys.drop of'++[nxt q0 j],0),?_,⟨by dsimp only;omega,⟨?_,?_,?_⟩,?_⟩,by dsimp only;omega⟩
     ·dsimp only
      rw[hvis]
      simp
     ·simp
     ·simp
     ·dsimp only
      rw[hvis,jeq,List.drop_zero]
     ·simp;omega
  ·have hj2:j=2:=by omega
   subst hj2
   simp only[go_sem]
   refine⟨(k+1,R',i',ys,of',some q0),?_,⟨by dsimp only;omega,by dsimp only;rw[hbn];exact jq,by dsimp only;omega⟩,by dsimp only;omega⟩
   dsimp only
   rw[hbn]
 ·have hk16:k=16:=by omega
  subst hk16
  obtain⟨_,hne⟩:=zyU ha
  have hz:xs.length-off=0:=by rw[hln,hne];rfl
  have lk:=fun (hp:Heap) (hh:hp[h.length]?=some (mobj keyP valP (bfs a 16).1))=>lookP (b:=(b:Int)) hh
  have hpv:(getM (b:Int) (bfs a 16).1).getD []=z0f a b:=rfl
  rcases oq with _ | oq <;> simp only[List.append_nil,List.cons_append,List.nil_append,go_sem,hz,lk,hpv]
end Go.Am
end
section
/- One command: both sides keep agreeing;a whole program. -/
namespace Go.Am
variable (path:Nat→Nat→List UInt8)
theorem z5h {r:Run} {c:Cmd} (h:1≤c.k∧c.k≤6):r.step path c={ r with se:=r.se.put c,sts:=r.sts++[r.st],frs:=r.frs++[0] }:=by
 unfold Run.step;simp only[if_pos h]
theorem z4M {r:Run} {c:Cmd} (h:c.k=7∨c.k=8):r.step path c={ r.scn path c with sts:=(r.scn path c).sts++[(r.scn path c).st],frs:=(r.scn path c).frs++[r.scnF path c] }:=by
 unfold Run.step;rw[if_neg (by omega),if_pos h]
theorem z4L {r:Run} {c:Cmd} (h:c.k=9):r.step path c={ (r.go path 1).clk (List.replicate c.cl.toNat (48,48,120)) with sts:=((r.go path 1).clk (List.replicate c.cl.toNat (48,48,120))).sts++[((r.go path 1).clk (List.replicate c.cl.toNat (48,48,120))).st],frs:=((r.go path 1).clk (List.replicate c.cl.toNat (48,48,120))).frs++[0] }:=by
 unfold Run.step;rw[if_neg (by omega),if_neg (by omega),if_pos h]
theorem zcz {r:Run} {c:Cmd} (h:c.k=10):r.step path c={ r.go path c.s.toNat with sts:=(r.go path c.s.toNat).sts++[(r.go path c.s.toNat).st],frs:=(r.go path c.s.toNat).frs++[0] }:=by
 unfold Run.step;rw[if_neg (by omega),if_neg (by omega),if_neg (by omega)]
theorem z2H {pre:List Cmd} {c:Cmd} {state:Nat} (h:c.k≤6):z0P path pre c state=⟨[],[],[],0,state⟩:=by
 unfold z0P
 rw[if_neg (by omega),if_neg (by omega),if_neg (by omega),if_neg (by omega)];rfl
theorem z93 {pre:List Cmd} {c:Cmd} {state:Nat} (h:c.k=10):z0P path pre c state=⟨path state c.s.toNat,zs (path state c.s.toNat).length,xsL (path state c.s.toNat).length,0,c.s.toNat⟩:=by
 unfold z0P
 rw[if_pos h,zii]
theorem z4E {pre:List Cmd} {c:Cmd} {state:Nat} (h:c.k=9):z0P path pre c state=⟨path state 1++zs c.cl.toNat,zs (path state 1).length++zs c.cl.toNat,xsL (path state 1).length++xsL c.cl.toNat,0,1⟩:=by
 unfold z0P
 rw[if_neg (by omega),if_pos h,zgk]
def Adds (r r':Run) (p:Part):Prop:=
 r'.ck=r.ck+p.tms.length∧(r'.wr=r.wr)∧(r.wr=true→r'.tms=r.tms++p.tms∧r'.tdi=r.tdi++p.tdi∧r'.want=r.want++p.want)∧r'.sts=r.sts++[p.st]∧r'.st=p.st
theorem zcn {pre pre':List Cmd} {r r':Run} {ps:List Part} {state:Nat} {p:Part} (H:RelV pre r ps state) (A:Adds r r' p) (hb:p.st∈stb)
 (e1:r'.se.e1.s=(setC pre' 1).s) (e2:r'.se.e2.s=(setC pre' 2).s) (h1:r'.se.h1.b=(setC pre' 3).b) (t1:r'.se.t1.b=(setC pre' 4).b) (h2:r'.se.h2.b=(setC pre' 5).b) (t2:r'.se.t2.b=(setC pre' 6).b)
 (s1:z08 (setC pre' 1).s=true) (s2:z08 (setC pre' 2).s=true) (b1:∀ k,3≤k→k≤6→z0Q (setC pre' k).b=true∧(setC pre' k).b.length≤2000) :
 RelV pre' r' (ps++[p]) p.st:=by
 obtain⟨a1,a2,a3,a4,a5⟩:=A
 obtain⟨q1,q2,q3⟩:=z7S ps p
 exact⟨a5,hb,e1,e2,h1,t1,h2,t2,s1,s2,b1,by rw[a1,q1,List.length_append,H.ck],by rw[a4,H.sts,List.map_append];rfl,fun hw=>by
  rw[a2] at hw
  obtain⟨x,y,z⟩:=a3 hw
  obtain⟨u,v,w⟩:=H.sig hw
  exact⟨by rw[x,q1,u],by rw[y,q2,v],by rw[z,q3,w]⟩⟩
theorem z7P {pre:List Cmd} {r r':Run} {ps:List Part} {state:Nat} {p:Part} {c:Cmd} (H:RelV pre r ps state) (A:Adds r r' p) (hb:p.st∈stb) (hs:r'.se=r.se) (hk:¬ (1≤c.k∧c.k≤6)) :
 RelV (pre++[c]) r' (ps++[p]) p.st:=by
 have hn:∀ k:Int,1≤k→k≤6→setC (pre++[c]) k=setC pre k:=fun k h1 h2=>by rw[z09,if_neg (by omega)]
 refine zcn H A hb ?_ ?_ ?_ ?_ ?_ ?_ ?_ ?_ ?_
 ·rw[hs,hn 1 (by omega) (by omega),H.e1]
 ·rw[hs,hn 2 (by omega) (by omega),H.e2]
 ·rw[hs,hn 3 (by omega) (by omega),H.h1]
 ·rw[hs,hn 4 (by omega) (by omega),H.t1]
 ·rw[hs,hn 5 (by omega) (by omega),H.h2]
 ·rw[hs,hn 6 (by omega) (by omega),H.t2]
 ·rw[hn 1 (by omega) (by omega)];exact H.s1
 ·rw[hn 2 (by omega) (by omega)];exact H.s2
 ·intro k h1 h2;rw[hn k (by omega) (by omega)];exact H.b1 k h1 h2
theorem zi9 {r:Run} {c:Cmd} (hb:c.b≠[]) (hm:c.m.length≤c.b.length) (hd tl:List UInt8) (sh ex en n1 n2:Nat) (f:Nat) (p:Part) (hp:p=padP (z1o path c r.st sh ex hd tl en)) (r2:Run)
 (h2:r2={ r.go path sh with ni:=n1,nd:=n2 }) (r3:Run) (h3:r3=Run.go path { r2.clk (z0R c hd (hd++c.b++tl)) with st:=ex } en) :
 Adds r { r3 with sts:=r3.sts++[r3.st],frs:=r3.frs++[f] } p∧r3.se=r.se:=by
 obtain⟨g1,g2,g3,g4,g5,g6,_,_⟩:=z07 path r sh
 have ne:hd++c.b++tl≠[]:=by simp [hb]
 obtain⟨k1,k2,k3,k4,k5,k6,_,_⟩:=z2f r2 (z0R c hd (hd++c.b++tl))
 obtain⟨m1,m2,m3,m4,m5,m6,_,_⟩:=z07 path { r2.clk (z0R c hd (hd++c.b++tl)) with st:=ex } en
 rw[← h3] at m1 m2 m3 m4 m5 m6
 have pr:=z6E path c r.st sh ex hd tl en hb
 rw[← hp] at pr
 subst pr
 have hz:∀ n,(zs n).length=n:=fun n=>by simp [zs]
 have a1:r2.se=r.se:=by rw[h2];exact g1
 have a3:r2.sts=r.sts:=by rw[h2];exact g3
 have a5:r2.wr=r.wr:=by rw[h2];exact g5
 have a6:r2.ck=r.ck+(path r.st sh).length:=by rw[h2];exact g6
 have hpos:0<(hd++c.b++tl).length:=List.length_pos_iff.2 ne
 refine⟨⟨?_,?_,?_,?_,m2⟩,?_⟩
 ·show r3.ck=_
  rw[m6]
  show (r2.clk _).ck+_=_
  rw[k6,a6,z2k]
  simp only[List.length_append,hz,List.length_singleton]
  simp only[List.length_append] at hpos
  omega
 ·show r3.wr=_
  rw[m5]
  show (r2.clk _).wr=_
  rw[k5,a5]
 ·intro hw
  have hw2:r2.wr=true:=by rw[a5];exact hw
  obtain⟨u1,u2,u3⟩:=zhN path hw sh
  obtain⟨v1,v2,v3⟩:=zfU hw2 (z0R c hd (hd++c.b++tl))
  have hw3:({ r2.clk (z0R c hd (hd++c.b++tl)) with st:=ex }:Run).wr=true:=by show (r2.clk _).wr=_;rw[k5];exact hw2
  obtain⟨w1,w2,w3⟩:=zhN path hw3 en
  rw[← h3] at w1 w2 w3
  have b1:r2.tms=r.tms++path r.st sh:=by rw[h2];exact u1
  have b2:r2.tdi=r.tdi++zs (path r.st sh).length:=by rw[h2];exact u2
  have b3:r2.want=r.want++xsL (path r.st sh).length:=by rw[h2];exact u3
  refine⟨?_,?_,?_⟩
  ·show r3.tms=_
   rw[w1];show (r2.clk _).tms++path ex en=_
   rw[v1,b1,y0E c hd _ ne];simp only[List.append_assoc]
  ·show r3.tdi=_
   rw[w2];show (r2.clk _).tdi++zs (path ex en).length=_
   rw[v2,b2,y0F];simp only[List.append_assoc]
  ·show r3.want=_
   rw[w3];show (r2.clk _).want++xsL (path ex en).length=_
   rw[v3,b3,y0G c hd tl hm];simp only[List.append_assoc]
 ·show r3.sts++[r3.st]=_
  rw[m3,m2];show (r2.clk _).sts++_=_
  rw[k3,a3]
 ·rw[m1];show (r2.clk _).se=_
  rw[k1,a1]
theorem ziE {pre:List Cmd} {r:Run} {ps:List Part} {state:Nat} (H:RelV pre r ps state) {c:Cmd} (hc:cmdF c=0) :
 RelV (pre++[c]) (r.step path c) (ps++[z0P path pre c state]) (z0P path pre c state).st:=by
 have hst:=H.st
 subst hst
 have setf:∀ (h:1≤c.k∧c.k≤6),Adds r (r.step path c) (z0P path pre c r.st)∧(z0P path pre c r.st).st∈stb:=fun h=>by
  rw[z5h path h,z2H path h.2]
  exact⟨⟨rfl,rfl,fun _=>⟨(List.append_nil _).symm,(List.append_nil _).symm,(List.append_nil _).symm⟩,rfl,rfl⟩,H.sb⟩
 have hput:∀ (h:1≤c.k∧c.k≤6),(r.step path c).se=r.se.put c:=fun h=>by rw[z5h path h]
 cases z0S hc with
 | set h hs e=>
  have hr:1≤c.k∧c.k≤6:=by omega
  obtain⟨A,B⟩:=setf hr
  have hp:=hput hr
  refine zcn H A B ?_ ?_ ?_ ?_ ?_ ?_ ?_ ?_ ?_
  all_goals try rw[hp]
  ·rw[z09];unfold Sett.put
   rcases h with h | h
   ·rw[if_pos h,if_pos h]
   ·rw[if_neg (by omega),if_pos h,if_neg (by omega)];exact H.e1
  ·rw[z09];unfold Sett.put
   rcases h with h | h
   ·rw[if_pos h,if_neg (by omega)];exact H.e2
   ·rw[if_neg (by omega),if_pos h,if_pos h]
  ·rw[z09,if_neg (by omega)];unfold Sett.put
   rcases h with h | h
   ·rw[if_pos h];exact H.h1
   ·rw[if_neg (by omega),if_pos h];exact H.h1
  ·rw[z09,if_neg (by omega)];unfold Sett.put
   rcases h with h | h
   ·rw[if_pos h];exact H.t1
   ·rw[if_neg (by omega),if_pos h];exact H.t1
  ·rw[z09,if_neg (by omega)];unfold Sett.put
   rcases h with h | h
   ·rw[if_pos h];exact H.h2
   ·rw[if_neg (by omega),if_pos h];exact H.h2
  ·rw[z09,if_neg (by omega)];unfold Sett.put
   rcases h with h | h
   ·rw[if_pos h];exact H.t2
   ·rw[if_neg (by omega),if_pos h];exact H.t2
  ·rw[z09];split
   ·exact hs
   ·exact H.s1
  ·rw[z09];split
   ·exact hs
   ·exact H.s2
  ·intro k h1 h2;rw[z09,if_neg (by omega)];exact H.b1 k h1 h2
 | pad h0 h1 hb hl e=>
  have hr:1≤c.k∧c.k≤6:=by omega
  obtain⟨A,B⟩:=setf hr
  have hp:=hput hr
  have hk:c.k=3∨c.k=4∨c.k=5∨c.k=6:=by omega
  refine zcn H A B ?_ ?_ ?_ ?_ ?_ ?_ ?_ ?_ ?_
  all_goals try rw[hp]
  ·rw[z09,if_neg (by omega)];unfold Sett.put
   rcases hk with h | h | h | h <;> simp [h,H.e1]
  ·rw[z09,if_neg (by omega)];unfold Sett.put
   rcases hk with h | h | h | h <;> simp [h,H.e2]
  ·rw[z09];unfold Sett.put
   rcases hk with h | h | h | h <;> simp [h,H.h1]
  ·rw[z09];unfold Sett.put
   rcases hk with h | h | h | h <;> simp [h,H.t1]
  ·rw[z09];unfold Sett.put
   rcases hk with h | h | h | h <;> simp [h,H.h2]
  ·rw[z09];unfold Sett.put
   rcases hk with h | h | h | h <;> simp [h,H.t2]
  ·rw[z09,if_neg (by omega)];exact H.s1
  ·rw[z09,if_neg (by omega)];exact H.s2
  ·intro k h1 h2;rw[z09];split
   ·exact⟨hb,hl⟩
   ·exact H.b1 k h1 h2
 | go h hs e=>
  obtain⟨g1,g2,g3,g4,g5,g6,_,_⟩:=z07 path r c.s.toNat
  rw[zcz path h,z93 path h]
  refine z7P H ⟨g6,g5,fun hw=>zhN path hw _,?_,g2⟩ (z04 hs).1 g1 (by omega)
  show (r.go path c.s.toNat).sts++_=_
  rw[g3,g2]
 | idle h h0 h1 e=>
  obtain⟨g1,g2,g3,g4,g5,g6,_,_⟩:=z07 path r 1
  obtain⟨k1,k2,k3,k4,k5,k6,_,_⟩:=z2f (r.go path 1) (List.replicate c.cl.toNat (48,48,120))
  rw[z4L path h,z4E path h]
  refine z7P H ⟨?_,?_,?_,?_,?_⟩ (by show 1∈stb;decide) ?_ (by omega)
  ·show Run.ck (Run.clk _ _)=_
   rw[k6,g6];simp [zs];omega
  ·show Run.wr (Run.clk _ _)=_
   rw[k5,g5]
  ·intro hw
   obtain⟨u1,u2,u3⟩:=zhN path hw 1
   obtain⟨v1,v2,v3⟩:=zfU (r:=r.go path 1) (by rw[g5];exact hw) (List.replicate c.cl.toNat (48,48,120))
   refine⟨?_,?_,?_⟩
   ·show Run.tms (Run.clk _ _)=_
    rw[v1,u1];simp [zs]
   ·show Run.tdi (Run.clk _ _)=_
    rw[v2,u2];simp [zs]
   ·show Run.want (Run.clk _ _)=_
    rw[v3,u3];simp [xsL]
  ·show Run.sts (Run.clk _ _)++_=_
   rw[k3,k2,g3,g2]
  ·show Run.st (Run.clk _ _)=_
   rw[k2,g2]
  ·show Run.se (Run.clk _ _)=_
   rw[k1,g1]
 | scan h hs e=>
  obtain⟨q1,q2,q3,q4,q5,q6⟩:=z1B hs
  have hm:c.m.length≤c.b.length:=by rcases q6 with ⟨_,h⟩ | ⟨_,h⟩ <;> simp [h]
  rw[z4M path h]
  rcases h with h | h
  ·have hp:z0P path pre c r.st=padP (z1o path c r.st 11 12 r.se.h1.b r.se.t1.b r.se.e1.s.toNat):=by
    unfold z0P
    rw[if_neg (by omega),if_neg (by omega),if_pos h,H.h1,H.t1,H.e1]
   have hen:r.se.e1.s.toNat∈stb:=by rw[H.e1];exact (z04 H.s1).1
   obtain⟨A,B⟩:=zi9 path q1 hm r.se.h1.b r.se.t1.b 11 12 r.se.e1.s.toNat ((r.go path 11).ni+(r.se.h1.b++c.b++r.se.t1.b).length) (r.go path 11).nd (r.scnF path c) _ hp _ rfl (r.scn path c) (by unfold Run.scn;simp only[if_pos h])
   refine z7P H A (by rw[hp];exact hen) B (by omega)
  ·have hp:z0P path pre c r.st=padP (z1o path c r.st 4 5 r.se.h2.b r.se.t2.b r.se.e2.s.toNat):=by
    unfold z0P
    rw[if_neg (by omega),if_neg (by omega),if_neg (by omega),if_pos h,H.h2,H.t2,H.e2]
   have hen:r.se.e2.s.toNat∈stb:=by rw[H.e2];exact (z04 H.s2).1
   obtain⟨A,B⟩:=zi9 path q1 hm r.se.h2.b r.se.t2.b 4 5 r.se.e2.s.toNat (r.go path 4).ni ((r.go path 4).nd+(r.se.h2.b++c.b++r.se.t2.b).length) (r.scnF path c) _ hp _ rfl (r.scn path c) (by
    unfold Run.scn
    simp only[if_neg (show ¬ c.k=7 by omega)])
   refine z7P H A (by rw[hp];exact hen) B (by omega)
end Go.Am
end
section
/- A whole program;the bits that are shifted. -/
namespace Go.Am
variable (path:Nat→Nat→List UInt8)
theorem zbw (ps qs:List Part):sigT (ps++qs)=sigT ps++sigT qs:=by simp [sigT]
theorem zcj:∀ (l:List Cmd) {pre:List Cmd} {r:Run} {ps:List Part} {state:Nat},RelV pre r ps state→z55 l=0 →
 ((sigT (ps++z0u path pre state l)).length≤20000→∃ st',RelV (pre++l) (r.play path l) (ps++z0u path pre state l) st') ∧
 (20000<(sigT (ps++z0u path pre state l)).length→20000<(r.play path l).ck)
 | [],pre,r,ps,state,H,_=>by
  simp only[z0u,List.append_nil,Run.play]
  exact⟨fun _=>⟨state,H⟩,fun h=>by rw[H.ck];exact h⟩
 | c::l,pre,r,ps,state,H,hc=>by
  unfold z55 at hc
  split at hc
  ·rename_i h1;exact absurd hc h1
  rename_i h1
  have h0:cmdF c=0:=by omega
  have S:=ziE path H h0
  obtain⟨A,B⟩:=zcj l S hc
  have e1:ps++[z0P path pre c state]++z0u path (pre++[c]) (z0P path pre c state).st l=ps++z0u path pre state (c::l):=by
   rw[List.append_assoc];rfl
  have e2:pre++[c]++l=pre++c::l:=by rw[List.append_assoc];rfl
  rw[e1] at A B
  rw[e2] at A
  unfold Run.play
  have hlen:(sigT ps).length≤(sigT (ps++z0u path pre state (c::l))).length:=by rw[zbw,List.length_append];omega
  constructor
  ·intro h
   rw[if_neg (by rw[H.ck];omega)]
   exact A h
  ·intro h
   split
   ·assumption
   ·exact B h
def visL (s:Nat):List UInt8→List Nat
 | []=>[]
 | c::r=>s::visL (stW s c) r
theorem z14:∀ (l:List UInt8) (s:Nat) (r:List UInt8),visL s (l++r)=visL s l++visL (endL s l) r
 | [],s,r=>rfl
 | d::l,s,r=>by simp only[List.cons_append,visL,z14 l];rfl
theorem zc1 {s:Nat} (h:stW s 48=s):∀ n,visL s (zs n)=List.replicate n s∧endL s (zs n)=s
 | 0=>⟨rfl,rfl⟩
 | n+1=>by
  obtain⟨a,b⟩:=zc1 h n
  have e:zs (n+1)=48::zs n:=rfl
  rw[e]
  constructor
  ·simp only[visL,h,a];rfl
  ·show endL (stW s 48) (zs n)=s
   rw[h,b]
structure PathOk:Prop where
 bits:∀ a∈frS,∀ b∈toS,z0Q (path a b)=true
 len:∀ a∈frS,∀ b∈toS,(path a b).length≤8
 ends:∀ a∈frS,∀ b∈toS,endL a (path a b)=b
 no11:∀ a∈frS,∀ b∈toS,(visL a (path a b)).count 11=0
 no4:∀ a∈frS,∀ b∈toS,(visL a (path a b)).count 4=0
theorem z1s {a:Nat} (h:a∈stb):a∈frS:=by
 simp only[stb,List.mem_cons,List.not_mem_nil,or_false] at h
 rcases h with rfl | rfl | rfl | rfl <;> decide
theorem z2m {a:Nat} (h:a∈stb):a∈toS:=by
 simp only[stb,List.mem_cons,List.not_mem_nil,or_false] at h
 rcases h with rfl | rfl | rfl | rfl <;> decide
structure RelN (r:Run) (ps:List Part) (state:Nat):Prop where
 en:endL 0 (sigT ps)=state
 ni:r.ni=(visL 0 (sigT ps)).count 11
 nd:r.nd=(visL 0 (sigT ps)).count 4
variable {path}
theorem z4F {r r':Run} {ps:List Part} {state:Nat} {p:Part} (N:RelN r ps state) (he:endL state p.tms=p.st) (h1:r'.ni=r.ni+(visL state p.tms).count 11) (h2:r'.nd=r.nd+(visL state p.tms).count 4):RelN r' (ps++[p]) p.st:=by
 obtain⟨q,_,_⟩:=z7S ps p
 refine⟨?_,?_,?_⟩
 ·rw[q,z25,N.en,he]
 ·rw[q,z14,N.en,List.count_append,h1,N.ni]
 ·rw[q,z14,N.en,List.count_append,h2,N.nd]
theorem zi8 (P:PathOk path) {state sh ex en:Nat} (hs:state∈stb) (hx:(sh=11∧ex=12)∨(sh=4∧ex=5)) (hen:en∈stb) (n:Nat) (hn:0<n) :
 endL state (path state sh++(zs (n-1)++[49])++path ex en)=en∧(visL state (path state sh++(zs (n-1)++[49])++path ex en)).count sh=n ∧
 ∀ o,(o=11∨o=4)→o≠sh→(visL state (path state sh++(zs (n-1)++[49])++path ex en)).count o=0:=by
 have h1:sh∈toS:=by rcases hx with ⟨rfl,rfl⟩ | ⟨rfl,rfl⟩ <;> decide
 have h2:ex∈frS:=by rcases hx with ⟨rfl,rfl⟩ | ⟨rfl,rfl⟩ <;> decide
 have h3:stW sh 48=sh:=by rcases hx with ⟨rfl,rfl⟩ | ⟨rfl,rfl⟩ <;> rfl
 have h4:stW sh 49=ex:=by rcases hx with ⟨rfl,rfl⟩ | ⟨rfl,rfl⟩ <;> rfl
 obtain⟨v1,v2⟩:=zc1 h3 (n-1)
 have e1:=P.ends _ (z1s hs) _ h1
 have e2:=P.ends _ h2 _ (z2m hen)
 have ee:endL state (path state sh++(zs (n-1)++[49]))=ex:=by
  rw[z25,e1,z25,v2];exact h4
 have hv:visL state (path state sh++(zs (n-1)++[49])++path ex en)=visL state (path state sh)++(List.replicate (n-1) sh++[sh])++visL ex (path ex en):=by
  rw[z14,ee,z14,e1,z14,v1,v2];rfl
 have c0:∀ o,(o=11∨o=4)→(visL state (path state sh)).count o=0∧(visL ex (path ex en)).count o=0:=by
  rintro o (rfl | rfl)
  ·exact⟨P.no11 _ (z1s hs) _ h1,P.no11 _ h2 _ (z2m hen)⟩
  ·exact⟨P.no4 _ (z1s hs) _ h1,P.no4 _ h2 _ (z2m hen)⟩
 refine⟨?_,?_,?_⟩
 ·rw[z25,ee,e2]
 ·obtain⟨a,b⟩:=c0 sh (by rcases hx with ⟨rfl,rfl⟩ | ⟨rfl,rfl⟩ <;> simp)
  rw[hv,List.count_append,List.count_append,List.count_append,a,b,List.count_replicate_self]
  simp;omega
 ·intro o ho hne
  obtain⟨a,b⟩:=c0 o ho
  rw[hv,List.count_append,List.count_append,List.count_append,a,b,List.count_replicate,List.count_singleton]
  have:(sh==o)=false:=by simpa using Ne.symm hne
  simp [this]
theorem zt9 (P:PathOk path) {pre:List Cmd} {r:Run} {ps:List Part} {state:Nat} (H:RelV pre r ps state) (N:RelN r ps state) {c:Cmd} (hc:cmdF c=0) :
 RelN (r.step path c) (ps++[z0P path pre c state]) (z0P path pre c state).st:=by
 have hst:=H.st
 subst hst
 have hf:=z1s H.sb
 have setf:(1≤c.k∧c.k≤6)→RelN (r.step path c) (ps++[z0P path pre c r.st]) (z0P path pre c r.st).st:=fun h=>by
  rw[z5h path h,z2H path h.2]
  exact z4F N rfl rfl rfl
 cases z0S hc with
 | set h hs e=>exact setf (by omega)
 | pad h0 h1 hb hl e=>exact setf (by omega)
 | go h hs e=>
  obtain⟨g1,g2,g3,g4,g5,g6,g7,g8⟩:=z07 path r c.s.toNat
  rw[zcz path h,z93 path h]
  have ht:=z2m (z04 hs).1
  refine z4F N (P.ends _ hf _ ht) ?_ ?_
  ·show (r.go path c.s.toNat).ni=_
   rw[g7,P.no11 _ hf _ ht,Nat.add_zero]
  ·show (r.go path c.s.toNat).nd=_
   rw[g8,P.no4 _ hf _ ht,Nat.add_zero]
 | idle h h0 h1 e=>
  obtain⟨g1,g2,g3,g4,g5,g6,g7,g8⟩:=z07 path r 1
  obtain⟨k1,k2,k3,k4,k5,k6,k7,k8⟩:=z2f (r.go path 1) (List.replicate c.cl.toNat (48,48,120))
  have ht:(1:Nat)∈toS:=by decide
  rw[z4L path h,z4E path h]
  have e1:=P.ends _ hf _ ht
  obtain⟨v1,v2⟩:=zc1 (s:=1) rfl c.cl.toNat
  refine z4F N (by show endL r.st (path r.st 1++zs c.cl.toNat)=1;rw[z25,e1,v2]) ?_ ?_
  ·show Run.ni (Run.clk _ _)=r.ni+(visL r.st (path r.st 1++zs c.cl.toNat)).count 11
   rw[k7,g7,z14,e1,v1,List.count_append,P.no11 _ hf _ ht,List.count_replicate];rfl
  ·show Run.nd (Run.clk _ _)=r.nd+(visL r.st (path r.st 1++zs c.cl.toNat)).count 4
   rw[k8,g8,z14,e1,v1,List.count_append,P.no4 _ hf _ ht,List.count_replicate];rfl
 | scan h hs e=>
  obtain⟨q1,q2,q3,q4,q5,q6⟩:=z1B hs
  rw[z4M path h]
  rcases h with h | h
  ·have hp:z0P path pre c r.st=padP (z1o path c r.st 11 12 r.se.h1.b r.se.t1.b r.se.e1.s.toNat):=by
    unfold z0P
    rw[if_neg (by omega),if_neg (by omega),if_pos h,H.h1,H.t1,H.e1]
   have hen:r.se.e1.s.toNat∈stb:=by rw[H.e1];exact (z04 H.s1).1
   have hpos:0<(r.se.h1.b++c.b++r.se.t1.b).length:=by have:=List.length_pos_iff.2 q1;simp only[List.length_append];omega
   obtain⟨w1,w2,w3⟩:=zi8 P H.sb (.inl ⟨rfl,rfl⟩) hen (r.se.h1.b++c.b++r.se.t1.b).length hpos
   rw[hp,z6E path c r.st 11 12 _ _ _ q1]
   obtain⟨g1,g2,g3,g4,g5,g6,g7,g8⟩:=z07 path r 11
   refine z4F N w1 ?_ ?_
   ·show (r.scn path c).ni=_
    unfold Run.scn
    simp only[if_pos h]
    rw[(z07 path _ _).2.2.2.2.2.2.1]
    show Run.ni (Run.clk _ _)=_
    rw[(z2f _ _).2.2.2.2.2.2.1,w2]
    show (r.go path 11).ni+_=_
    rw[g7]
   ·show (r.scn path c).nd=_
    unfold Run.scn
    simp only[if_pos h]
    rw[(z07 path _ _).2.2.2.2.2.2.2]
    show Run.nd (Run.clk _ _)=_
    rw[(z2f _ _).2.2.2.2.2.2.2,w3 4 (.inr rfl) (by decide)]
    show (r.go path 11).nd=_
    rw[g8,Nat.add_zero]
  ·have hp:z0P path pre c r.st=padP (z1o path c r.st 4 5 r.se.h2.b r.se.t2.b r.se.e2.s.toNat):=by
    unfold z0P
    rw[if_neg (by omega),if_neg (by omega),if_neg (by omega),if_pos h,H.h2,H.t2,H.e2]
   have hen:r.se.e2.s.toNat∈stb:=by rw[H.e2];exact (z04 H.s2).1
   have hpos:0<(r.se.h2.b++c.b++r.se.t2.b).length:=by have:=List.length_pos_iff.2 q1;simp only[List.length_append];omega
   have h7:¬ c.k=7:=by omega
   obtain⟨w1,w2,w3⟩:=zi8 P H.sb (.inr ⟨rfl,rfl⟩) hen (r.se.h2.b++c.b++r.se.t2.b).length hpos
   rw[hp,z6E path c r.st 4 5 _ _ _ q1]
   obtain⟨g1,g2,g3,g4,g5,g6,g7,g8⟩:=z07 path r 4
   refine z4F N w1 ?_ ?_
   ·show (r.scn path c).ni=_
    unfold Run.scn
    simp only[if_neg h7]
    rw[(z07 path _ _).2.2.2.2.2.2.1]
    show Run.ni (Run.clk _ _)=_
    rw[(z2f _ _).2.2.2.2.2.2.1,w3 11 (.inl rfl) (by decide)]
    show (r.go path 4).ni=_
    rw[g7,Nat.add_zero]
   ·show (r.scn path c).nd=_
    unfold Run.scn
    simp only[if_neg h7]
    rw[(z07 path _ _).2.2.2.2.2.2.2]
    show Run.nd (Run.clk _ _)=_
    rw[(z2f _ _).2.2.2.2.2.2.2,w2]
    show (r.go path 4).nd+_=_
    rw[g8]
theorem reln0 (wr:Bool):RelN (run0 wr) [] 0:=⟨rfl,rfl,rfl⟩
theorem zfa (P:PathOk path):∀ (l:List Cmd) {pre:List Cmd} {r:Run} {ps:List Part} {state:Nat},RelV pre r ps state→RelN r ps state→z55 l=0 →
 (sigT (ps++z0u path pre state l)).length≤20000→∃ st',RelN (r.play path l) (ps++z0u path pre state l) st'
 | [],pre,r,ps,state,H,N,_,_=>by
  simp only[z0u,List.append_nil,Run.play]
  exact⟨state,N⟩
 | c::l,pre,r,ps,state,H,N,hc,h=>by
  unfold z55 at hc
  split at hc
  ·rename_i h1;exact absurd hc h1
  rename_i h1
  have h0:cmdF c=0:=by omega
  have S:=ziE path H h0
  have S2:=zt9 P H N h0
  have e1:ps++[z0P path pre c state]++z0u path (pre++[c]) (z0P path pre c state).st l=ps++z0u path pre state (c::l):=by
   rw[List.append_assoc];rfl
  have A:=zfa P l S S2 hc (by rw[e1];exact h)
  rw[e1] at A
  have hlen:(sigT ps).length≤(sigT (ps++z0u path pre state (c::l))).length:=by rw[zbw,List.length_append];omega
  unfold Run.play
  rw[if_neg (by rw[H.ck];omega)]
  exact A
theorem zv7 (P:PathOk path) {l:List Cmd} (hc:z55 l=0) (wr:Bool) (h:(sigT (z0u path [] 0 l)).length≤20000) :
 ((run0 wr).play path l).ck=(sigT (z0u path [] 0 l)).length∧((run0 wr).play path l).sts=(z0u path [] 0 l).map Part.st ∧
 ((run0 wr).play path l).ni=(visL 0 (sigT (z0u path [] 0 l))).count 11∧((run0 wr).play path l).nd=(visL 0 (sigT (z0u path [] 0 l))).count 4 ∧
 (wr=true→((run0 wr).play path l).tms=sigT (z0u path [] 0 l)∧((run0 wr).play path l).tdi=sigI (z0u path [] 0 l)∧((run0 wr).play path l).want=sigW (z0u path [] 0 l)):=by
 obtain⟨A,_⟩:=zcj path l (rel0 wr) hc
 simp only[List.nil_append] at A
 obtain⟨st',R⟩:=A h
 obtain⟨_,N⟩:=zfa P l (rel0 wr) (reln0 wr) hc (by simpa using h)
 simp only[List.nil_append] at N
 have hw:((run0 wr).play path l).wr=wr:=by
  have:∀ (l:List Cmd) (r:Run),(r.play path l).wr=r.wr:=by
   intro l
   induction l with
   | nil=>intro r;rfl
   | cons c l ih=>
    intro r
    unfold Run.play
    split
    ·rfl
    ·rw[ih]
     by_cases h1:1≤c.k∧c.k≤6
     ·rw[z5h path h1]
     by_cases h2:c.k=7∨c.k=8
     ·rw[z4M path h2]
      show (r.scn path c).wr=_
      unfold Run.scn
      by_cases h7:c.k=7 <;> (simp only[h7,if_true,if_false];rw[(z07 path _ _).2.2.2.2.1];show Run.wr (Run.clk _ _)=_;rw[(z2f _ _).2.2.2.2.1];exact (z07 path _ _).2.2.2.2.1)
     by_cases h3:c.k=9
     ·rw[z4L path h3]
      show Run.wr (Run.clk _ _)=_
      rw[(z2f _ _).2.2.2.2.1];exact (z07 path _ _).2.2.2.2.1
     ·unfold Run.step
      rw[if_neg h1,if_neg h2,if_neg h3]
      exact (z07 path _ _).2.2.2.2.1
  exact this l _
 exact⟨R.ck,R.sts,N.ni,N.nd,fun e=>R.sig (by rw[hw];exact e)⟩
end Go.Am
end
section
/- Walks over the states,and the ways that the reference looks for. -/
open Go
set_option linter.all false
namespace Go.Am
variable {h:Heap} {K:Post}
attribute [-go_sem] z7F zcf zcd zce
attribute [-go_sem] zcc
def aftL:List PV:=[eI 1,eI 0,eI 1,eI 2,eI 3,eI 9,eI 4,eI 5,eI 4,eI 5,eI 6,eI 8,eI 6,eI 7,eI 4,eI 8,eI 1,eI 2,eI 10,eI 0,eI 11,eI 12,eI 11,eI 12,eI 13,eI 15,eI 13,eI 14,eI 11,eI 15,eI 1,eI 2]
theorem zzG {s:Nat} (hs:s<16):zcc 16 (some 2) (.p (.agg aftL)) (AI s)=some (.p (.agg [eI (stp s 0),eI (stp s 1)])):=by
 have hs':s=0∨s=1∨s=2∨s=3∨s=4∨s=5∨s=6∨s=7∨s=8∨s=9∨s=10∨s=11∨s=12∨s=13∨s=14∨s=15:=by omega
 rcases hs' with rfl | rfl | rfl | rfl | rfl | rfl | rfl | rfl | rfl | rfl | rfl | rfl | rfl | rfl | rfl | rfl <;> rfl
theorem zzF {s t:Nat} (ht:t<2):zcc 2 none (.p (.agg [eI (stp s 0),eI (stp s 1)])) (AI t)=some (AI (stp s t)):=by
 have ht':t=0∨t=1:=by omega
 rcases ht' with rfl | rfl <;> rfl
theorem y07 (s t:Nat) (hs:s<16) (ht:t<2):z0c X za3 [AI s,AI t] h K=K (AI (stp s t)) h []:=by
 refine rule ?_
 rw[c_q030 rfl]
 have g:=zzG hs
 have g2:=zzF (s:=s) ht
 unfold aftL at g
 simp only[znj,go_sem,g,g2]
abbrev AIs (l:List Nat):AV:=.p (.sl none (l.map fun n:Nat=>eI n))
theorem z7R (s:Nat) (l:List UInt8) (hs:s<16) (hb:z0Q l=true) (hl:l.length≤1000000):z0c X za2 [AI s,AS l] h K=K (AIs (z5n s l)) h []:=by
 refine rule ?_
 rw[c_q02z rfl]
 have hmx:l.length≤z0J:=by unfold z0J;omega
 simp only[zhn,go_sem,hmx]
 refine z0Y (fun k:Nat=>⟨[(0,AI (endL s (l.take k))),(5,.own h.length k 0 k),(9,.own (h.length+1) l.length 0 l.length),(10,AI l.length),(11,AI k)],h++[.row none ((z5n s (l.take k)).map fun n:Nat=>eI n) 0,.row none (z0o l) 0],[]⟩) (fun k=>k≤l.length) (fun k=>l.length-k) 0 rfl (by omega) ?_
 intro k hk
 rcases Nat.lt_or_ge k l.length with hlt | hge
 ·have g:(z0o l)[k]?=some (.int .u8 (l[k].toNat:Int)):=by unfold z0o;rw[List.getElem?_map,List.getElem?_eq_getElem hlt];rfl
  have w2:IntKind.i64.wrap ((k:Int)+1)=((k+1:Nat):Int):=z0j _ (by omega) (by omega)
  have bt:=bit_at hlt hb
  have e1:IntKind.u8.wrap ((l[k].toNat:Int)-48)=((l[k].toNat-48:Nat):Int):=by
   rcases bt with e | e <;> rw[e] <;> rfl
  have hsm:l[k].toNat-48<2:=by rcases bt with e | e <;> rw[e] <;> decide
  have e2:IntKind.i64.wrap ((l[k].toNat-48:Nat):Int)=((l[k].toNat-48:Nat):Int):=z0j _ (by omega) (by omega)
  have he:=zpo hs (zjr k hb)
  have hlen:((z5n s (l.take k)).map fun n:Nat=>eI n).length=k:=by simp [z1J];omega
  have hmx2:k+1≤z0J:=by unfold z0J;omega
  have hbl:(z0o l).length=l.length:=by simp [z0o]
  simp only[go_sem,hlt,g,e1,e2,y07 _ _ he hsm,w2,hlen,hmx2,hbl]
  refine⟨k+1,?_,by omega,by omega⟩
  rw[List.take_succ_eq_append_getElem hlt,z7q,ze4]
  simp [stW]
 ·have ek:k=l.length:=by omega
  subst ek
  have hlen:((z5n s l).map fun n:Nat=>eI n).length=l.length:=by simp [z1J]
  simp only[go_sem,Nat.lt_irrefl,List.take_length,hlen]
  exact congrArg (fun l=>AV.p (.sl none l)) (List.take_of_length_le (by simp [z1J]))
def z4H (h:Heap):Nat→Heap
 | 0=>h
 | k+1=>z4H h k++[.row none ((rowS (k+1)).map PV.str) 0]
theorem z7j (h:Heap):∀ k,(z4H h k).take h.length=h
 | 0=>List.take_length
 | k+1=>by
  have:h.length≤(z4H h k).length:=by have:=congrArg List.length (z7j h k);simp at this;omega
  rw[z4H,List.take_append_of_le_length this,z7j h k]
theorem z97 (h:Heap):∀ k,(z4H h k).length=h.length+k
 | 0=>rfl
 | k+1=>by rw[z4H,List.length_append,z97 h k];rfl
def flS (l:List (List UInt8)):List (List UInt8):=l.flatMap fun s=>[s++[48],s++[49]]
theorem zj9 (l:List (List UInt8)):(flS l).length=2*l.length:=by
 unfold flS
 induction l with
 | nil=>rfl
 | cons a r ih=>simp [ih];omega
theorem zuZ (l:List (List UInt8)) (s:List UInt8):flS (l++[s])=flS l++[s++[48],s++[49]]:=by simp [flS]
theorem zta (k:Nat):rowS (k+1)=flS (rowS k):=rfl
def rowV (h:Heap):Nat→AV
 | 0=>.p (.sl none [.str []])
 | k+1=>.own (h.length+k) (2^(k+1)) 0 (2^(k+1))
set_option maxHeartbeats 1000000 in
theorem zvT (a b:Nat) (ha:a<16) (w:List UInt8) (hw:wayF a b 9 0=some w):z0c X z2q [AI a,AI b] h K=K (AS w) h []:=by
 obtain⟨kw,hk8,hfw,hno⟩:=zf8 hw
 have hit:∀ {k i:Nat} {s:List UInt8},k≤kw→(∀ x∈(rowS k).take i,(endL a x==b)=false)→(rowS k)[i]?=some s→(endL a s==b)=true→s=w:=by
  intro k i s hk h1 h2 h3
  have:=zaP (p:=fun s=>endL a s==b) h1 h2 h3
  rcases Nat.lt_or_ge k kw with h4 | h4
  ·rw[hno k h4] at this;cases this
  ·obtain rfl:k=kw:=by omega
   rw[hfw] at this;exact (Option.some.inj this).symm
 have miss:∀ {k i:Nat},k≤kw→(∀ x∈(rowS k).take i,(endL a x==b)=false)→(rowS k).length≤i→k+1≤kw:=by
  intro k i hk h1 h2
  rcases Nat.lt_or_ge k kw with h4 | h4
  ·omega
  ·obtain rfl:k=kw:=by omega
   rw[List.take_of_length_le h2] at h1
   rw[zeM (p:=fun s=>endL a s==b) h1] at hfw;cases hfw
 refine rule ?_
 rw[c_q02y rfl]
 simp only[zhm,go_sem]
 refine z0Y (fun k:Nat=>⟨[(0,AI a),(1,AI b),(5,rowV h k)],z4H h k,[]⟩) (fun k=>k≤kw) (fun k=>kw-k) 0 rfl (by omega) ?_
 intro k hk
 have hp2:(2:Nat)^k≤2^8:=Nat.pow_le_pow_right (by omega) (by omega)
 have hp3:(2:Nat)^8=256:=rfl
 cases k with
 | zero=>
  dsimp only[rowV,z4H]
  simp only[go_sem]
  refine z0Y (fun i:Nat=>⟨[(0,AI a),(1,AI b),(6,.own (h.length+0) (2*i) 0 (2*i)),(12,.p (.sl none [.str []])),(13,AI (2^0:Nat)),(14,AI i)],h++[.row none ((flS ((rowS 0).take i)).map PV.str) 0],[]⟩) (fun i=>i≤2^0∧∀ x∈(rowS 0).take i,(endL a x==b)=false) (fun i=>2^0-i) 0 rfl ⟨Nat.zero_le _,by simp⟩ ?_
  rintro i ⟨hi,hn⟩
  rcases Nat.lt_or_ge i (2^0) with hlt | hge
  ·have hlt':i<(rowS 0).length:=by rw[z1G];exact hlt
   have hg:=z1E PV.str hlt'
   obtain⟨hbs,hls⟩:=z7Q (List.getElem_mem hlt')
   have hgs:(rowS 0)[i]?=some (rowS 0)[i]:=List.getElem?_eq_getElem hlt'
   have cx:cutP none 0 (PV.str (rowS 0)[i])=some (PV.str (rowS 0)[i]):=rfl
   have w2:IntKind.i64.wrap ((i:Int)+1)=((i+1:Nat):Int):=z0j _ (by omega) (by omega)
   have htk:(rowS 0).take (i+1)=(rowS 0).take i++[(rowS 0)[i]]:=List.take_succ_eq_append_getElem hlt'
   generalize hse:(rowS 0)[i]=s at *
   have hcond:(endL a s==b)=decide ((endL a s:Int)=(b:Int)):=by
    rw[Bool.eq_iff_iff,beq_iff_eq,decide_eq_true_iff];omega
   obtain rfl:s=[]:=List.eq_nil_of_length_eq_zero hls
   obtain rfl:i=0:=by simpa using hlt
   have hmx:(2*0)+2≤z0J:=by unfold z0J;omega
   have hfl:((flS ((rowS 0).take 0)).map PV.str).length=2*0:=rfl
   have hgz:[PV.str []][0]?=some (PV.str []):=rfl
   rcases hb:decide ((a:Int)=(b:Int)) with _ | _
   ·have hne:¬ ((a:Int)=(b:Int)):=of_decide_eq_false hb
    have h01:(0:Int)<((2^0:Nat):Int):=by decide
    have w1:IntKind.i64.wrap 1=((1:Nat):Int):=rfl
    have hst:1≤z0n:=by decide
    have hmx2:2≤z0J:=by decide
    have hf0:(flS []).length=0:=rfl
    simp only[go_sem,hgz,cx,w1,z7R a [] ha rfl (Nat.zero_le _),z5n,hne,h01,hst,hf0,hmx2]
    refine⟨1,rfl,⟨Nat.le_refl _,?_⟩,by decide⟩
    intro x hx
    obtain rfl:x=[]:=by simpa [rowS] using hx
    exact decide_eq_false (fun e=>hne (congrArg Nat.cast e))
   ·have heq:(a:Int)=(b:Int):=of_decide_eq_true hb
    have h01:(0:Int)<((2^0:Nat):Int):=by decide
    simp only[go_sem,hgz,cx,z7R a [] ha rfl (Nat.zero_le _),z5n,eq_true heq,h01]
    exact congrArg AS (hit (k:=0) (i:=0) (s:=[]) hk hn rfl (by rw[hcond];exact hb))
  ·obtain rfl:i=1:=by omega
   have h11:¬ ((1:Int)<((2^0:Nat):Int)):=by decide
   have c1:((1:Nat):Int)=1:=rfl
   simp only[go_sem,c1,h11]
   exact⟨1,rfl,miss (k:=0) (i:=1) hk hn (by simp [rowS]),by have:=miss (k:=0) (i:=1) hk hn (by simp [rowS]);omega⟩
 | succ k=>
  dsimp only[rowV,z4H]
  have hlen:(z4H h k).length=h.length+k:=z97 h k
  rw[← hlen]
  simp only[go_sem]
  refine z0Y (fun i:Nat=>⟨[(0,AI a),(1,AI b),(6,.own ((z4H h k).length+1) (2*i) 0 (2*i)),(12,.own (z4H h k).length (2^(k+1)) 0 (2^(k+1))),(13,AI (2^(k+1):Nat)),(14,AI i)],(z4H h k)++[.row none ((rowS (k+1)).map PV.str) 0,.row none ((flS ((rowS (k+1)).take i)).map PV.str) 0],[]⟩) (fun i=>i≤2^(k+1)∧∀ x∈(rowS (k+1)).take i,(endL a x==b)=false) (fun i=>2^(k+1)-i) 0 rfl ⟨Nat.zero_le _,by simp⟩ ?_
  rintro i ⟨hi,hn⟩
  rcases Nat.lt_or_ge i (2^(k+1)) with hlt | hge
  ·have hlt':i<(rowS (k+1)).length:=by rw[z1G];exact hlt
   have hg:=z1E PV.str hlt'
   obtain⟨hbs,hls⟩:=z7Q (List.getElem_mem hlt')
   have hgs:(rowS (k+1))[i]?=some (rowS (k+1))[i]:=List.getElem?_eq_getElem hlt'
   have cx:cutP none 0 (PV.str (rowS (k+1))[i])=some (PV.str (rowS (k+1))[i]):=rfl
   have w2:IntKind.i64.wrap ((i:Int)+1)=((i+1:Nat):Int):=z0j _ (by omega) (by omega)
   have htk:(rowS (k+1)).take (i+1)=(rowS (k+1)).take i++[(rowS (k+1))[i]]:=List.take_succ_eq_append_getElem hlt'
   generalize hse:(rowS (k+1))[i]=s at *
   have hcond:(endL a s==b)=decide ((endL a s:Int)=(b:Int)):=by
    rw[Bool.eq_iff_iff,beq_iff_eq,decide_eq_true_iff];omega
   have hwl:((z5n a s).map fun n:Nat=>eI n).length=k+1:=by simp [z1J,hls]
   have hwg:((z5n a s).map fun n:Nat=>eI n)[k]?=some (eI (endL a s)):=by
    have:=zkm a s (by omega)
    rw[hls,Nat.add_sub_cancel] at this
    rw[List.getElem?_map,this];rfl
   have hpos:(0:Int)<((k+1:Nat):Int):=by omega
   have w3:IntKind.i64.wrap (((k+1:Nat):Int)-1)=(k:Int):=by
    rw[show ((k+1:Nat):Int)-1=(k:Int) by omega];exact z0j _ (by omega) (by omega)
   have hmx:(2*i)+2≤z0J:=by unfold z0J;omega
   have hfl:((flS ((rowS (k+1)).take i)).map PV.str).length=2*i:=by simp [zj9,List.length_take,z1G];omega
   have hrl:(rowS (k+1)).length=2^(k+1):=z1G _
   have hst:s.length+1≤z0n:=by rw[hls];unfold z0n;omega
   rcases hb:decide ((endL a s:Int)=(b:Int)) with _ | _
   ·have hne:¬ ((endL a s:Int)=(b:Int)):=of_decide_eq_false hb
    simp only[go_sem,hlt,hg,cx,w2,z7R a s ha hbs (by omega),hwl,hwg,hpos,w3,hfl,hmx,hne,hrl,hst]
    refine⟨i+1,?_,⟨by omega,?_⟩,by omega⟩
    ·rw[htk,zuZ,List.map_append];rfl
    ·intro x hx
     rw[htk] at hx
     rcases List.mem_append.1 hx with hx | hx
     ·exact hn x hx
     ·obtain rfl:x=s:=by simpa using hx
      rw[hcond];exact hb
   ·have heq:(endL a s:Int)=(b:Int):=of_decide_eq_true hb
    simp only[go_sem,hlt,hg,cx,w2,z7R a s ha hbs (by omega),hwl,hwg,hpos,w3,eq_true heq,hrl]
    exact⟨congrArg AS (hit hk hn hgs (by rw[hcond];exact hb)),by rw[List.take_append_of_le_length (by rw[z97];omega),z7j]⟩
  ·obtain rfl:i=2^(k+1):=by omega
   have hm:=miss hk hn (by rw[z1G];exact Nat.le_refl _)
   simp only[go_sem,Int.lt_irrefl]
   have e1:2*2^(k+1)=2^(k+1+1):=by rw[Nat.pow_succ 2 (k+1)];omega
   have e2:(rowS (k+1)).take (2^(k+1))=rowS (k+1):=List.take_of_length_le (by rw[z1G];exact Nat.le_refl _)
   have e3:z4H h k++[Obj.row none ((rowS (k+1)).map PV.str) 0,Obj.row none ((flS (rowS (k+1))).map PV.str) 0]=z4H h (k+1+1):=by
    rw[← zta,z4H,z4H,List.append_assoc];rfl
   refine⟨k+2,?_,hm,by omega⟩
   rw[e1,e2,e3,hlen]
   rfl
theorem zw5:(frS.all fun a=>toS.all fun b=>decide (wayF a b 9 0=some (z0f a b)))=true:=by kernel_rfl
theorem ziN {a b:Nat} (ha:a∈frS) (hb:b∈toS):wayF a b 9 0=some (z0f a b):=
 of_decide_eq_true (List.all_eq_true.1 (List.all_eq_true.1 zw5 a ha) b hb)
theorem fr_lt {a:Nat} (ha:a∈frS):a<16:=of_decide_eq_true (List.all_eq_true.1 (show (frS.all fun a=>decide (a<16))=true from rfl) a ha)
theorem z02 {a b:Nat} (ha:a∈frS) (hb:b∈toS):z0Q (z0f a b)=true∧(z0f a b).length≤8∧endL a (z0f a b)=b:=by
 obtain⟨kw,h1,h2,_⟩:=zf8 (ziN ha hb)
 have hm:=z7Q (List.mem_of_find?_eq_some h2)
 have he:=List.find?_some h2
 exact⟨hm.1,by omega,by simpa using he⟩
theorem zvU {a b:Nat} (ha:a∈frS) (hb:b∈toS):z0c X z2q [AI a,AI b] h K=K (AS (z0f a b)) h []:=zvT a b (fr_lt ha) _ (ziN ha hb)
theorem zfq {n:Nat} (hn:n<16):z0c X z6a [AI n] h K=K (AB true) h []:=by
 refine rule ?_
 have h1:(0:Int)≤n:=by omega
 have h2:(n:Int)≤15:=by omega
 have h3:¬ ((n:Int)<0):=by omega
 have h4:¬ ((n:Int)>15):=by omega
 rw[c_q05q rfl]
 simp only[zny,go_sem,z7H,h3,h4]
theorem s_Path {a b:Nat} (ha:a<16) (hb:b<16):z0c X z8M [AI a,AI b] h K=K (.tup [AS (z0f a b),AI 0]) h []:=by
 refine rule ?_
 rw[c_q05p rfl]
 simp only[znx,go_sem,zfq ha,zfq hb,zyy zyC zyB a b ha hb]
theorem ztM:(frS.all fun a=>toS.all fun b=>decide ((visL a (z0f a b)).count 11=0)&&decide ((visL a (z0f a b)).count 4=0))=true:=by kernel_rfl
theorem pathOk:PathOk z0f where
 bits a ha b hb:=(z02 ha hb).1
 len a ha b hb:=(z02 ha hb).2.1
 ends a ha b hb:=(z02 ha hb).2.2
 no11 a ha b hb:=by
  have:=List.all_eq_true.1 (List.all_eq_true.1 ztM a ha) b hb
  simp only[Bool.and_eq_true,decide_eq_true_eq] at this
  exact this.1
 no4 a ha b hb:=by
  have:=List.all_eq_true.1 (List.all_eq_true.1 ztM a ha) b hb
  simp only[Bool.and_eq_true,decide_eq_true_eq] at this
  exact this.2
end Go.Am
end
section
/- Commands: what is wrong with them,on both sides. -/
open Go
set_option linter.all false
namespace Go.Am
variable {h:Heap} {K:Post}
abbrev cmdP (c:Cmd):PV:=.agg [.int .i64 c.k,.int .i64 c.s,.int .i64 c.cl,.str c.b,.str c.w,.str c.m]
abbrev ACm (c:Cmd):AV:=.p (cmdP c)
structure CmdOk (c:Cmd):Prop where
 b:c.b.length≤100000
 w:c.w.length≤100000
 m:c.m.length≤100000
theorem zcx (n:Int):z0c X z8T [AI n] h K=K (AB (z08 n)) h []:=by
 refine rule ?_
 rw[c_q06q rfl]
 unfold z08
 by_cases h0:n=0
 ·subst h0;simp only[z8C,go_sem]
 by_cases h1:n=1
 ·subst h1;simp only[z8C,go_sem]
 by_cases h2:n=6
 ·subst h2;simp only[z8C,go_sem]
 by_cases h3:n=13
 ·subst h3;simp only[z8C,go_sem]
 have e:(n==0||n==1||n==6||n==13)=false:=by simp [h0,h1,h2,h3]
 rw[e]
 simp only[z8C,go_sem,h0,h1,h2,h3]
theorem zfr (n:Int):z0c X zaA [AI n] h K=K (AB (z08 n)) h []:=by
 refine rule ?_
 rw[c_q03p rfl]
 have e:([0,1,6,13]:List Int).contains n=z08 n:=by
  unfold z08
  simp only[List.contains_cons,List.contains_nil,Bool.or_false,Bool.or_assoc]
 have k:∀ (h':Heap) (K':Post),z0c X z5t [.p (.sl none [eI 0,eI 1,eI 6,eI 13]),AI n] h' K'=K' (AB (([0,1,6,13]:List Int).contains n)) h' []:=fun h' K'=>zgn (h:=h') (K:=K') [0,1,6,13] n (by decide)
 simp only[znm,go_sem,k,e]
theorem z2d (n:Int):z0c X z29 [AI n] h K=K (AB (decide (n=7)||decide (n=8))) h []:=by
 refine rule ?_
 rw[c_q06c rfl]
 by_cases h0:n=7
 ·subst h0;simp only[zej,go_sem]
 by_cases h1:n=8
 ·subst h1;simp only[zej,go_sem]
 simp only[zej,go_sem,h0,h1]
theorem z1n (n:Int):z0c X z8O [AI n] h K=K (AB (decide (1≤n)&&decide (n≤6))) h []:=by
 refine rule ?_
 rw[c_q06d rfl]
 by_cases h0:n<1
 ·have:¬ (1≤n):=by omega
  simp only[zek,go_sem,z7H,h0,this]
 ·have:1≤n:=by omega
  by_cases h1:6<n
  ·have h2:¬ (n≤6):=by omega
   simp only[zek,go_sem,z7H,h0,this,h1,h2]
  ·have h2:n≤6:=by omega
   simp only[zek,go_sem,z7H,h0,this,h1,h2]
theorem y0A (c:Cmd) (hc:CmdOk c):z0c X z8R [ACm c] h K=K (AI (z2Q c:Nat)) h []:=by
 refine rule ?_
 rw[c_q06n rfl]
 have b1:=hc.b;have b2:=hc.w;have b3:=hc.m
 have k1:=fun (h':Heap) (K':Post)=>zcp (h:=h') (K:=K') c.b (show c.b.length≤1000000 by omega)
 have k2:=fun (h':Heap) (K':Post)=>zcp (h:=h') (K:=K') c.w (show c.w.length≤1000000 by omega)
 have k3:=fun (h':Heap) (K':Post)=>zcp (h:=h') (K:=K') c.m (show c.m.length≤1000000 by omega)
 obtain⟨k,s,cl,b,w,m⟩:=c
 simp only at b1 b2 b3 k1 k2 k3
 have h0:=k1;have h0':=k2;have h0'':=k3
 unfold z2Q
 by_cases h1:b=[]
 ·simp only[z3n,go_sem,h1]
 rcases hb:z0Q b with _ | _
 ·simp only[z3n,go_sem,h1,k1,hb]
 by_cases h2:2000<b.length
 ·have h2':(2000:Int)<(b.length:Int):=by omega
  simp only[z3n,go_sem,h1,k1,hb,h2,h2']
 have h2':¬ (2000:Int)<(b.length:Int):=by omega
 by_cases h3:w=[]
 ·subst h3
  have hbn:z0Q []=true:=rfl
  rcases hm:z0Q m with _ | _
  ·simp only[z3n,go_sem,h1,k1,hb,h2,h2',k2,hbn,k3,hm]
  ·by_cases h4:m=[]
   ·subst h4
    simp only[z3n,go_sem,h1,k1,hb,h2,h2',k2,hbn]
   ·simp only[z3n,go_sem,h1,k1,hb,h2,h2',k2,hbn,k3,hm,h4]
 by_cases h4:w.length=b.length
 ·have h4':(w.length:Int)=(b.length:Int):=by omega
  by_cases h5:m.length=b.length
  ·have h5':(m.length:Int)=(b.length:Int):=by omega
   rcases hw:z0Q w with _ | _
   ·simp only[z3n,go_sem,h1,k1,hb,h2',h3,h4',h5',k2,hw]
    simp [h1,hb,h2,h3,h4,h5,hw]
   ·rcases hm:z0Q m with _ | _
    ·simp only[z3n,go_sem,h1,k1,hb,h2',h3,h4',h5',k2,hw,k3,hm]
     simp [h1,hb,h2,h3,h4,h5,hw,hm]
    ·simp only[z3n,go_sem,h1,k1,hb,h2',h3,h4',h5',k2,hw,k3,hm]
     simp [h1,hb,h2,h3,h4,h5,hw,hm]
  ·have h5':¬ (m.length:Int)=(b.length:Int):=by omega
   simp only[z3n,go_sem,h1,k1,hb,h2',h3,h4',h5']
   simp [h1,hb,h2,h3,h4,h5]
 ·have h4':¬ (w.length:Int)=(b.length:Int):=by omega
  simp only[z3n,go_sem,h1,k1,hb,h2',h3,h4']
  simp [h1,hb,h2,h3,h4]
theorem zwc (c:Cmd) (hc:CmdOk c):z0c X za9 [ACm c] h K=K (AI (z2Q c:Nat)) h []:=by
 refine rule ?_
 rw[c_q03n rfl]
 have b1:=hc.b;have b2:=hc.w;have b3:=hc.m
 have k1:=fun (h':Heap) (K':Post)=>zcq (h:=h') (K:=K') c.b (show c.b.length≤1000000 by omega)
 have k2:=fun (h':Heap) (K':Post)=>zcq (h:=h') (K:=K') c.w (show c.w.length≤1000000 by omega)
 have k3:=fun (h':Heap) (K':Post)=>zcq (h:=h') (K:=K') c.m (show c.m.length≤1000000 by omega)
 obtain⟨k,s,cl,b,w,m⟩:=c
 simp only at b1 b2 b3 k1 k2 k3
 have h0:=k1;have h0':=k2;have h0'':=k3
 unfold z2Q
 by_cases h1:b=[]
 ·simp only[z3k,go_sem,h1]
 rcases hb:z0Q b with _ | _
 ·simp only[z3k,go_sem,h1,k1,hb]
 by_cases h2:2000<b.length
 ·have h2':(2000:Int)<(b.length:Int):=by omega
  simp only[z3k,go_sem,h1,k1,hb,h2,h2']
 have h2':¬ (2000:Int)<(b.length:Int):=by omega
 by_cases h3:w=[]
 ·subst h3
  have hbn:z0Q []=true:=rfl
  rcases hm:z0Q m with _ | _
  ·simp only[z3k,go_sem,h1,k1,hb,h2,h2',k2,hbn,k3,hm]
  ·by_cases h4:m=[]
   ·subst h4
    simp only[z3k,go_sem,h1,k1,hb,h2,h2',k2,hbn]
   ·simp only[z3k,go_sem,h1,k1,hb,h2,h2',k2,hbn,k3,hm,h4]
 by_cases h4:w.length=b.length
 ·have h4':(w.length:Int)=(b.length:Int):=by omega
  by_cases h5:m.length=b.length
  ·have h5':(m.length:Int)=(b.length:Int):=by omega
   rcases hw:z0Q w with _ | _
   ·simp only[z3k,go_sem,h1,k1,hb,h2',h3,h4',h5',k2,hw]
    simp [h1,hb,h2,h3,h4,h5,hw]
   ·rcases hm:z0Q m with _ | _
    ·simp only[z3k,go_sem,h1,k1,hb,h2',h3,h4',h5',k2,hw,k3,hm]
     simp [h1,hb,h2,h3,h4,h5,hw,hm]
    ·simp only[z3k,go_sem,h1,k1,hb,h2',h3,h4',h5',k2,hw,k3,hm]
     simp [h1,hb,h2,h3,h4,h5,hw,hm]
  ·have h5':¬ (m.length:Int)=(b.length:Int):=by omega
   simp only[z3k,go_sem,h1,k1,hb,h2',h3,h4',h5']
   simp [h1,hb,h2,h3,h4,h5]
 ·have h4':¬ (w.length:Int)=(b.length:Int):=by omega
  simp only[z3k,go_sem,h1,k1,hb,h2',h3,h4']
  simp [h1,hb,h2,h3,h4]
end Go.Am
end
