/- Texts of the proof, laid together: Ctx, SpStream, MathFrac, SpBase, SpList, PSort, SpShp, SpStr, SpFind, SpLimD, SpLim, SpLotA, SpRecD, PSplit, PTxt, PNum, PFlt, PFltR, PWrit, SpIdx, SpLen, SpMap, SpStrs, SpGenA, SpSome, SpGenL, SpRec, SpSortRec, SpCompact. -/
import Derived.Test.YtklljiofechahaaGreatDoorlawRT6
set_option linter.all false
section
/- The functions together. -/
set_option linter.unusedVariables false
set_option maxRecDepth 100000
namespace Go.Am
def fns:List (Nat × AFun):=[(zhj,zkE),(zaF,zkJ),(z5A,zkP),(z2m,zkN),(zaG,zkO),(za4,zk0),(z3T,zgu),(z7m,zlb),(za2,zkx),(zaL,zlc),(zaT,zls),(z7n,zle),(zaD,zkF),(z1T,zkT),(zaU,zlt),(z1j,zkM),(z2l,zkI),(z7h,zkL),(z1c,zkK),(zaX,zlx),(z7i,zkQ),(z7b,zki),(z7a,zkh),(z4S,zl5),(zaS,zlp),(z7j,zkR),(z4P,zkV),(z7k,zkS),(zaE,zkH),(za1,zkw),(z5B,zl3),(z8O,zl2),(z8N,zl0),(zaZ,zl1),(zaP,zll),(zaQ,zln),(zaJ,zkZ),(z7e,zkv),(zar,zjY),(z8F,zky),(za9,zk8),(z59,zgt),(zaH,zkW),(z8J,zld),(zaN,zlh),(z7l,zkY),(zaK,zla),(za3,zkz),(z4M,zkb),(zaI,zkX),(z4O,zkU),(z7o,zlr),(zaR,zlo),(z4N,zkG),(zaY,zlz),(z7c,zkj),(zaw,zkk),(zaM,zlf),(z18,zlj),(z7r,zl4),(z4R,zlq),(z8L,zlm),(zaO,zli),(za8,zk4),(z2k,zkg),(zat,zkc),(z4T,zlA),(z6Z,zke),(zav,zkf),(zaA,zk9),(za5,zk1),(z8P,zl6),(z7s,zlB),(z4Q,zlk),(zaC,zkC),(zaB,zkB),(z6Y,zjZ),(zaW,zlw),(z7q,zly),(z7p,zlu),(z8K,zlg),(zaV,zlv),(z8G,zk5),(zba,zl7),(zbd,zlD),(zau,zkd),(z8H,zkA),(z7g,zk7),(za6,zk2),(z8E,zko),(za0,zku),(zbc,zl9),(z8I,zkD),(zas,zka),(zax,zkp),(ze1,zlC),(zbb,zl8),(z7f,zk6),(za7,zk3),(z7d,zks),(zay,zkq),(z3S,zkt),(zaz,zkr),(ze2,zlE),(zey,zkl),(zez,zkm),(ze3,zlF),(ze0,zkn)]
def GRL:List (Nat × Sh):=[]
def PRL:z9I:=[(z8M,zis),(z3I,zpf),(zhl,zg1),(zhm,zpg)]
def GLL:List (Nat × PV):=[(1,zbX)]
def fnOf:List (Nat × AFun)→Nat→Option AFun
 | [],_=>none
 | (k,F)::r,n=>bif Nat.beq k n then some F else fnOf r n
def X:Ctx:=⟨fnOf fns,glOf GLL,extF z0l z0f,libF GRL PRL⟩
theorem zhu {p:Nat→AFun→Bool}:∀ (l:List (Nat × AFun)),(l.all fun y=>p y.1 y.2)=true→∀ n F,fnOf l n=some F→p n F=true
 | [],_,n,F,h=>by cases h
 | (k,G)::r,ha,n,F,h=>by
  simp only[List.all_cons,Bool.and_eq_true] at ha
  simp only[fnOf] at h
  cases hk:Nat.beq k n with
  | true=>
   rw[hk] at h
   have:=Nat.eq_of_beq_eq_true hk
   simp only[cond_true,Option.some.injEq] at h
   subst this;subst h;exact ha.1
  | false=>
   rw[hk] at h
   exact zhu r ha.2 n F h
theorem zgs:X.NoNext:=fun f F h=>zhu (p:=fun _ F=>F.isDet||F.body.noNext) fns (by kernel_rfl) f F h
theorem x_q031:X.fn zhj=some zkE:=by kernel_rfl
theorem c_q031 {u0 v0:AV} {h h1:Heap} {P:Post} (hp:z0n h [u0]=some ([v0],h1)):z0c X zhj [u0] h P=zdv (z0c X) X.gl z5V v0 h1 [] (finR [.t 2] false h.length P):=by rw[z0d x_q031 rfl hp rfl];exact e_q031
theorem x_q03g:X.fn zaF=some zkJ:=by kernel_rfl
theorem c_q03g {u0 v0:AV} {h h1:Heap} {P:Post} (hp:z0n h [u0]=some ([v0],h1)):z0c X zaF [u0] h P=zdx (z0c X) X.gl z5X v0 h1 [] (finR [.t 2] false h.length P):=by rw[z0d x_q03g rfl hp rfl];exact e_q03g
theorem x_q03m:X.fn z5A=some zkP:=by kernel_rfl
theorem zux {u0 u1 u2 v0 v1 v2:AV} {h h1:Heap} {P:Post} (hp:z0n h [u0,u1,u2]=some ([v0,v1,v2],h1)):z0c X z5A [u0,u1,u2] h P=zd2 (z0c X) X.gl z3a z4h v0 v1 v2 h1 [] (finR [.t 6] false h.length P):=by rw[z0d x_q03m rfl hp rfl];exact e_q03m
theorem x_q03k:X.fn z2m=some zkN:=by kernel_rfl
theorem c_q03k {u0 u1 u2 v0 v1 v2:AV} {h h1:Heap} {P:Post} (hp:z0n h [u0,u1,u2]=some ([v0,v1,v2],h1)):z0c X z2m [u0,u1,u2] h P=zm9 (z0c X) X.gl v0 v1 v2 h1 [] (finR [.t 6] false h.length P):=by rw[z0d x_q03k rfl hp rfl];exact e_q03k
theorem x_q03l:X.fn zaG=some zkO:=by kernel_rfl
theorem c_q03l {u0 u1 v0 v1:AV} {h h1:Heap} {P:Post} (hp:z0n h [u0,u1]=some ([v0,v1],h1)):z0c X zaG [u0,u1] h P=zdz (z0c X) X.gl z4f v0 v1 h1 [] (finR [.t 4] false h.length P):=by rw[z0d x_q03l rfl hp rfl];exact e_q03l
theorem x_q026:X.fn za4=some zk0:=by kernel_rfl
theorem c_q026 {u0 u1 v0 v1:AV} {h h1:Heap} {P:Post} (hp:z0n h [u0,u1]=some ([v0,v1],h1)):z0c X za4 [u0,u1] h P=zdl (z0c X) X.gl z2s z5R v0 v1 h1 [] (finR [.t 4,.t 5] false h.length P):=by rw[z0d x_q026 rfl hp rfl];exact e_q026
theorem zuT:X.fn z3T=some zgu:=by kernel_rfl
theorem c_q04c {u0 u1 v0 v1:AV} {h h1:Heap} {P:Post} (hp:z0n h [u0,u1]=some ([v0,v1],h1)):z0c X z3T [u0,u1] h P=zam (z0c X) X.gl z3h z6f v0 v1 h1 [] (finR [.t 4] false h.length P):=by rw[z0d zuT rfl hp rfl];exact e_q04c
theorem x_q04b:X.fn z7m=some zlb:=by kernel_rfl
theorem c_q04b {u0 v0:AV} {h h1:Heap} {P:Post} (hp:z0n h [u0]=some ([v0],h1)):z0c X z7m [u0] h P=zgR (z0c X) X.gl z3g z6e v0 h1 [] (finR [.t 2] false h.length P):=by rw[z0d x_q04b rfl hp rfl];exact e_q04b
theorem x_q023:X.fn za2=some zkx:=by kernel_rfl
theorem c_q023 {u0 u1 v0 v1:AV} {h h1:Heap} {P:Post} (hp:z0n h [u0,u1]=some ([v0,v1],h1)):z0c X za2 [u0,u1] h P=zag (z0c X) X.gl v0 v1 h1 [] (finR [.t 4,.t 5,.t 6] false h.length P):=by rw[z0d x_q023 rfl hp rfl];exact e_q023
theorem x_q04d:X.fn zaL=some zlc:=by kernel_rfl
theorem c_q04d {u0 u1 v0 v1:AV} {h h1:Heap} {P:Post} (hp:z0n h [u0,u1]=some ([v0,v1],h1)):z0c X zaL [u0,u1] h P=zan (z0c X) X.gl v0 v1 h1 [] (finR [.t 4,.t 5,.t 6] false h.length P):=by rw[z0d x_q04d rfl hp rfl];exact e_q04d
theorem x_q05m:X.fn zaT=some zls:=by kernel_rfl
theorem c_q05m {u0 u1 u2 v0 v1 v2:AV} {h h1:Heap} {P:Post} (hp:z0n h [u0,u1,u2]=some ([v0,v1,v2],h1)):z0c X zaT [u0,u1,u2] h P=zdT (z0c X) X.gl z3l z6j v0 v1 v2 h1 [] (finR [.t 6] false h.length P):=by rw[z0d x_q05m rfl hp rfl];exact e_q05m
theorem x_q04i:X.fn z7n=some zle:=by kernel_rfl
theorem c_q04i {u0 u1 v0 v1:AV} {h h1:Heap} {P:Post} (hp:z0n h [u0,u1]=some ([v0,v1],h1)):z0c X z7n [u0,u1] h P=zap (z0c X) X.gl v0 v1 h1 [] (finR [.t 4] false h.length P):=by rw[z0d x_q04i rfl hp rfl];exact e_q04i
theorem x_q032:X.fn zaD=some zkF:=by kernel_rfl
theorem c_q032 {h h1:Heap} {P:Post} (hp:z0n h []=some ([],h1)):z0c X zaD [] h P=zm6 (z0c X) X.gl  h1 [] (finR [.t 0] false h.length P):=by rw[z0d x_q032 rfl hp rfl];exact e_q032
theorem x_q03s:X.fn z1T=some zkT:=by kernel_rfl
theorem c_q03s {u0 u1 v0 v1:AV} {h h1:Heap} {P:Post} (hp:z0n h [u0,u1]=some ([v0,v1],h1)):z0c X z1T [u0,u1] h P=zmB (z0c X) X.gl v0 v1 h1 [] (finR [.t 4] false h.length P):=by rw[z0d x_q03s rfl hp rfl];exact e_q03s
theorem x_q05q:X.fn zaU=some zlt:=by kernel_rfl
theorem c_q05q {u0 u1 v0 v1:AV} {h h1:Heap} {P:Post} (hp:z0n h [u0,u1]=some ([v0,v1],h1)):z0c X zaU [u0,u1] h P=zdW (z0c X) X.gl z3m z6k v0 v1 h1 [] (finR [.t 4] false h.length P):=by rw[z0d x_q05q rfl hp rfl];exact e_q05q
theorem x_q03j:X.fn z1j=some zkM:=by kernel_rfl
theorem c_q03j {u0 u1 v0 v1:AV} {h h1:Heap} {P:Post} (hp:z0n h [u0,u1]=some ([v0,v1],h1)):z0c X z1j [u0,u1] h P=zm8 (z0c X) X.gl v0 v1 h1 [] (finR [.t 4] false h.length P):=by rw[z0d x_q03j rfl hp rfl];exact e_q03j
theorem x_q03f:X.fn z2l=some zkI:=by kernel_rfl
theorem c_q03f {u0 u1 v0 v1:AV} {h h1:Heap} {P:Post} (hp:z0n h [u0,u1]=some ([v0,v1],h1)):z0c X z2l [u0,u1] h P=zm7 (z0c X) X.gl v0 v1 h1 [] (finR [.t 4] false h.length P):=by rw[z0d x_q03f rfl hp rfl];exact e_q03f
theorem x_q03i:X.fn z7h=some zkL:=by kernel_rfl
theorem zuw {u0 u1 u2 v0 v1 v2:AV} {h h1:Heap} {P:Post} (hp:z0n h [u0,u1,u2]=some ([v0,v1,v2],h1)):z0c X z7h [u0,u1,u2] h P=zgM (z0c X) X.gl v0 v1 v2 h1 [] (finR [.t 6] false h.length P):=by rw[z0d x_q03i rfl hp rfl];exact e_q03i
theorem x_q03h:X.fn z1c=some zkK:=by kernel_rfl
theorem c_q03h {u0 u1 v0 v1:AV} {h h1:Heap} {P:Post} (hp:z0n h [u0,u1]=some ([v0,v1],h1)):z0c X z1c [u0,u1] h P=zgL (z0c X) X.gl v0 v1 h1 [] (finR [.t 4] false h.length P):=by rw[z0d x_q03h rfl hp rfl];exact e_q03h
theorem x_q063:X.fn zaX=some zlx:=by kernel_rfl
theorem c_q063 {u0 u1 h P}:z0c X zaX [u0,u1] h P=zmK (z0c X) X.gl u0 u1 h [] (finR [] false h.length P):=by rw[z1Z x_q063 rfl rfl];exact e_q063
theorem x_q03n:X.fn z7i=some zkQ:=by kernel_rfl
theorem c_q03n {u0 u1 v0 v1:AV} {h h1:Heap} {P:Post} (hp:z0n h [u0,u1]=some ([v0,v1],h1)):z0c X z7i [u0,u1] h P=zmA (z0c X) X.gl v0 v1 h1 [] (finR [.t 4] false h.length P):=by rw[z0d x_q03n rfl hp rfl];exact e_q03n
theorem x_q00u:X.fn z7b=some zki:=by kernel_rfl
theorem c_q00u {u0 v0:AV} {h h1:Heap} {P:Post} (hp:z0n h [u0]=some ([v0],h1)):z0c X z7b [u0] h P=zg7 (z0c X) X.gl z2Q z5M v0 h1 [] (finR [.t 2] false h.length P):=by rw[z0d x_q00u rfl hp rfl];exact e_q00u
theorem x_q00s:X.fn z7a=some zkh:=by kernel_rfl
theorem c_q00s {u0 u1 v0 v1:AV} {h h1:Heap} {P:Post} (hp:z0n h [u0,u1]=some ([v0,v1],h1)):z0c X z7a [u0,u1] h P=zcX (z0c X) X.gl v0 v1 h1 [] (finR [.t 4] false h.length P):=by rw[z0d x_q00s rfl hp rfl];exact e_q00s
theorem x_q091:X.fn z4S=some zl5:=by kernel_rfl
theorem c_q091 {u0 u1 v0 v1:AV} {h h1:Heap} {P:Post} (hp:z0n h [u0,u1]=some ([v0,v1],h1)):z0c X z4S [u0,u1] h P=zmO (z0c X) X.gl v0 v1 h1 [] (finR [.t 4] false h.length P):=by rw[z0d x_q091 rfl hp rfl];exact e_q091
theorem x_q05d:X.fn zaS=some zlp:=by kernel_rfl
theorem c_q05d {u0 u1 h P}:z0c X zaS [u0,u1] h P=zdO (z0c X) X.gl z3k z6i u0 u1 h [] (finR [.t 4] false h.length P):=by rw[z1Z x_q05d rfl rfl];exact e_q05d
theorem x_q03o:X.fn z7j=some zkR:=by kernel_rfl
theorem c_q03o {u0 u1 v0 v1:AV} {h h1:Heap} {P:Post} (hp:z0n h [u0,u1]=some ([v0,v1],h1)):z0c X z7j [u0,u1] h P=zgN (z0c X) X.gl v0 v1 h1 [] (finR [.t 4] false h.length P):=by rw[z0d x_q03o rfl hp rfl];exact e_q03o
theorem x_q044:X.fn z4P=some zkV:=by kernel_rfl
theorem c_q044 {u0 v0:AV} {h h1:Heap} {P:Post} (hp:z0n h [u0]=some ([v0],h1)):z0c X z4P [u0] h P=zak (z0c X) X.gl z3c z6a v0 h1 [] (finR [.t 2] false h.length P):=by rw[z0d x_q044 rfl hp rfl];exact e_q044
theorem x_q03r:X.fn z7k=some zkS:=by kernel_rfl
theorem zuy {u0 u1 u2 v0 v1 v2:AV} {h h1:Heap} {P:Post} (hp:z0n h [u0,u1,u2]=some ([v0,v1,v2],h1)):z0c X z7k [u0,u1,u2] h P=zd8 (z0c X) X.gl z3b z5Z v0 v1 v2 h1 [] (finR [.t 6] false h.length P):=by rw[z0d x_q03r rfl hp rfl];exact e_q03r
theorem x_q03b:X.fn zaE=some zkH:=by kernel_rfl
theorem c_q03b {u0 u1 u2 v0 v1 v2:AV} {h h1:Heap} {P:Post} (hp:z0n h [u0,u1,u2]=some ([v0,v1,v2],h1)):z0c X zaE [u0,u1,u2] h P=zgK (z0c X) X.gl v0 v1 v2 h1 [] (finR [.t 6] false h.length P):=by rw[z0d x_q03b rfl hp rfl];exact e_q03b
theorem x_q022:X.fn za1=some zkw:=by kernel_rfl
theorem c_q022 {u0 u1 v0 v1:AV} {h h1:Heap} {P:Post} (hp:z0n h [u0,u1]=some ([v0,v1],h1)):z0c X za1 [u0,u1] h P=zgF (z0c X) X.gl v0 v1 h1 [] (finR [.t 4] false h.length P):=by rw[z0d x_q022 rfl hp rfl];exact e_q022
theorem x_q08y:X.fn z5B=some zl3:=by kernel_rfl
theorem c_q08y {u0 u1 v0 v1:AV} {h h1:Heap} {P:Post} (hp:z0n h [u0,u1]=some ([v0,v1],h1)):z0c X z5B [u0,u1] h P=zmN (z0c X) X.gl v0 v1 h1 [] (finR [.t 4,.t 5] false h.length P):=by rw[z0d x_q08y rfl hp rfl];exact e_q08y
theorem x_q08x:X.fn z8O=some zl2:=by kernel_rfl
theorem c_q08x {u0 u1 v0 v1:AV} {h h1:Heap} {P:Post} (hp:z0n h [u0,u1]=some ([v0,v1],h1)):z0c X z8O [u0,u1] h P=zmM (z0c X) X.gl v0 v1 h1 [] (finR [.t 4] false h.length P):=by rw[z0d x_q08x rfl hp rfl];exact e_q08x
theorem x_q08v:X.fn z8N=some zl0:=by kernel_rfl
theorem c_q08v {u0 v0:AV} {h h1:Heap} {P:Post} (hp:z0n h [u0]=some ([v0],h1)):z0c X z8N [u0] h P=zmL (z0c X) X.gl v0 h1 [] (finR [.t 2] false h.length P):=by rw[z0d x_q08v rfl hp rfl];exact e_q08v
theorem x_q08w:X.fn zaZ=some zl1:=by kernel_rfl
theorem c_q08w {u0 v0:AV} {h h1:Heap} {P:Post} (hp:z0n h [u0]=some ([v0],h1)):z0c X zaZ [u0] h P=zha (z0c X) X.gl v0 h1 [] (finR [.t 2] false h.length P):=by rw[z0d x_q08w rfl hp rfl];exact e_q08w
theorem x_q052:X.fn zaP=some zll:=by kernel_rfl
theorem c_q052 {u0 u1 v0 v1:AV} {h h1:Heap} {P:Post} (hp:z0n h [u0,u1]=some ([v0,v1],h1)):z0c X zaP [u0,u1] h P=z3P (z0c X) X.gl v0 v1 h1 [] (finR [.t 4] false h.length P):=by rw[z0d x_q052 rfl hp rfl];exact e_q052
theorem x_q054:X.fn zaQ=some zln:=by kernel_rfl
theorem c_q054 {u0 u1 v0 v1:AV} {h h1:Heap} {P:Post} (hp:z0n h [u0,u1]=some ([v0,v1],h1)):z0c X zaQ [u0,u1] h P=zgU (z0c X) X.gl v0 v1 h1 [] (finR [.t 4] false h.length P):=by rw[z0d x_q054 rfl hp rfl];exact e_q054
theorem x_q049:X.fn zaJ=some zkZ:=by kernel_rfl
theorem c_q049 {u0 v0:AV} {h h1:Heap} {P:Post} (hp:z0n h [u0]=some ([v0],h1)):z0c X zaJ [u0] h P=zgP (z0c X) X.gl z3e z6c v0 h1 [] (finR [.t 2] false h.length P):=by rw[z0d x_q049 rfl hp rfl];exact e_q049
theorem x_q021:X.fn z7e=some zkv:=by kernel_rfl
theorem c_q021 {u0 v0:AV} {h h1:Heap} {P:Post} (hp:z0n h [u0]=some ([v0],h1)):z0c X z7e [u0] h P=zaf (z0c X) X.gl z2U z5Q v0 h1 [] (finR [.t 2] false h.length P):=by rw[z0d x_q021 rfl hp rfl];exact e_q021
theorem x_q001:X.fn zar=some zjY:=by kernel_rfl
theorem c_q001 {u0 u1 v0 v1:AV} {h h1:Heap} {P:Post} (hp:z0n h [u0,u1]=some ([v0,v1],h1)):z0c X zar [u0,u1] h P=zg3 (z0c X) X.gl z2M z5H v0 v1 h1 [] (finR [.t 4,.t 5] false h.length P):=by rw[z0d x_q001 rfl hp rfl];exact e_q001
theorem x_q024:X.fn z8F=some zky:=by kernel_rfl
theorem c_q024 {u0 u1 v0 v1:AV} {h h1:Heap} {P:Post} (hp:z0n h [u0,u1]=some ([v0,v1],h1)):z0c X z8F [u0,u1] h P=zmy (z0c X) X.gl v0 v1 h1 [] (finR [.t 3] false h.length P):=by rw[z0d x_q024 rfl hp rfl];exact e_q024
theorem x_q02e:X.fn za9=some zk8:=by kernel_rfl
theorem c_q02e {u0 v0:AV} {h h1:Heap} {P:Post} (hp:z0n h [u0]=some ([v0],h1)):z0c X za9 [u0] h P=zai (z0c X) X.gl v0 h1 [] (finR [.cell 2 (some 4),.t 3] false h.length P):=by rw[z0d x_q02e rfl hp rfl];exact e_q02e
theorem zuS:X.fn z59=some zgt:=by kernel_rfl
theorem c_q02h {u0 u1 v0 v1:AV} {h h1:Heap} {P:Post} (hp:z0n h [u0,u1]=some ([v0,v1],h1)):z0c X z59 [u0,u1] h P=zdp (z0c X) X.gl z2X z5T v0 v1 h1 [] (finR [.t 4] false h.length P):=by rw[z0d zuS rfl hp rfl];exact e_q02h
theorem x_q045:X.fn zaH=some zkW:=by kernel_rfl
theorem c_q045 {u0 u1 v0 v1:AV} {h h1:Heap} {P:Post} (hp:z0n h [u0,u1]=some ([v0,v1],h1)):z0c X zaH [u0,u1] h P=zgO (z0c X) X.gl z3d z6b v0 v1 h1 [] (finR [.t 4,.t 5] false h.length P):=by rw[z0d x_q045 rfl hp rfl];exact e_q045
theorem x_q04e:X.fn z8J=some zld:=by kernel_rfl
theorem c_q04e {u0 u1 v0 v1:AV} {h h1:Heap} {P:Post} (hp:z0n h [u0,u1]=some ([v0,v1],h1)):z0c X z8J [u0,u1] h P=zao (z0c X) X.gl v0 v1 h1 [] (finR [.t 3] false h.length P):=by rw[z0d x_q04e rfl hp rfl];exact e_q04e
theorem x_q04p:X.fn zaN=some zlh:=by kernel_rfl
theorem c_q04p {u0 v0:AV} {h h1:Heap} {P:Post} (hp:z0n h [u0]=some ([v0],h1)):z0c X zaN [u0] h P=zmF (z0c X) X.gl v0 h1 [] (finR [.t 2,.t 3] false h.length P):=by rw[z0d x_q04p rfl hp rfl];exact e_q04p
theorem x_q048:X.fn z7l=some zkY:=by kernel_rfl
theorem c_q048 {u0 u1 v0 v1:AV} {h h1:Heap} {P:Post} (hp:z0n h [u0,u1]=some ([v0,v1],h1)):z0c X z7l [u0,u1] h P=zal (z0c X) X.gl v0 v1 h1 [] (finR [.t 4,.t 5] false h.length P):=by rw[z0d x_q048 rfl hp rfl];exact e_q048
theorem x_q04a:X.fn zaK=some zla:=by kernel_rfl
theorem c_q04a {u0 u1 v0 v1:AV} {h h1:Heap} {P:Post} (hp:z0n h [u0,u1]=some ([v0,v1],h1)):z0c X zaK [u0,u1] h P=zgQ (z0c X) X.gl z3f z6d v0 v1 h1 [] (finR [.t 4,.t 5] false h.length P):=by rw[z0d x_q04a rfl hp rfl];exact e_q04a
theorem x_q025:X.fn za3=some zkz:=by kernel_rfl
theorem c_q025 {u0 v0:AV} {h h1:Heap} {P:Post} (hp:z0n h [u0]=some ([v0],h1)):z0c X za3 [u0] h P=zgG (z0c X) X.gl v0 h1 [] (finR [.cell 2 (some 2),.cell 3 (some 2),.t 4] false h.length P):=by rw[z0d x_q025 rfl hp rfl];exact e_q025
theorem x_q005:X.fn z4M=some zkb:=by kernel_rfl
theorem c_q005 {u0 v0:AV} {h h1:Heap} {P:Post} (hp:z0n h [u0]=some ([v0],h1)):z0c X z4M [u0] h P=z6U (z0c X) X.gl z2O z5J v0 h1 [] (finR [.t 2] false h.length P):=by rw[z0d x_q005 rfl hp rfl];exact e_q005
theorem x_q046:X.fn zaI=some zkX:=by kernel_rfl
theorem c_q046 {u0 v0:AV} {h h1:Heap} {P:Post} (hp:z0n h [u0]=some ([v0],h1)):z0c X zaI [u0] h P=zmC (z0c X) X.gl v0 h1 [] (finR [.t 2] false h.length P):=by rw[z0d x_q046 rfl hp rfl];exact e_q046
theorem x_q043:X.fn z4O=some zkU:=by kernel_rfl
theorem c_q043 {u0 v0:AV} {h h1:Heap} {P:Post} (hp:z0n h [u0]=some ([v0],h1)):z0c X z4O [u0] h P=zaj (z0c X) X.gl v0 h1 [] (finR [.t 2] false h.length P):=by rw[z0d x_q043 rfl hp rfl];exact e_q043
theorem x_q05k:X.fn z7o=some zlr:=by kernel_rfl
theorem c_q05k {u0 u1 h P}:z0c X z7o [u0,u1] h P=zmJ (z0c X) X.gl u0 u1 h [] (finR [.t 4] false h.length P):=by rw[z1Z x_q05k rfl rfl];exact e_q05k
theorem x_q057:X.fn zaR=some zlo:=by kernel_rfl
theorem c_q057 {u0 v0:AV} {h h1:Heap} {P:Post} (hp:z0n h [u0]=some ([v0],h1)):z0c X zaR [u0] h P=zdN (z0c X) X.gl v0 h1 [] (finR [.t 2] false h.length P):=by rw[z0d x_q057 rfl hp rfl];exact e_q057
theorem x_q039:X.fn z4N=some zkG:=by kernel_rfl
theorem c_q039 {u0 u1 v0 v1:AV} {h h1:Heap} {P:Post} (hp:z0n h [u0,u1]=some ([v0,v1],h1)):z0c X z4N [u0,u1] h P=zgJ (z0c X) X.gl z5W v0 v1 h1 [] (finR [.t 4] false h.length P):=by rw[z0d x_q039 rfl hp rfl];exact e_q039
theorem x_q07h:X.fn zaY=some zlz:=by kernel_rfl
theorem c_q07h {u0 u1 u2 h P}:z0c X zaY [u0,u1,u2] h P=zgZ (z0c X) X.gl z3r z6o u0 u1 u2 h [] (finR [] false h.length P):=by rw[z1Z x_q07h rfl rfl];exact e_q07h
theorem x_q00v:X.fn z7c=some zkj:=by kernel_rfl
theorem c_q00v {u0 v0:AV} {h h1:Heap} {P:Post} (hp:z0n h [u0]=some ([v0],h1)):z0c X z7c [u0] h P=zmu (z0c X) X.gl v0 h1 [] (finR [.t 2] false h.length P):=by rw[z0d x_q00v rfl hp rfl];exact e_q00v
theorem x_q01b:X.fn zaw=some zkk:=by kernel_rfl
theorem c_q01b {u0 u1 v0 v1:AV} {h h1:Heap} {P:Post} (hp:z0n h [u0,u1]=some ([v0,v1],h1)):z0c X zaw [u0,u1] h P=zmv (z0c X) X.gl v0 v1 h1 [] (finR [.t 4] false h.length P):=by rw[z0d x_q01b rfl hp rfl];exact e_q01b
theorem x_q04k:X.fn zaM=some zlf:=by kernel_rfl
theorem c_q04k {u0 u1 v0 v1:AV} {h h1:Heap} {P:Post} (hp:z0n h [u0,u1]=some ([v0,v1],h1)):z0c X zaM [u0,u1] h P=zmD (z0c X) X.gl v0 v1 h1 [] (finR [.t 4] false h.length P):=by rw[z0d x_q04k rfl hp rfl];exact e_q04k
theorem x_q050:X.fn z18=some zlj:=by kernel_rfl
theorem c_q050 {u0 u1 u2 v0 v1 v2:AV} {h h1:Heap} {P:Post} (hp:z0n h [u0,u1,u2]=some ([v0,v1,v2],h1)):z0c X z18 [u0,u1,u2] h P=zmG (z0c X) X.gl v0 v1 v2 h1 [] (finR [.t 6] false h.length P):=by rw[z0d x_q050 rfl hp rfl];exact e_q050
theorem x_q08z:X.fn z7r=some zl4:=by kernel_rfl
theorem c_q08z {u0 v0:AV} {h h1:Heap} {P:Post} (hp:z0n h [u0]=some ([v0],h1)):z0c X z7r [u0] h P=zhb (z0c X) X.gl v0 h1 [] (finR [] false h.length P):=by rw[z0d x_q08z rfl hp rfl];exact e_q08z
theorem x_q05i:X.fn z4R=some zlq:=by kernel_rfl
theorem c_q05i {u0 u1 h P}:z0c X z4R [u0,u1] h P=zmI (z0c X) X.gl u0 u1 h [] (finR [.t 4] false h.length P):=by rw[z1Z x_q05i rfl rfl];exact e_q05i
theorem x_q053:X.fn z8L=some zlm:=by kernel_rfl
theorem c_q053 {u0 v0:AV} {h h1:Heap} {P:Post} (hp:z0n h [u0]=some ([v0],h1)):z0c X z8L [u0] h P=zmH (z0c X) X.gl v0 h1 [] (finR [.t 2] false h.length P):=by rw[z0d x_q053 rfl hp rfl];exact e_q053
theorem x_q04t:X.fn zaO=some zli:=by kernel_rfl
theorem c_q04t {u0 u1 v0 v1:AV} {h h1:Heap} {P:Post} (hp:z0n h [u0,u1]=some ([v0,v1],h1)):z0c X zaO [u0,u1] h P=zgS (z0c X) X.gl z3i z6g v0 v1 h1 [] (finR [.t 4] false h.length P):=by rw[z0d x_q04t rfl hp rfl];exact e_q04t
theorem x_q02a:X.fn za8=some zk4:=by kernel_rfl
theorem c_q02a {u0 u1 v0 v1:AV} {h h1:Heap} {P:Post} (hp:z0n h [u0,u1]=some ([v0,v1],h1)):z0c X za8 [u0,u1] h P=zm0 (z0c X) X.gl v0 v1 h1 [] (finR [.t 4] false h.length P):=by rw[z0d x_q02a rfl hp rfl];exact e_q02a
theorem x_q00a:X.fn z2k=some zkg:=by kernel_rfl
theorem c_q00a {u0 u1 u2 v0 v1 v2:AV} {h h1:Heap} {P:Post} (hp:z0n h [u0,u1,u2]=some ([v0,v1,v2],h1)):z0c X z2k [u0,u1,u2] h P=zmt (z0c X) X.gl v0 v1 v2 h1 [] (finR [.t 6] false h.length P):=by rw[z0d x_q00a rfl hp rfl];exact e_q00a
theorem x_q006:X.fn zat=some zkc:=by kernel_rfl
theorem c_q006 {u0 v0:AV} {h h1:Heap} {P:Post} (hp:z0n h [u0]=some ([v0],h1)):z0c X zat [u0] h P=zg5 (z0c X) X.gl v0 h1 [] (finR [.t 2,.t 3] false h.length P):=by rw[z0d x_q006 rfl hp rfl];exact e_q006
theorem x_q09a:X.fn z4T=some zlA:=by kernel_rfl
theorem c_q09a {u0 u1 v0 v1:AV} {h h1:Heap} {P:Post} (hp:z0n h [u0,u1]=some ([v0,v1],h1)):z0c X z4T [u0,u1] h P=zmS (z0c X) X.gl v0 v1 h1 [] (finR [.t 4] false h.length P):=by rw[z0d x_q09a rfl hp rfl];exact e_q09a
theorem x_q008:X.fn z6Z=some zke:=by kernel_rfl
theorem c_q008 {u0 u1 v0 v1:AV} {h h1:Heap} {P:Post} (hp:z0n h [u0,u1]=some ([v0,v1],h1)):z0c X z6Z [u0,u1] h P=z5y (z0c X) X.gl z2r z5K v0 v1 h1 [] (finR [.t 4,.t 5] false h.length P):=by rw[z0d x_q008 rfl hp rfl];exact e_q008
theorem x_q009:X.fn zav=some zkf:=by kernel_rfl
theorem c_q009 {u0 u1 v0 v1:AV} {h h1:Heap} {P:Post} (hp:z0n h [u0,u1]=some ([v0,v1],h1)):z0c X zav [u0,u1] h P=zg6 (z0c X) X.gl z2P z5L v0 v1 h1 [] (finR [.t 4,.t 5] false h.length P):=by rw[z0d x_q009 rfl hp rfl];exact e_q009
theorem x_q02f:X.fn zaA=some zk9:=by kernel_rfl
theorem c_q02f {u0 u1 v0 v1:AV} {h h1:Heap} {P:Post} (hp:z0n h [u0,u1]=some ([v0,v1],h1)):z0c X zaA [u0,u1] h P=z6V (z0c X) X.gl v0 v1 h1 [] (finR [.t 4] false h.length P):=by rw[z0d x_q02f rfl hp rfl];exact e_q02f
theorem x_q027:X.fn za5=some zk1:=by kernel_rfl
theorem c_q027 {u0 u1 v0 v1:AV} {h h1:Heap} {P:Post} (hp:z0n h [u0,u1]=some ([v0,v1],h1)):z0c X za5 [u0,u1] h P=zmz (z0c X) X.gl v0 v1 h1 [] (finR [.t 4] false h.length P):=by rw[z0d x_q027 rfl hp rfl];exact e_q027
theorem x_q094:X.fn z8P=some zl6:=by kernel_rfl
theorem zuz {u0 u1 v0 v1:AV} {h h1:Heap} {P:Post} (hp:z0n h [u0,u1]=some ([v0,v1],h1)):z0c X z8P [u0,u1] h P=zhc (z0c X) X.gl v0 v1 h1 [] (finR [.t 4,.t 5,.t 6] false h.length P):=by rw[z0d x_q094 rfl hp rfl];exact e_q094
theorem x_q09c:X.fn z7s=some zlB:=by kernel_rfl
theorem c_q09c {u0 u1 v0 v1:AV} {h h1:Heap} {P:Post} (hp:z0n h [u0,u1]=some ([v0,v1],h1)):z0c X z7s [u0,u1] h P=zmT (z0c X) X.gl v0 v1 h1 [] (finR [.t 4] false h.length P):=by rw[z0d x_q09c rfl hp rfl];exact e_q09c
theorem x_q051:X.fn z4Q=some zlk:=by kernel_rfl
theorem c_q051 {u0 u1 v0 v1:AV} {h h1:Heap} {P:Post} (hp:z0n h [u0,u1]=some ([v0,v1],h1)):z0c X z4Q [u0,u1] h P=zgT (z0c X) X.gl z3j z6h v0 v1 h1 [] (finR [.t 4] false h.length P):=by rw[z0d x_q051 rfl hp rfl];exact e_q051
theorem x_q02j:X.fn zaC=some zkC:=by kernel_rfl
theorem c_q02j {u0 u1 v0 v1:AV} {h h1:Heap} {P:Post} (hp:z0n h [u0,u1]=some ([v0,v1],h1)):z0c X zaC [u0,u1] h P=zdu (z0c X) X.gl v0 v1 h1 [] (finR [.t 4] false h.length P):=by rw[z0d x_q02j rfl hp rfl];exact e_q02j
theorem x_q02i:X.fn zaB=some zkB:=by kernel_rfl
theorem c_q02i {u0 v0:AV} {h h1:Heap} {P:Post} (hp:z0n h [u0]=some ([v0],h1)):z0c X zaB [u0] h P=zgI (z0c X) X.gl z2Y z5U v0 h1 [] (finR [.t 2,.t 3] false h.length P):=by rw[z0d x_q02i rfl hp rfl];exact e_q02i
theorem x_q003:X.fn z6Y=some zjZ:=by kernel_rfl
theorem c_q003 {u0 u1 v0 v1:AV} {h h1:Heap} {P:Post} (hp:z0n h [u0,u1]=some ([v0,v1],h1)):z0c X z6Y [u0,u1] h P=zmr (z0c X) X.gl v0 v1 h1 [] (finR [.cell 4 (some 2)] false h.length P):=by rw[z0d x_q003 rfl hp rfl];exact e_q003
theorem x_q05z:X.fn zaW=some zlw:=by kernel_rfl
theorem c_q05z {u0 u1 h P}:z0c X zaW [u0,u1] h P=zgX (z0c X) X.gl z3p z6n u0 u1 h [] (finR [.t 4] false h.length P):=by rw[z1Z x_q05z rfl rfl];exact e_q05z
theorem x_q06i:X.fn z7q=some zly:=by kernel_rfl
theorem c_q06i {u0 u1 u2 u3 h P}:z0c X z7q [u0,u1,u2,u3] h P=zgY (z0c X) X.gl z3q u0 u1 u2 u3 h [] (finR [] false h.length P):=by rw[z1Z x_q06i rfl rfl];exact e_q06i
theorem x_q05v:X.fn z7p=some zlu:=by kernel_rfl
theorem c_q05v {u0 u1 h P}:z0c X z7p [u0,u1] h P=zgV (z0c X) X.gl z3n z6l u0 u1 h [] (finR [.t 4] false h.length P):=by rw[z1Z x_q05v rfl rfl];exact e_q05v
theorem x_q04l:X.fn z8K=some zlg:=by kernel_rfl
theorem c_q04l {u0 u1 v0 v1:AV} {h h1:Heap} {P:Post} (hp:z0n h [u0,u1]=some ([v0,v1],h1)):z0c X z8K [u0,u1] h P=zmE (z0c X) X.gl v0 v1 h1 [] (finR [.t 3] false h.length P):=by rw[z0d x_q04l rfl hp rfl];exact e_q04l
theorem x_q05w:X.fn zaV=some zlv:=by kernel_rfl
theorem c_q05w {u0 u1 h P}:z0c X zaV [u0,u1] h P=zgW (z0c X) X.gl z3o z6m u0 u1 h [] (finR [.t 4] false h.length P):=by rw[z1Z x_q05w rfl rfl];exact e_q05w
theorem x_q02b:X.fn z8G=some zk5:=by kernel_rfl
theorem c_q02b {u0 u1 v0 v1:AV} {h h1:Heap} {P:Post} (hp:z0n h [u0,u1]=some ([v0,v1],h1)):z0c X z8G [u0,u1] h P=zm1 (z0c X) X.gl v0 v1 h1 [] (finR [.t 3] false h.length P):=by rw[z0d x_q02b rfl hp rfl];exact e_q02b
theorem x_q095:X.fn zba=some zl7:=by kernel_rfl
theorem c_q095 {u0 u1 v0 v1:AV} {h h1:Heap} {P:Post} (hp:z0n h [u0,u1]=some ([v0,v1],h1)):z0c X zba [u0,u1] h P=zmP (z0c X) X.gl v0 v1 h1 [] (finR [.t 4,.t 5] false h.length P):=by rw[z0d x_q095 rfl hp rfl];exact e_q095
theorem x_q09f:X.fn zbd=some zlD:=by kernel_rfl
theorem c_q09f {u0 u1 u2 u3 v0 v1 v2 v3:AV} {h h1:Heap} {P:Post} (hp:z0n h [u0,u1,u2,u3]=some ([v0,v1,v2,v3],h1)):z0c X zbd [u0,u1,u2,u3] h P=zhd (z0c X) X.gl z6q v0 v1 v2 v3 h1 [] (finR [.t 8] false h.length P):=by rw[z0d x_q09f rfl hp rfl];exact e_q09f
theorem x_q007:X.fn zau=some zkd:=by kernel_rfl
theorem c_q007 {u0 v0:AV} {h h1:Heap} {P:Post} (hp:z0n h [u0]=some ([v0],h1)):z0c X zau [u0] h P=zms (z0c X) X.gl v0 h1 [] (finR [.t 2] false h.length P):=by rw[z0d x_q007 rfl hp rfl];exact e_q007
theorem x_q02g:X.fn z8H=some zkA:=by kernel_rfl
theorem c_q02g {u0 v0:AV} {h h1:Heap} {P:Post} (hp:z0n h [u0]=some ([v0],h1)):z0c X z8H [u0] h P=zm4 (z0c X) X.gl v0 h1 [] (finR [.t 2] false h.length P):=by rw[z0d x_q02g rfl hp rfl];exact e_q02g
theorem x_q02d:X.fn z7g=some zk7:=by kernel_rfl
theorem c_q02d {u0 v0:AV} {h h1:Heap} {P:Post} (hp:z0n h [u0]=some ([v0],h1)):z0c X z7g [u0] h P=zm3 (z0c X) X.gl v0 h1 [] (finR [.t 2] false h.length P):=by rw[z0d x_q02d rfl hp rfl];exact e_q02d
theorem x_q028:X.fn za6=some zk2:=by kernel_rfl
theorem c_q028 {u0 u1 v0 v1:AV} {h h1:Heap} {P:Post} (hp:z0n h [u0,u1]=some ([v0,v1],h1)):z0c X za6 [u0,u1] h P=zah (z0c X) X.gl z2W z5S v0 v1 h1 [] (finR [.t 4] false h.length P):=by rw[z0d x_q028 rfl hp rfl];exact e_q028
theorem x_q01u:X.fn z8E=some zko:=by kernel_rfl
theorem zuu {u0 u1 v0 v1:AV} {h h1:Heap} {P:Post} (hp:z0n h [u0,u1]=some ([v0,v1],h1)):z0c X z8E [u0,u1] h P=zg8 (z0c X) X.gl v0 v1 h1 [] (finR [.t 4,.t 5,.t 6] false h.length P):=by rw[z0d x_q01u rfl hp rfl];exact e_q01u
theorem x_q020:X.fn za0=some zku:=by kernel_rfl
theorem c_q020 {u0 u1 v0 v1:AV} {h h1:Heap} {P:Post} (hp:z0n h [u0,u1]=some ([v0,v1],h1)):z0c X za0 [u0,u1] h P=zgE (z0c X) X.gl v0 v1 h1 [] (finR [.t 4] false h.length P):=by rw[z0d x_q020 rfl hp rfl];exact e_q020
theorem x_q097:X.fn zbc=some zl9:=by kernel_rfl
theorem c_q097 {u0 u1 v0 v1:AV} {h h1:Heap} {P:Post} (hp:z0n h [u0,u1]=some ([v0,v1],h1)):z0c X zbc [u0,u1] h P=zmR (z0c X) X.gl v0 v1 h1 [] (finR [.t 4] false h.length P):=by rw[z0d x_q097 rfl hp rfl];exact e_q097
theorem x_q02k:X.fn z8I=some zkD:=by kernel_rfl
theorem c_q02k {u0 v0:AV} {h h1:Heap} {P:Post} (hp:z0n h [u0]=some ([v0],h1)):z0c X z8I [u0] h P=zm5 (z0c X) X.gl v0 h1 [] (finR [.t 2] false h.length P):=by rw[z0d x_q02k rfl hp rfl];exact e_q02k
theorem x_q004:X.fn zas=some zka:=by kernel_rfl
theorem c_q004 {u0 u1 v0 v1:AV} {h h1:Heap} {P:Post} (hp:z0n h [u0,u1]=some ([v0,v1],h1)):z0c X zas [u0,u1] h P=zg4 (z0c X) X.gl z2N z5I v0 v1 h1 [] (finR [.t 4] false h.length P):=by rw[z0d x_q004 rfl hp rfl];exact e_q004
theorem x_q01v:X.fn zax=some zkp:=by kernel_rfl
theorem c_q01v {u0 u1 v0 v1:AV} {h h1:Heap} {P:Post} (hp:z0n h [u0,u1]=some ([v0,v1],h1)):z0c X zax [u0,u1] h P=zg9 (z0c X) X.gl v0 v1 h1 [] (finR [.t 4,.t 5] false h.length P):=by rw[z0d x_q01v rfl hp rfl];exact e_q01v
theorem x_q09e:X.fn ze1=some zlC:=by kernel_rfl
theorem c_q09e {u0 u1 v0 v1:AV} {h h1:Heap} {P:Post} (hp:z0n h [u0,u1]=some ([v0,v1],h1)):z0c X ze1 [u0,u1] h P=zmU (z0c X) X.gl z6p v0 v1 h1 [] (finR [.t 4] false h.length P):=by rw[z0d x_q09e rfl hp rfl];exact e_q09e
theorem x_q096:X.fn zbb=some zl8:=by kernel_rfl
theorem c_q096 {u0 u1 v0 v1:AV} {h h1:Heap} {P:Post} (hp:z0n h [u0,u1]=some ([v0,v1],h1)):z0c X zbb [u0,u1] h P=zmQ (z0c X) X.gl v0 v1 h1 [] (finR [.t 4] false h.length P):=by rw[z0d x_q096 rfl hp rfl];exact e_q096
theorem x_q02c:X.fn z7f=some zk6:=by kernel_rfl
theorem c_q02c {u0 u1 v0 v1:AV} {h h1:Heap} {P:Post} (hp:z0n h [u0,u1]=some ([v0,v1],h1)):z0c X z7f [u0,u1] h P=zm2 (z0c X) X.gl v0 v1 h1 [] (finR [.t 4] false h.length P):=by rw[z0d x_q02c rfl hp rfl];exact e_q02c
theorem x_q029:X.fn za7=some zk3:=by kernel_rfl
theorem c_q029 {u0 u1 v0 v1:AV} {h h1:Heap} {P:Post} (hp:z0n h [u0,u1]=some ([v0,v1],h1)):z0c X za7 [u0,u1] h P=zgH (z0c X) X.gl v0 v1 h1 [] (finR [.t 4] false h.length P):=by rw[z0d x_q029 rfl hp rfl];exact e_q029
theorem x_q01y:X.fn z7d=some zks:=by kernel_rfl
theorem c_q01y {u0 u1 v0 v1:AV} {h h1:Heap} {P:Post} (hp:z0n h [u0,u1]=some ([v0,v1],h1)):z0c X z7d [u0,u1] h P=zgC (z0c X) X.gl z2T z5P v0 v1 h1 [] (finR [.t 4] false h.length P):=by rw[z0d x_q01y rfl hp rfl];exact e_q01y
theorem x_q01w:X.fn zay=some zkq:=by kernel_rfl
theorem c_q01w {u0 u1 v0 v1:AV} {h h1:Heap} {P:Post} (hp:z0n h [u0,u1]=some ([v0,v1],h1)):z0c X zay [u0,u1] h P=zgA (z0c X) X.gl v0 v1 h1 [] (finR [.t 4] false h.length P):=by rw[z0d x_q01w rfl hp rfl];exact e_q01w
theorem x_q01z:X.fn z3S=some zkt:=by kernel_rfl
theorem zuv {u0 u1 v0 v1:AV} {h h1:Heap} {P:Post} (hp:z0n h [u0,u1]=some ([v0,v1],h1)):z0c X z3S [u0,u1] h P=zgD (z0c X) X.gl v0 v1 h1 [] (finR [.t 4] false h.length P):=by rw[z0d x_q01z rfl hp rfl];exact e_q01z
theorem x_q01x:X.fn zaz=some zkr:=by kernel_rfl
theorem c_q01x {u0 u1 v0 v1:AV} {h h1:Heap} {P:Post} (hp:z0n h [u0,u1]=some ([v0,v1],h1)):z0c X zaz [u0,u1] h P=zgB (z0c X) X.gl v0 v1 h1 [] (finR [.t 4] false h.length P):=by rw[z0d x_q01x rfl hp rfl];exact e_q01x
theorem x_q09u:X.fn ze2=some zlE:=by kernel_rfl
theorem c_q09u {u0 v0:AV} {h h1:Heap} {P:Post} (hp:z0n h [u0]=some ([v0],h1)):z0c X ze2 [u0] h P=zu2 (z0c X) X.gl v0 h1 [] (finR [.t 2,.t 3] false h.length P):=by rw[z0d x_q09u rfl hp rfl];exact e_q09u
theorem x_q01c:X.fn zey=some zkl:=by kernel_rfl
theorem c_q01c {u0 v0:AV} {h h1:Heap} {P:Post} (hp:z0n h [u0]=some ([v0],h1)):z0c X zey [u0] h P=zu1 (z0c X) X.gl v0 h1 [] (finR [.t 2] false h.length P):=by rw[z0d x_q01c rfl hp rfl];exact e_q01c
theorem x_q01d:X.fn zez=some zkm:=by kernel_rfl
theorem c_q01d {u0 u1 v0 v1:AV} {h h1:Heap} {P:Post} (hp:z0n h [u0,u1]=some ([v0,v1],h1)):z0c X zez [u0,u1] h P=zmw (z0c X) X.gl z2R z5N v0 v1 h1 [] (finR [.t 4] false h.length P):=by rw[z0d x_q01d rfl hp rfl];exact e_q01d
theorem x_q09y:X.fn ze3=some zlF:=by kernel_rfl
theorem c_q09y {u0 v0:AV} {h h1:Heap} {P:Post} (hp:z0n h [u0]=some ([v0],h1)):z0c X ze3 [u0] h P=zu3 (z0c X) X.gl v0 h1 [] (finR [.t 2,.t 3] false h.length P):=by rw[z0d x_q09y rfl hp rfl];exact e_q09y
theorem x_q01e:X.fn ze0=some zkn:=by kernel_rfl
theorem c_q01e {u0 v0:AV} {h h1:Heap} {P:Post} (hp:z0n h [u0]=some ([v0],h1)):z0c X ze0 [u0] h P=zmx (z0c X) X.gl z2S z5O v0 h1 [] (finR [.t 2,.t 3] false h.length P):=by rw[z0d x_q01e rfl hp rfl];exact e_q01e
attribute [go_sem] z55 z3O znH zdy znK znL znM znN znO znP znQ znR zp2 zp3 zd3 zd4 z8o zd5 z1b zd6 z8p zd7 znI znJ z56 zp1 zd0 zd1 z50 zn8 z86 z87 zn9 z88 zpw zpx zdm z8k z8l z8m
attribute [go_sem] z8n zoa zob zpA zdH zdI znZ z8C zp9 zdG z8t zom zon zpF zdU zdV zoo zop zpG zdX zdY znr zns zpp zcY zcZ zog zoh zoi zoj zok zol zpD zpE zdP z8u zdQ zdR z8v zdS
attribute [go_sem] znU znV zp5 zdB zdC znS znT zp4 zd9 zdA znX z8A zp7 zdE z8r zn6 zn7 zpv zdj zdk znk z83 zpk zcQ z8e znC znD zpz zdq zdr znW z89 zp6 zdD z8q znY z8B zp8 zdF z8s
attribute [go_sem] znn zno zpm zcT zcU znG zdw zoz zo0 zo1 zo2 zo3 zo4 zpM zpN zpO zei zej zek z8x z8y z8z zoc zod zpB zdJ zdK znp z54 zpn zcV z5z znq z84 zpo zcW z8f zoe zof zpC
attribute [go_sem] zdL zdM znE znF zp0 zds zdt zou zov zpJ zee zef zow zox zoy zpK zpL zeg zeh z8w zoq zor zpH zdZ zea zos zot zpI zeb zec zo9 zoA z8D zpQ zen zeo z52 znA znB zpy
attribute [go_sem] zdn zdo znl znm zpl zcR zcS zo5 zo6 zo7 zo8 zpP zel zem z81 z82 zn3 zn4 zn5 zpu zdh z8j zdi znt znu znv znw zpq zpr zda zdb zdc z8g znx zny znz zn0 zn1 zn2 zps
attribute [go_sem] zpt zdd zde zdf z8h zdg z8i
end Go.Am
end
section
/- The stream of numbers out of which the laws draw. -/
open Go
namespace Go.Am
abbrev eI (n:Int):PV:=.int .i64 n
abbrev AL (l:List Int):AV:=.p (.sl none (l.map eI))
abbrev strm (L:List Int) (a:Int):Obj:=.box [AL L,AI a]
def zcJ (x n:Int):Int:=if n<1 then 0 else if x.tmod n<0 then IntKind.i64.wrap (x.tmod n+n) else x.tmod n
theorem zqF (x n:Int) (h:Heap) (K:Post):z0c X z4N [AI x,AI n] h K=K (AI (zcJ x n)) h []:=by
 refine rule ?_
 rw[c_q039 rfl]
 simp only[zgJ,go_sem]
 unfold zcJ
 by_cases h1:n<1
 ·simp only[h1,if_true]
 ·simp only[h1,if_false,show ¬ n=0 by omega]
  split <;> rfl
theorem zr8 (x n:Int) (h1:1≤n) (h2:n≤4611686018427387904):0≤zcJ x n∧zcJ x n<n:=by
 unfold zcJ
 rw[if_neg (by omega)]
 have:=Int.tmod_lt_of_pos x (show 0<n by omega)
 have h3 : -n<x.tmod n:=by
  have:=Int.lt_tmod_of_pos x (show 0<n by omega)
  exact this
 split
 ·rw[z0h _ (by omega) (by omega)];omega
 ·omega
def z1l (L:List Int) (a n:Int):Int:=
 if L.length=0 then zcJ (IntKind.i64.wrap ((a+1)*7919)) n
 else zcJ (IntKind.i64.wrap (zcJ (L.getD (a.tmod L.length).toNat 0) 1073741824+IntKind.i64.wrap (IntKind.i64.wrap (a.tdiv L.length)*IntKind.i64.wrap (7919+a.tmod L.length)))) n
theorem z1N (L:List Int) (a n:Int) (h1:1≤n) (h2:n≤4611686018427387904):0≤z1l L a n∧z1l L a n<n:=by
 unfold z1l
 split <;> exact zr8 _ _ h1 h2
theorem z3E {h:Heap} {id:Nat} {o':Obj} (hid:id<h.length):(h.set id o')[id]?=some o':=by simp [hid]
theorem z2n {h:Heap} {id:Nat} {o:Obj} (hh:h[id]?=some o):id<h.length:=(List.getElem?_eq_some_iff.1 hh).1
def posN (n:Nat) (a:Int):Prop:=0≤a∧a+n<4611686018427387904
theorem z0K {n m:Nat} {a b:Int} (H:posN m a) (h:a≤b) (hn:b+n≤a+m):posN n b:=by unfold posN at *;omega
theorem z6t {a:Int} (H:posN 14 a):posN 0 (a)∧posN 0 (a+1)∧posN 0 (a+1+1)∧posN 0 (a+1+1+1)∧posN 0 (a+1+1+1+1)∧posN 0 (a+1+1+1+1+1)∧posN 0 (a+1+1+1+1+1+1)∧posN 0 (a+1+1+1+1+1+1+1)∧posN 0 (a+1+1+1+1+1+1+1+1)∧posN 0 (a+1+1+1+1+1+1+1+1+1)∧posN 0 (a+1+1+1+1+1+1+1+1+1+1)∧posN 0 (a+1+1+1+1+1+1+1+1+1+1+1)∧posN 0 (a+1+1+1+1+1+1+1+1+1+1+1+1)∧posN 0 (a+1+1+1+1+1+1+1+1+1+1+1+1+1)∧posN 0 (a+1+1+1+1+1+1+1+1+1+1+1+1+1+1):=by
 unfold posN at *;omega
def Gen (f:Nat) (args:List AV) (L:List Int) (a a2:Int) (v:AV):Prop:=∀ (h:Heap) (id:Nat) (K:Post),h[id]?=some (strm L a)→z0c X f (.ref id 0::args) h K=K v (h.set id (strm L a2)) []
section
variable {f:Nat} {args:List AV} {L:List Int} {a a2:Int} {v:AV} {h l:Heap} {id:Nat} {K:Post}
theorem Gen.set (g:Gen f args L a a2 v) (hid:id<h.length):z0c X f (.ref id 0::args) (h.set id (strm L a)) K=K v (h.set id (strm L a2)) []:=by
 rw[g _ _ _ (z3E hid),List.set_set]
theorem Gen.app (g:Gen f args L a a2 v) (hid:id<h.length):z0c X f (.ref id 0::args) (h.set id (strm L a)++l) K=K v (h.set id (strm L a2)++l) []:=by
 rw[g _ _ _ (by rw[zbR (by simpa using hid)];exact z3E hid),zqS (by simpa using hid),List.set_set]
theorem Gen.hd (g:Gen f args L a a2 v):z0c X f (.ref 0 0::args) (strm L a::l) K=K v (strm L a2::l) []:=by
 rw[g _ _ _ rfl];rfl
theorem Gen.of (H:∀ (h:Heap) (id:Nat),id<h.length→z0c X f (.ref id 0::args) (h.set id (strm L a)) fun v1 h1 x1=>v1=v∧h1=h.set id (strm L a2)∧x1=[]):Gen f args L a a2 v:=by
 intro h id K hh
 have hid:=z2n hh
 have:h.set id (strm L a)=h:=by
  apply List.ext_getElem?
  intro i
  rw[List.getElem?_set]
  split
  ·rename_i e;subst e;rw[hh]
  ·rfl
 have k:=H h id hid
 rw[this] at k
 exact rule k
end
def GenE (f:Nat) (args:List AV) (L:List Int) (a:Int) (Q:AV→Int→Prop):Prop:=∀ (h:Heap) (id:Nat),h[id]?=some (strm L a)→∃ v a2,Q v a2∧∀ K:Post,z0c X f (.ref id 0::args) h K=K v (h.set id (strm L a2)) []
section
variable {f:Nat} {args:List AV} {L:List Int} {a:Int} {Q:AV→Int→Prop}
theorem GenE.set (g:GenE f args L a Q) {h:Heap} {id:Nat} (hid:id<h.length):∃ v a2,Q v a2∧∀ K:Post,z0c X f (.ref id 0::args) (h.set id (strm L a)) K=K v (h.set id (strm L a2)) []:=by
 obtain⟨v,a2,q,r⟩:=g _ _ (z3E hid)
 exact⟨v,a2,q,fun K=>by rw[r,List.set_set]⟩
theorem GenE.app (g:GenE f args L a Q) {h l:Heap} {id:Nat} (hid:id<h.length):∃ v a2,Q v a2∧∀ K:Post,z0c X f (.ref id 0::args) (h.set id (strm L a)++l) K=K v (h.set id (strm L a2)++l) []:=by
 obtain⟨v,a2,q,r⟩:=g (h.set id (strm L a)++l) id (by rw[zbR (by simpa using hid)];exact z3E hid)
 exact⟨v,a2,q,fun K=>by rw[r,zqS (by simpa using hid),List.set_set]⟩
theorem GenE.hd (g:GenE f args L a Q) {l:Heap}:∃ v a2,Q v a2∧∀ K:Post,z0c X f (.ref 0 0::args) (strm L a::l) K=K v (strm L a2::l) []:=g (strm L a::l) 0 rfl
theorem GenE.of (H:∀ (h:Heap) (id:Nat),id<h.length→z0c X f (.ref id 0::args) (h.set id (strm L a)) fun v1 h1 x1=>∃ a2,Q v1 a2∧h1=h.set id (strm L a2)∧x1=[]):GenE f args L a Q:=by
 intro h id hh
 have hid:=z2n hh
 have:h.set id (strm L a)=h:=by
  apply List.ext_getElem?
  intro i
  rw[List.getElem?_set]
  split
  ·rename_i e;subst e;rw[hh]
  ·rfl
 have k:=H h id hid
 rw[this] at k
 obtain⟨v,h',x,⟨a2,q,e1,e2⟩,r⟩:=z0c.one zgs k
 subst e1;subst e2
 exact⟨v,a2,q,r⟩
end
def z16 (l:List Int) (L:List Int) (a:Int):Int:=l.getD (z1l L a l.length).toNat 0
theorem z6r {l L:List Int} {a:Int} (hl:0<l.length) (hl2:l.length<4611686018427387904):z16 l L a∈l:=by
 obtain⟨b1,b2⟩:=z1N L a l.length (by omega) (by omega)
 unfold z16
 have:(z1l L a l.length).toNat<l.length:=by omega
 simp only[List.getD,List.getElem?_eq_getElem this,Option.getD_some]
 exact List.getElem_mem _
def isI:PV→Bool
 | .int .i64 _=>true
 | _=>false
def unI:PV→Int
 | .int _ n=>n
 | _=>0
theorem zxq {xs:List PV} (h:xs.all isI=true):xs=(xs.map unI).map eI:=by
 induction xs with
 | nil=>rfl
 | cons x r ih=>
  simp only[List.all_cons,Bool.and_eq_true] at h
  simp only[List.map_cons]
  rw[← ih h.2]
  cases x with
  | int k n=>cases k <;> first | rfl | cases h.1
  | _=>cases h.1
set_option maxHeartbeats 400000 in
theorem zoV (L:List Int) (a n:Int) (hp:posN 0 a):Gen z1c [AI n] L a (a+1) (AI (z1l L a n)):=by
 refine Gen.of fun h id hid=>?_
 rw[c_q03h rfl]
 obtain⟨h0,h1⟩:=hp
 have w1:IntKind.i64.wrap (a+1)=a+1:=z0h _ (by omega) (by omega)
 have w2:IntKind.i64.wrap (a+1-1)=a:=by rw[z0h _ (by omega) (by omega)];omega
 have hs:∀ o',(h.set id o')[id]?=some o':=fun o'=>z3E hid
 rcases Nat.eq_zero_or_pos L.length with hl | hl
 ·simp only[zgL,go_sem,hs,zqF,hl,w1]
  simp only[z1l,hl,if_true]
 ·have e1:((L.length:Int)=0)=False:=by simp only[eq_iff_iff,iff_false];omega
  have e2:0≤a.tmod L.length:=Int.tmod_nonneg _ h0
  have e3:a.tmod L.length<L.length:=Int.tmod_lt_of_pos _ (by omega)
  have e4:=z8Y (k:=.i64) e2
  have e5:(L.map eI)[(a.tmod L.length).toNat]?=some (eI (L.getD (a.tmod L.length).toNat 0)):=by
   rw[z0C eI (show (a.tmod L.length).toNat<L.length by omega)]
   simp [List.getD,show (a.tmod L.length).toNat<L.length by omega]
  simp only[zgL,go_sem,hs,zqF,e1,w1,w2,e4,e5]
  simp only[z1l,show ¬ L.length=0 by omega,if_false]
section
variable {L:List Int} {a:Int} {h l:Heap} {id:Nat} {K:Post}
theorem z2e (hid:id<h.length) (hp:posN 0 a) (n:Int):z0c X z1c [.ref id 0,AI n] (h.set id (strm L a)) K=K (AI (z1l L a n)) (h.set id (strm L (a+1))) []:=(zoV L a n hp).set hid
theorem zbt (hid:id<h.length) (hp:posN 0 a) (n:Int):z0c X z1c [.ref id 0,AI n] (h.set id (strm L a)++l) K=K (AI (z1l L a n)) (h.set id (strm L (a+1))++l) []:=(zoV L a n hp).app hid
theorem zeS (hp:posN 0 a) (n:Int):z0c X z1c [.ref 0 0,AI n] (strm L a::l) K=K (AI (z1l L a n)) (strm L (a+1)::l) []:=(zoV L a n hp).hd
theorem zoU (hp:posN 0 a) (n:Int):Gen z2l [AI n] L a (a+1) (AB (decide (z1l L a n=0))):=by
 refine Gen.of fun h id hid=>?_
 rw[c_q03f rfl]
 simp only[zm7,go_sem,z2e hid hp]
theorem zbr (hid:id<h.length) (hp:posN 0 a) (n:Int):z0c X z2l [.ref id 0,AI n] (h.set id (strm L a)) K=K (AB (decide (z1l L a n=0))) (h.set id (strm L (a+1))) []:=(zoU hp n).set hid
theorem zbq (hid:id<h.length) (hp:posN 0 a) (n:Int):z0c X z2l [.ref id 0,AI n] (h.set id (strm L a)++l) K=K (AB (decide (z1l L a n=0))) (h.set id (strm L (a+1))++l) []:=(zoU hp n).app hid
theorem zeR (hp:posN 0 a) (n:Int):z0c X z2l [.ref 0 0,AI n] (strm L a::l) K=K (AB (decide (z1l L a n=0))) (strm L (a+1)::l) []:=(zoU hp n).hd
theorem zoW (hp:posN 0 a) (xs:List PV) (hx:xs.all isI=true) (hl:0<xs.length) (hl2:xs.length<4611686018427387904) :
 Gen z1j [.p (.sl none xs)] L a (a+1) (AI (z16 (xs.map unI) L a)):=by
 refine Gen.of fun h id hid=>?_
 rw[c_q03j rfl]
 obtain⟨b1,b2⟩:=z1N L a xs.length (by omega) (by omega)
 have e4:=z8Y (k:=.i64) b1
 have e5:xs[(z1l L a xs.length).toNat]?=some (eI (z16 (xs.map unI) L a)):=by
  have hm:=zxq hx
  generalize hq:xs.map unI=q at *
  subst hm
  simp only[List.length_map] at *
  rw[z0C eI (show (z1l L a q.length).toNat<q.length by omega)]
  simp [z16,List.getD,show (z1l L a q.length).toNat<q.length by omega]
 simp only[zm8,go_sem,z2e hid hp,e4,e5]
theorem zbw (hid:id<h.length) (hp:posN 0 a) {xs:List PV} (hx:xs.all isI=true) (hl:0<xs.length) (hl2:xs.length<4611686018427387904) :
 z0c X z1j [.ref id 0,.p (.sl none xs)] (h.set id (strm L a)) K=K (AI (z16 (xs.map unI) L a)) (h.set id (strm L (a+1))) []:=(zoW hp xs hx hl hl2).set hid
theorem zbv (hid:id<h.length) (hp:posN 0 a) {xs:List PV} (hx:xs.all isI=true) (hl:0<xs.length) (hl2:xs.length<4611686018427387904) :
 z0c X z1j [.ref id 0,.p (.sl none xs)] (h.set id (strm L a)++l) K=K (AI (z16 (xs.map unI) L a)) (h.set id (strm L (a+1))++l) []:=(zoW hp xs hx hl hl2).app hid
theorem zeW (hp:posN 0 a) {xs:List PV} (hx:xs.all isI=true) (hl:0<xs.length) (hl2:xs.length<4611686018427387904) :
 z0c X z1j [.ref 0 0,.p (.sl none xs)] (strm L a::l) K=K (AI (z16 (xs.map unI) L a)) (strm L (a+1)::l) []:=(zoW hp xs hx hl hl2).hd
def z1B (u v:Int) (L:List Int) (a:Int):Int:=u+z1l L a (v-u+1)
theorem z4o {u v:Int} (L:List Int) (a:Int) (h1:u≤v) (h2:v≤u+4611686018427387900):u≤z1B u v L a∧z1B u v L a≤v:=by
 have:=z1N L a (v-u+1) (by omega) (by omega)
 unfold z1B;omega
theorem zfL (hp:posN 0 a) (u v:Int) (huv:u≤v) (hu : -1152921504606846976≤u) (hv:v≤1152921504606846976) :
 Gen z2m [AI u,AI v] L a (a+1) (AI (z1B u v L a)):=by
 refine Gen.of fun h id hid=>?_
 rw[c_q03k rfl]
 obtain⟨b1,b2⟩:=z4o L a huv (by omega)
 have w1:IntKind.i64.wrap (v-u)=v-u:=z0h _ (by omega) (by omega)
 have w2:IntKind.i64.wrap (v-u+1)=v-u+1:=z0h _ (by omega) (by omega)
 have w3:IntKind.i64.wrap (u+z1l L a (v-u+1))=z1B u v L a:=z0h (z1B u v L a) (by omega) (by omega)
 simp only[zm9,go_sem,show ¬ v<u by omega,w1,w2,z2e hid hp,w3]
theorem z96 (hid:id<h.length) (hp:posN 0 a) {u v:Int} (huv:u≤v) (hu : -1152921504606846976≤u) (hv:v≤1152921504606846976) :
 z0c X z2m [.ref id 0,AI u,AI v] (h.set id (strm L a)) K=K (AI (z1B u v L a)) (h.set id (strm L (a+1))) []:=(zfL hp u v huv hu hv).set hid
theorem z95 (hid:id<h.length) (hp:posN 0 a) {u v:Int} (huv:u≤v) (hu : -1152921504606846976≤u) (hv:v≤1152921504606846976) :
 z0c X z2m [.ref id 0,AI u,AI v] (h.set id (strm L a)++l) K=K (AI (z1B u v L a)) (h.set id (strm L (a+1))++l) []:=(zfL hp u v huv hu hv).app hid
theorem zbx (hp:posN 0 a) {u v:Int} (huv:u≤v) (hu : -1152921504606846976≤u) (hv:v≤1152921504606846976) :
 z0c X z2m [.ref 0 0,AI u,AI v] (strm L a::l) K=K (AI (z1B u v L a)) (strm L (a+1)::l) []:=(zfL hp u v huv hu hv).hd
end
attribute [go_sem ↓] z2e zbt zeS zbr zbq zeR zbw zbv zeW z96 z95 zbx
attribute [go_sem] z2e zbt zeS zbr zbq zeR zbw zbv zeW z96 z95 zbx isI unI
end Go.Am
end
section
/- Plain laws of fractions in lowest terms. -/
namespace Go.Am
def low (a b:Int):Int × Int:=(a.tdiv (Int.gcd a b),b.tdiv (Int.gcd a b))
theorem zbQ (a b:Int) (hb:0<b):0<(Int.gcd a b:Int):=by
 have:Int.gcd a b≠0:=by
  intro h
  have:=(Int.gcd_eq_zero_iff.1 h).2
  omega
 omega
theorem zwh (a b:Int):(low a b).1*(Int.gcd a b:Int)=a:=by
 unfold low
 exact Int.tdiv_mul_cancel (Int.gcd_dvd_left ..)
theorem zqa (a b:Int):(low a b).2*(Int.gcd a b:Int)=b:=by
 unfold low
 exact Int.tdiv_mul_cancel (Int.gcd_dvd_right ..)
theorem z8W (a b:Int) (hb:0<b):0<(low a b).2:=by
 have h1:=zqa a b
 have h2:=zbQ a b hb
 rcases Int.lt_trichotomy (low a b).2 0 with h | h | h
 ·have:=Int.mul_neg_of_neg_of_pos h h2;omega
 ·rw[h] at h1;omega
 ·exact h
theorem ziH (a b:Int) (hb:0<b):(low a b).2≤b:=by
 have h1:=zqa a b
 have h2:=zbQ a b hb
 have h3:=z8W a b hb
 have:(low a b).2*1≤(low a b).2*(Int.gcd a b:Int):=Int.mul_le_mul_of_nonneg_left (by omega) (by omega)
 omega
theorem zwg (a b:Int) (hb:0<b):(low a b).1.natAbs≤a.natAbs:=by
 have h1:=zwh a b
 have h2:=zbQ a b hb
 have h3:((low a b).1*(Int.gcd a b:Int)).natAbs=a.natAbs:=by rw[h1]
 rw[Int.natAbs_mul] at h3
 rw[← h3]
 exact Nat.le_mul_of_pos_right _ (by omega)
end Go.Am
end
section
/- Small functions of numbers and of lists of numbers. -/
open Go
namespace Go.Am
variable {h:Heap} {K:Post}
theorem s_Out (n a b:Int):z0c X z2k [AI n,AI a,AI b] h K=K (AB (decide (n<a)||decide (b<n))) h []:=by
 refine rule ?_
 rw[c_q00a rfl]
 by_cases h1:n<a <;> simp only[zmt,go_sem,h1]
theorem s_in (n a b:Int):z0c X z18 [AI n,AI a,AI b] h K=K (AB (decide (a≤n)&&decide (n≤b))) h []:=by
 refine rule ?_
 rw[c_q050 rfl]
 by_cases h1:a≤n <;> simp only[zmG,go_sem,h1]
theorem zuH (n a b:Int):(decide (n<a)||decide (b<n)) = !(decide (a≤n)&&decide (n≤b)):=by
 rw[Bool.eq_iff_iff];simp
theorem s_sign (n:Int):z0c X zaR [AI n] h K=K (AI n.sign) h []:=by
 refine rule ?_
 rw[c_q057 rfl]
 rcases Int.lt_trichotomy n 0 with h1 | h1 | h1
 ·simp only[zdN,go_sem,h1,Int.sign_eq_neg_one_of_neg h1]
 ·subst h1;simp only[zdN,go_sem,Int.sign_zero]
 ·simp only[zdN,go_sem,show ¬ n<0 by omega,h1,Int.sign_eq_one_of_pos h1]
theorem zsr (a b:Int):Int.gcd b (a.tmod b)=Int.gcd a b:=by
 unfold Int.gcd
 rw[Int.natAbs_tmod,Nat.gcd_comm,← Nat.gcd_rec,Nat.gcd_comm]
theorem s_Gcd (a b:Int) (ha:0≤a) (hb:0≤b):z0c X zas [AI a,AI b] h K=K (AI (Int.gcd a b)) h []:=by
 refine rule ?_
 rw[c_q004 rfl]
 simp only[zg4,go_sem]
 refine z0D (fun t:Int × Int=>⟨[(0,AI t.1),(1,AI t.2)],h,[]⟩) (fun t=>0≤t.1∧0≤t.2∧Int.gcd t.1 t.2=Int.gcd a b) (fun t=>t.2.toNat) (a,b) rfl ⟨ha,hb,rfl⟩ ?_
 rintro⟨u,v⟩ ⟨h1,h2,h3⟩
 dsimp only at h1 h2 h3
 by_cases hv:v=0
 ·subst hv
  simp only[go_sem]
  rw[← h3];simp;omega
 ·simp only[go_sem,hv]
  exact⟨(v,u.tmod v),rfl,⟨h2,Int.tmod_nonneg _ h1,by rw[zsr];exact h3⟩,by have:=Int.tmod_lt_of_pos u (show 0<v by omega);dsimp only;omega⟩
theorem zbs (a b:Int) (ha : -9223372036854775807≤a∧a≤9223372036854775807) (hb:0<b∧b≤9223372036854775807):z0c X z6Y [AI a,AI b] h K=K (.p (.agg [eI (low a b).1,eI (low a b).2])) h []:=by
 refine rule ?_
 rw[c_q003 rfl]
 have w:IntKind.i64.wrap (-a) = -a:=z0h _ (by omega) (by omega)
 have e:Int.gcd (max a (-a)) b=Int.gcd a b:=by
  rcases Int.le_total 0 a with h | h
  ·rw[show max a (-a)=a by omega]
  ·rw[show max a (-a) = -a by omega,Int.neg_gcd]
 have hg:=zbQ a b hb.1
 have hd:=ziH a b hb.1
 have hp:=z8W a b hb.1
 have hn:=zwg a b hb.1
 have w1:IntKind.i64.wrap (a.tdiv (Int.gcd a b))=(low a b).1:=z0h (low a b).1 (by omega) (by omega)
 have w2:IntKind.i64.wrap (b.tdiv (Int.gcd a b))=(low a b).2:=z0h (low a b).2 (by omega) (by omega)
 have e0:((Int.gcd a b:Int)=0)=False:=by simp only[eq_iff_iff,iff_false];omega
 simp only[zmr,go_sem,w,s_Gcd (max a (-a)) b (by omega) (by omega),e,e0,w1,w2]
theorem zuD {a b A B:Int} (h1:0≤a) (h2:a≤A) (h3:0≤b) (h4:b≤B):0≤a*b∧a*b≤A*B:=
 ⟨Int.mul_nonneg h1 h3,Int.mul_le_mul h2 h4 h3 (by omega)⟩
def cmp3 (x y:Int):Int:=if x<y then -1 else if x=y then 0 else 1
theorem zmi (x y:Int):cmp3 x y=(x-y).sign:=by
 unfold cmp3
 rcases Int.lt_trichotomy x y with h | h | h
 ·rw[if_pos h,Int.sign_eq_neg_one_of_neg (by omega)]
 ·rw[if_neg (by omega),if_pos h,h];simp
 ·rw[if_neg (by omega),if_neg (by omega),Int.sign_eq_one_of_pos (by omega)]
end Go.Am
end
section
/- Functions of lists. -/
open Go
namespace Go.Am
variable {h:Heap} {K:Post}
theorem zga (a:Int):z0c X z7c [AI a] h K=K (AB false) h []:=by
 refine rule ?_
 rw[c_q00v rfl]
 simp only[zmu,go_sem]
theorem z7z (a b:Int):z0c X z7a [AI a,AI b] h K=K (AI (cmp3 a b)) h []:=by
 refine rule ?_
 rw[c_q00s rfl]
 unfold cmp3
 by_cases h1:a<b
 ·simp only[zcX,go_sem,zga,h1]
 ·by_cases h2:b<a
  ·simp only[zcX,go_sem,zga,h1,h2,show ¬ a=b by omega]
  ·simp only[zcX,go_sem,zga,h1,h2,show a=b by omega,Int.lt_irrefl]
theorem zcn (l:List Int) (k:Nat) (hk:k<l.length):(l.take (k+1)).sum=(l.take k).sum+l[k]:=by
 rw[List.take_succ_eq_append_getElem hk,List.sum_append];simp
theorem zuN (l:List Int) (a b:Int) (hv:∀ n∈l,a≤n∧n≤b):(l.length:Int)*a≤l.sum∧l.sum≤(l.length:Int)*b:=by
 induction l with
 | nil=>simp
 | cons x r ih=>
  obtain⟨i1,i2⟩:=ih (fun n hn=>hv n (by simp [hn]))
  obtain⟨x1,x2⟩:=hv x (by simp)
  simp only[List.length_cons,List.sum_cons,Int.natCast_add,Int.add_mul]
  omega
theorem zxg {l:List Int} {B:Int} (hv:∀ n∈l,-B≤n∧n≤B) {N:Nat} (hl:l.length≤N) (hB:0≤B) : -(N*B)≤l.sum∧l.sum≤N*B:=by
 obtain⟨h1,h2⟩:=zuN l (-B) B hv
 have:(l.length:Int)*B≤N*B:=Int.mul_le_mul_of_nonneg_right (by omega) hB
 rw[Int.mul_neg] at h1
 omega
theorem zgj {l:List Int} {B:Int} (hv:∀ n∈l,-B≤n∧n≤B) {N:Nat} (hl:l.length≤N) (hB:0≤B) (k:Nat) : -(N*B)≤(l.take k).sum∧(l.take k).sum≤N*B:=
 zxg (fun n hn=>hv n (List.mem_of_mem_take hn)) (by simp;omega) hB
theorem zth (l m:List Int) (hl:l.length≤1000000000):z0c X zaU [AL l,AL m] h K=K (AB (decide (l=m))) h []:=by
 refine rule ?_
 rw[c_q05q rfl]
 by_cases hlen:l.length=m.length
 ·simp only[zdW,go_sem,hlen]
  refine z0D (fun k:Nat=>⟨[(0,AL l),(1,AL m),(12,AI m.length),(13,AI k)],h,[]⟩) (fun k=>k≤m.length∧l.take k=m.take k) (fun k=>m.length-k) 0 rfl (by simp) ?_
  rintro k ⟨hk,hp⟩
  rcases Nat.lt_or_ge k m.length with hlt | hge
  ·have hg1:=z0C eI (show k<l.length by omega)
   have hg2:=z0C eI hlt
   have w2:IntKind.i64.wrap ((k:Int)+1)=((k+1:Nat):Int):=z0h _ (by omega) (by omega)
   by_cases he:l[k]=m[k]
   ·simp only[go_sem,hlt,hg1,hg2,w2,he]
    exact⟨k+1,rfl,⟨by omega,by rw[List.take_succ_eq_append_getElem (by omega),List.take_succ_eq_append_getElem hlt,hp,he]⟩,by omega⟩
   ·simp only[go_sem,hlt,hg1,hg2,w2,he]
    have:¬ l=m:=fun h=>he (by simp only[h])
    simp [this]
  ·have e1:k=m.length:=by omega
   have e2:l=m:=by rw[← List.take_length (l:=l),← List.take_length (l:=m),hlen,← e1,hp]
   subst e1
   simp only[go_sem,Nat.lt_irrefl]
   simp [e2]
 ·have e1:((l.length:Int)=m.length)=False:=by simp only[eq_iff_iff,iff_false];omega
  simp only[zdW,go_sem,e1]
  have:¬ l=m:=fun h=>hlen (by rw[h])
  simp [this]
def zvc (g:Nat) (caps:List AV) (p:PV→Bool) (xs:List PV) (h:Heap):Prop:=∀ x∈xs,∀ K:Post,z0c X g (.p x::caps) h K=K (AB (p x)) h []
def idxP (p:PV→Bool) (xs:List PV):Int:=if xs.findIdx p<xs.length then (xs.findIdx p:Int) else -1
theorem zs0 (p:PV→Bool) (xs:List PV):decide (0≤idxP p xs)=xs.any p:=by
 unfold idxP
 rw[Bool.eq_iff_iff]
 by_cases h:xs.findIdx p<xs.length
 ·rw[if_pos h];simp only[decide_eq_true_eq,List.any_eq_true]
  exact⟨fun _=>⟨_,List.getElem_mem h,List.findIdx_getElem⟩,fun _=>by omega⟩
 ·rw[if_neg h];simp only[decide_eq_true_eq,List.any_eq_true]
  refine⟨fun h=>by omega,fun ⟨x,hx,hp⟩=>absurd (List.findIdx_lt_length_of_exists ⟨x,hx,hp⟩) h⟩
end Go.Am
end
section
/- Plain lists: insertion sort asv Go's package slices does it on short lists;deleting;compacting. -/
namespace Go.Am
variable {α:Type}
def insR (lt:α→α→Bool) (x:α):List α→List α
 | []=>[x]
 | y::r=>bif lt x y then y::insR lt x r else x::y::r
def z4U (lt:α→α→Bool) (l:List α):List α:=l.foldl (fun r x=>insR lt x r) []
def zbS (lt:α→α→Bool) (l:List α):List α:=(z4U lt l).reverse
theorem zeA (lt:α→α→Bool) (x:α):∀ r:List α,(insR lt x r).Perm (x::r)
 | []=>.refl _
 | y::r=>by
  unfold insR
  cases lt x y with
  | true=>exact ((zeA lt x r).cons y).trans (.swap _ _ _)
  | false=>exact .refl _
theorem z3W (lt:α→α→Bool):∀ (l r:List α),(l.foldl (fun r x=>insR lt x r) r).Perm (l++r)
 | [],r=>.refl _
 | x::l,r=>by
  simp only[List.foldl_cons,List.cons_append]
  refine (z3W lt l _).trans ?_
  exact ((zeA lt x r).append_left l).trans (List.perm_middle)
theorem z5b (lt:α→α→Bool) (l:List α):(z4U lt l).Perm l:=by
 have:=z3W lt l []
 rwa [List.append_nil] at this
theorem z6E (lt:α→α→Bool) (l:List α):(zbS lt l).Perm l:=(List.reverse_perm _).trans (z5b lt l)
theorem zeB (lt:α→α→Bool) (l:List α):(zbS lt l).length=l.length:=(z6E lt l).length_eq
theorem zeC {lt:α→α→Bool} {l:List α} {x:α}:x∈zbS lt l↔x∈l:=(z6E lt l).mem_iff
theorem ziF (lt:α→α→Bool) (l:List α):(z4U lt l).length=l.length:=(z5b lt l).length_eq
theorem z77 (lt:α→α→Bool) (l:List α) (k:Nat) (hk:k<l.length):z4U lt (l.take (k+1))=insR lt l[k] (z4U lt (l.take k)):=by
 rw[List.take_succ_eq_append_getElem hk];unfold z4U;rw[List.foldl_append];rfl
theorem zbf (lt:α→α→Bool) (x:α) (A:List α):∀ B:List α,(∀ b∈B,lt x b=true)→insR lt x (B++A)=B++insR lt x A
 | [],_=>rfl
 | b::B,h=>by
  simp only[List.cons_append,insR,h b (by simp),cond_true]
  rw[zbf lt x A B (fun b hb=>h b (by simp [hb]))]
theorem zvQ (A C:List α) (x:α):(A.reverse++x::C)[A.length]?=some x:=by
 rw[List.getElem?_append_right (by simp)];simp
theorem zs2 (A C:List α) (x y:α):((y::A).reverse++x::C)[A.length]?=some y:=by
 rw[List.getElem?_append_left (by simp)];simp
theorem zs3 (A C:List α) (x y:α):(((y::A).reverse++x::C).set (A.length+1) y).set A.length x=A.reverse++x::y::C:=by
 have e:(y::A).reverse++x::C=A.reverse++y::x::C:=by simp
 rw[e,List.set_append_right _ _ (by simp),List.length_reverse,Nat.add_sub_cancel_left,List.set_append_right _ _ (by simp),List.length_reverse,Nat.sub_self]
 rfl
theorem zhz (lt:α→α→Bool) (x:α) (A B:List α) (hB:∀ b∈B,lt x b=true) (hA:∀ y r,A=y::r→lt x y=false):insR lt x (B++A)=B++x::A:=by
 rw[zbf lt x A B hB]
 cases A with
 | nil=>rfl
 | cons y r=>simp only[insR,hA y r rfl,cond_false]
end Go.Am
namespace Go.Am
variable {α:Type}
def z1r (q:α→α→Bool) (prev:α):List α→List α
 | []=>[]
 | x::r=>bif q x prev then z1r q x r else x::z1r q x r
def z0V (q:α→α→Bool):List α→List α
 | []=>[]
 | x::r=>x::z1r q x r
theorem z5v (q:α→α→Bool):∀ (l:List α) (p:α),(z1r q p l).length≤l.length
 | [],_=>Nat.le_refl _
 | x::r,p=>by
  unfold z1r
  have:=z5v q r x
  cases q x p with
  | true=>simp only[cond_true,List.length_cons];omega
  | false=>simp only[cond_false,List.length_cons];omega
theorem z6S (q:α→α→Bool) (l:List α):(z0V q l).length≤l.length:=by
 cases l with
 | nil=>exact Nat.le_refl _
 | cons x r=>have:=z5v q r x;simp only[z0V,List.length_cons];omega
theorem z34 (q:α→α→Bool):∀ (l:List α) (p:α),∀ x∈z1r q p l,x∈l
 | [],_,x,h=>h
 | y::r,p,x,h=>by
  unfold z1r at h
  cases hq:q y p with
  | true=>rw[hq] at h;exact List.mem_cons_of_mem _ (z34 q r y x h)
  | false=>
   rw[hq] at h
   rcases List.mem_cons.1 h with rfl | h
   ·simp
   ·exact List.mem_cons_of_mem _ (z34 q r y x h)
theorem z6T {q:α→α→Bool} {l:List α} {x:α} (h:x∈z0V q l):x∈l:=by
 cases l with
 | nil=>exact h
 | cons y r=>
  rcases List.mem_cons.1 h with rfl | h
  ·simp
  ·exact List.mem_cons_of_mem _ (z34 q r y x h)
theorem z4J (q:α→α→Bool) (z:α):∀ (l:List α) (p:α),z1r q p (l++[z])=z1r q p l++(bif q z ((p::l).getLast (by simp)) then [] else [z])
 | [],p=>by simp only[List.nil_append,z1r,List.getLast_singleton]
 | x::r,p=>by
  simp only[List.cons_append,z1r,z4J q z r x]
  have e:(p::x::r).getLast (by simp)=(x::r).getLast (by simp):=List.getLast_cons (by simp)
  rw[e]
  cases q x p <;> rfl
theorem z22 (q:α→α→Bool) (l:List α) (k:Nat) (hk:k+1<l.length):z0V q (l.take (k+1+1))=z0V q (l.take (k+1))++(bif q l[k+1] l[k] then [] else [l[k+1]]):=by
 rw[List.take_succ_eq_append_getElem hk]
 cases l with
 | nil=>simp at hk
 | cons x r=>
  simp only[List.take_succ_cons,List.cons_append,z0V,z4J]
  have e:(x::r.take k).getLast (by simp)=(x::r)[k]:=by
   have:x::r.take k=(x::r).take (k+1):=rfl
   simp only[this]
   rw[List.getLast_eq_getElem]
   simp only[List.getElem_take]
   congr 1
   simp only[List.length_take,List.length_cons] at hk ⊢
   omega
  rw[e]
end Go.Am
end
section
/- Values of a shape: loads and stores in rows. -/
open Go
namespace Go.Am
variable {h:Heap} {K:Post}
theorem z5h {sh:Sh} {x:PV} (hx:x.shp sh=true):cutP sh 0 x=some x:=by
 cases sh with
 | none=>exact zv2 hx
 | some n=>
  cases x with
  | agg cs=>
   simp only[PV.shp,Bool.and_eq_true,beq_iff_eq] at hx
   simp [cutP,hx.1]
   exact List.take_of_length_le (by omega)
  | _=>cases hx
theorem zgg {sh:Sh} {x:PV} (hx:x.shp sh=true):x.cells.length=z0a sh:=by
 cases sh with
 | none=>cases x <;> first | rfl | cases hx
 | some n=>
  cases x with
  | agg cs=>simp only[PV.shp,Bool.and_eq_true,beq_iff_eq] at hx;exact hx.1
  | _=>cases hx
theorem zgf {sh:Sh} {x:PV} (hx:x.shp sh=true):x.cells.all PV.sc=true:=by
 cases sh with
 | none=>cases x <;> first | rfl | cases hx
 | some n=>
  cases x with
  | agg cs=>simp only[PV.shp,Bool.and_eq_true,beq_iff_eq] at hx;exact hx.2
  | _=>cases hx
theorem zfe {sh:Sh} {x y:PV} (hx:x.shp sh=true) (hy:y.shp sh=true) (id i fz:Nat) (xs:List PV) (h1:Heap):stE sh id i 0 fz sh xs x h1 (some y)=some (.und,h1.set id (.row sh (xs.set i x) fz),[]):=by
 cases sh with
 | none=>
  cases y with
  | agg cs=>cases hy
  | _=>simp only[PV.shp] at hx;simp [stE,hx]
 | some n=>
  cases y with
  | agg cs=>
   cases x with
   | agg ds=>
    simp only[PV.shp,Bool.and_eq_true,beq_iff_eq] at hx hy
    simp [stE,PV.cells,splice,hx.1,hy.1,show cs.drop n=[] from List.drop_of_length_le (by omega)]
   | _=>cases hx
  | _=>cases hy
def shps (sh:Sh) (xs:List PV):Prop:=∀ x∈xs,x.shp sh=true
theorem z4D {sh:Sh} {xs:List PV} (hx:shps sh xs) {i:Nat} (hi:i<xs.length):xs[i].shp sh=true:=hx _ (List.getElem_mem hi)
theorem z4C {h:Heap} {id:Nat} {o:Obj} (hh:h[id]?=some o):h.set id o=h:=by
 apply List.ext_getElem?
 intro i
 rw[List.getElem?_set]
 split
 ·rename_i e;subst e;rw[hh];simp [z2n hh]
 ·rfl
def Cmps (g:Nat) (caps:List AV) (c:PV→PV→Int) (xs:List PV) (id:Nat) (h:Heap):Prop:=∀ (o:Obj) (x:PV),x∈xs→∀ y,y∈xs→∀ K:Post,z0c X g (.p x :: .p y::caps) (h.set id o) K=K (AI (c x y)) (h.set id o) []
def ltC (c:PV→PV→Int) (a b:PV):Bool:=decide (c a b<0)
structure Shows (sh:Sh) (v:AV) (xs:List PV) (h:Heap):Prop where
 len:oLen v=some (AI xs.length)
 get:∀ (k:Nat) (hk:k<xs.length),∃ a,z0p sh v (AI k) h=some a∧z0g sh a h=some (.p xs[k])
theorem z7M {sh:Sh} {xs:List PV} (hs:shps sh xs):Shows sh (.p (.sl sh xs)) xs h:=by
 refine⟨rfl,fun k hk=>⟨.vp xs[k],?_,?_⟩⟩
 ·simp [z0p,z1f,hk]
 ·simp only[zpY,z5h (z4D hs hk)];rfl
def Alikes (g:Nat) (caps:List AV) (q:PV→PV→Bool) (xs:List PV) (id:Nat) (h:Heap):Prop:=∀ (o:Obj) (x:PV),x∈xs→∀ y,y∈xs→∀ K:Post,z0c X g (.p x :: .p y::caps) (h.set id o) K=K (AB (q x y)) (h.set id o) []
end Go.Am
end
section
/- Strings: keys,the library's functions without text. -/
open Go
set_option linter.unusedSimpArgs false
namespace Go.Am
variable {h:Heap} {K:Post}
abbrev AS (s:List UInt8):AV:=.p (.str s)
theorem X_ext:X.ext=extF z0l z0f:=rfl
theorem zhJ (s:List UInt8) (c:UInt8):z0c X z0l [AS s,.p (.int .u8 c.toNat)] h K=K (AI (idxB s c)) h []:=by
 have:=zhi (X:=X) (f:=z0l) (asv:=[AS s,.p (.int .u8 c.toNat)]) (vs:=[.str s,.int .u8 c.toNat]) (h:=h) (h1:=h) (r:=.int .i64 (idxB s c)) (K:=K) (by kernel_rfl) rfl rfl rfl ?_
 ·exact this
 ·rw[X_ext]
  unfold extF
  rw[show Nat.beq z0l z0l=true from by kernel_rfl]
  simp
theorem zto (a b:List UInt8):z0c X z0f [AS a,AS b] h K=K (AI (cmpL a b)) h []:=by
 have:=zhi (X:=X) (f:=z0f) (asv:=[AS a,AS b]) (vs:=[.str a,.str b]) (h:=h) (h1:=h) (r:=.int .i64 (cmpL a b)) (K:=K) (by kernel_rfl) rfl rfl rfl ?_
 ·exact this
 ·rw[X_ext]
  unfold extF
  rw[show Nat.beq z0f z0l=false from by kernel_rfl,show Nat.beq z0f z0f=true from by kernel_rfl]
  rfl
theorem z4r (a b:List UInt8):z0c X z4S [AS a,AS b] h K=K (AI (cmpL a b)) h []:=by
 have key:∀ (h:Heap) (K:Post),z0c X zaw [AS a,AS b] h K=K (AI (cmpL a b)) h []:=by
  intro h K
  refine rule ?_
  rw[c_q01b rfl]
  simp only[zmv,go_sem,zto]
 refine rule ?_
 rw[c_q091 rfl]
 simp only[zmO,go_sem,key]
theorem z93 (s:List UInt8) (c:UInt8):z0c X zbc [AS s,.p (.int .u8 c.toNat)] h K=K (AI (idxB s c)) h []:=by
 have key:∀ (h:Heap) (K:Post),z0c X z3S [AS s,.p (.int .u8 c.toNat)] h K=K (AI (idxB s c)) h []:=by
  intro h K
  refine rule ?_
  rw[zuv rfl]
  simp only[zgD,go_sem,zhJ]
 refine rule ?_
 rw[c_q097 rfl]
 simp only[zmR,go_sem,key]
theorem zg0:∀ a b,cmpL b a = - cmpL a b
 | [],[]=>rfl
 | [],_::_=>rfl
 | _::_,[]=>rfl
 | x::a,y::b=>by
  simp only[cmpL]
  by_cases h1:x<y
  ·have h2:¬ y<x:=UInt8.lt_asymm h1
   simp [h1,h2]
  ·by_cases h2:y<x
   ·simp [h1,h2]
   ·simp [h1,h2,zg0 a b]
def z78 (c:UInt8):Bool:=decide ((97:Int)≤c.toNat)&&decide ((c.toNat:Int)≤122)||decide ((48:Int)≤c.toNat)&&decide ((c.toNat:Int)≤57)||decide ((c.toNat:Int)=45)||decide ((c.toNat:Int)=95)
def keyB (s:List UInt8):Bool:=match s with
 | []=>false
 | c::r=>decide (r.length<40)&&(decide ((97:Int)≤c.toNat)&&decide ((c.toNat:Int)≤122))&&(c::r).all z78
theorem zwI (s:List UInt8) (hl:s.length≤1000000000):z0c X z4M [AS s] h K=K (AB (keyB s)) h []:=by
 refine rule ?_
 rw[c_q005 rfl]
 cases s with
 | nil=>simp only[z6U,go_sem,keyB]
 | cons c r=>
  have n0:((c::r)=[])=False:=by simp
  have e1:(((r.length+1:Nat):Int)≤40)=(r.length<40):=by simp only[eq_iff_iff];omega
  by_cases h1:(40:Int)<((r.length+1:Nat):Int)
  ·have:¬ r.length<40:=by omega
   simp only[z6U,go_sem,n0,h1,keyB,this]
  have h1':r.length<40:=by omega
  by_cases h2:(c.toNat:Int)<97
  ·have:¬ (97:Int)≤c.toNat:=by omega
   simp only[z6U,go_sem,n0,h1,h2,keyB,this,h1']
  have h2':(97:Int)≤c.toNat:=by omega
  by_cases h3:(122:Int)<c.toNat
  ·have:¬ (c.toNat:Int)≤122:=by omega
   simp only[z6U,go_sem,n0,h1,h2,h3,keyB,this,h1',h2']
  have h3':(c.toNat:Int)≤122:=by omega
  have ek:keyB (c::r)=(c::r).all z78:=by simp [keyB,h1',h2',h3']
  rw[ek]
  generalize hB:(c::r).all z78=B
  simp only[z6U,go_sem,n0,h1,h2,h3]
  have hlen:(c::r).length=r.length+1:=rfl
  rw[← hlen]
  generalize c::r=s at *
  refine z0D (fun k:Nat=>⟨[(0,AS s),(23,AI s.length),(24,AI k)],h,[]⟩) (fun k=>k≤s.length∧(s.take k).all z78=true) (fun k=>s.length-k) 0 rfl ⟨by omega,rfl⟩ ?_
  rintro k ⟨hk,hp⟩
  rcases Nat.lt_or_ge k s.length with hlt | hge
  ·have hg:s[k]?=some s[k]:=List.getElem?_eq_getElem hlt
   have w2:IntKind.i64.wrap ((k:Int)+1)=((k+1:Nat):Int):=z0h _ (by omega) (by omega)
   generalize hc:s[k]=c at *
   have key:(decide ((97:Int)≤c.toNat)&&decide ((c.toNat:Int)≤122)||decide ((48:Int)≤c.toNat)&&decide ((c.toNat:Int)≤57)||decide ((c.toNat:Int)=45)||decide ((c.toNat:Int)=95))=z78 c:=rfl
   cases hkc:z78 c with
   | true=>
    rw[hkc] at key
    have hn:(s.take (k+1)).all z78=true:=by rw[List.take_succ_eq_append_getElem hlt,List.all_append,hp,hc];simp [hkc]
    by_cases b1:(97:Int)≤c.toNat <;> by_cases b2:(c.toNat:Int)≤122 <;> by_cases b3:(48:Int)≤c.toNat <;> by_cases b4:(c.toNat:Int)≤57 <;> by_cases b5:(c.toNat:Int)=45 <;> by_cases b6:(c.toNat:Int)=95
    all_goals first
     | (simp only[b1,b2,b3,b4,b5,b6,decide_true,decide_false,Bool.and_self,Bool.and_true,Bool.and_false,Bool.or_self,Bool.or_true,Bool.or_false,Bool.true_or,Bool.false_or,Bool.false_and,reduceCtorEq] at key;done)
     | (exfalso;omega)
     | (simp only[go_sem,hlt,hg,w2,b1,b2,b3,b4,b5,b6];exact⟨k+1,rfl,⟨by omega,hn⟩,by omega⟩)
   | false=>
    rw[hkc] at key
    have hn:s.all z78=false:=by rw[List.all_eq_false];exact⟨_,List.getElem_mem hlt,by rw[hc,hkc];simp⟩
    rw[hn] at hB
    subst hB
    by_cases b1:(97:Int)≤c.toNat <;> by_cases b2:(c.toNat:Int)≤122 <;> by_cases b3:(48:Int)≤c.toNat <;> by_cases b4:(c.toNat:Int)≤57 <;> by_cases b5:(c.toNat:Int)=45 <;> by_cases b6:(c.toNat:Int)=95
    all_goals first
     | (simp only[b1,b2,b3,b4,b5,b6,decide_true,decide_false,Bool.and_self,Bool.and_true,Bool.and_false,Bool.or_self,Bool.or_true,Bool.or_false,Bool.true_or,Bool.false_or,Bool.false_and,reduceCtorEq] at key;done)
     | (exfalso;omega)
     | (simp only[go_sem,hlt,hg,b1,b2,b3,b4,b5,b6])
  ·have ek:k=s.length:=by omega
   subst ek
   rw[List.take_length,hB] at hp
   subst hp
   simp only[go_sem,Nat.lt_irrefl]
theorem zsz (s:List UInt8) (c:UInt8):decide (idxB s c<0) = !s.contains c:=by
 unfold idxB
 rw[Bool.eq_iff_iff]
 by_cases hf:s.findIdx (· == c)<s.length
 ·rw[if_pos hf]
  have:=List.findIdx_getElem (w:=hf)
  simp only[beq_iff_eq] at this
  have hm:c∈s:=by rw[← this];exact List.getElem_mem hf
  simp [hm]
 ·rw[if_neg hf]
  have hm:¬ c∈s:=fun hm=>hf (List.findIdx_lt_length_of_exists ⟨c,hm,by simp⟩)
  simp [hm]
theorem zqL (s t:List UInt8) (hl:s.length≤1000000000):z0c X z4Q [AS s,AS t] h K=K (AB (s.all fun c=>t.contains c)) h []:=by
 refine rule ?_
 rw[c_q051 rfl]
 simp only[zgT,go_sem]
 refine z0D (fun k:Nat=>⟨[(0,AS s),(1,AS t),(7,AI s.length),(8,AI k)],h,[]⟩) (fun k=>k≤s.length∧(s.take k).all (fun c=>t.contains c)=true) (fun k=>s.length-k) 0 rfl ⟨by omega,rfl⟩ ?_
 rintro k ⟨hk,hp⟩
 rcases Nat.lt_or_ge k s.length with hlt | hge
 ·have hg:s[k]?=some s[k]:=List.getElem?_eq_getElem hlt
  have w2:IntKind.i64.wrap ((k:Int)+1)=((k+1:Nat):Int):=z0h _ (by omega) (by omega)
  have hi:=zsz t s[k]
  by_cases hc:idxB t s[k]<0
  ·have:s.all (fun c=>t.contains c)=false:=by
    rw[List.all_eq_false]
    refine⟨_,List.getElem_mem hlt,?_⟩
    rw[decide_eq_true hc] at hi
    cases hq:t.contains s[k] with
    | true=>rw[hq] at hi;cases hi
    | false=>simp
   simp only[go_sem,hlt,hg,z93,hc,this]
  ·rw[decide_eq_false hc] at hi
   have hq:t.contains s[k]=true:=by cases hq:t.contains s[k] with | true=>rfl | false=>rw[hq] at hi;cases hi
   simp only[go_sem,hlt,hg,z93,hc,w2]
   exact⟨k+1,rfl,⟨by omega,by rw[List.take_succ_eq_append_getElem hlt,List.all_append,hp];simp only[List.all_cons,List.all_nil,hq];rfl⟩,by omega⟩
 ·have ek:k=s.length:=by omega
  subst ek
  rw[List.take_length] at hp
  simp only[go_sem,Nat.lt_irrefl,hp]
def z9A:List UInt8:=[97,98,99,100,101,102,103,104,105,106,107,108,109,110,111,112,113,114,115,116,117,118,119,120,121,122]
def zpj:List UInt8:=[97,98,99,100,101,102,103,104,105,106,107,108,109,110,111,112,113,114,115,116,117,118,119,120,121,122,48,49,50,51,52,53,54,55,56,57,45,95]
theorem zuO {p:UInt8→Bool} (h:((List.range 256).all fun n=>p (UInt8.ofNat n))=true) (c:UInt8):p c=true:=by
 have:=List.all_eq_true.1 h c.toNat (by simp;exact c.toNat_lt)
 rwa [UInt8.ofNat_toNat] at this
theorem zjc (c:UInt8):z9A.contains c=(decide ((97:Int)≤c.toNat)&&decide ((c.toNat:Int)≤122)):=by
 have:=zuO (p:=fun c=>z9A.contains c==(decide ((97:Int)≤c.toNat)&&decide ((c.toNat:Int)≤122))) (by kernel_rfl) c
 simpa using this
theorem zs7 (c:UInt8):zpj.contains c=z78 c:=by
 have:=zuO (p:=fun c=>zpj.contains c==z78 c) (by kernel_rfl) c
 simpa using this
theorem zcg (s:List UInt8) (hl:s.length≤1000000000):z0c X z4O [AS s] h K=K (AB (keyB s)) h []:=by
 refine rule ?_
 rw[c_q043 rfl]
 have o1:=fun h K=>zqL (h:=h) (K:=K) s zpj hl
 have e2:(s.all fun c=>zpj.contains c)=s.all z78:=by congr 1;funext c;exact zs7 c
 rw[e2] at o1
 unfold zpj at o1
 cases s with
 | nil=>simp only[zaj,go_sem,s_in,keyB]
 | cons c r=>
  have o2:=fun h K=>zqL (h:=h) (K:=K) [c] z9A (by simp)
  have e3:([c].all fun c=>z9A.contains c)=(decide ((97:Int)≤c.toNat)&&decide ((c.toNat:Int)≤122)):=by simp only[List.all_cons,List.all_nil,Bool.and_true];exact zjc c
  rw[e3] at o2
  unfold z9A at o2
  have q1:(1:Int)≤((r.length+1:Nat):Int):=by omega
  have q2:1≤r.length+1:=by omega
  by_cases h1:r.length<40
  ·have h1':((r.length+1:Nat):Int)≤40:=by omega
   cases h2:(decide ((97:Int)≤c.toNat)&&decide ((c.toNat:Int)≤122)) with
   | true=>
    have ek:keyB (c::r)=(c::r).all z78:=by
     simp only[keyB,h1,decide_true,Bool.true_and,h2]
    rw[ek]
    simp only[zaj,go_sem,s_in,h1',q1,q2,win,↓o2,o2,h2,↓o1,o1]
   | false=>
    have ek:keyB (c::r)=false:=by simp only[keyB,h1,decide_true,Bool.true_and,h2,Bool.false_and]
    rw[ek]
    simp only[zaj,go_sem,s_in,h1',q1,q2,win,↓o2,o2,h2]
  ·have h1':¬ ((r.length+1:Nat):Int)≤40:=by omega
   have ek:keyB (c::r)=false:=by simp only[keyB,h1,decide_false,Bool.false_and]
   rw[ek]
   simp only[zaj,go_sem,s_in,h1',q1]
end Go.Am
end
section
/- Finding values in lists: printed by program. -/
open Go
set_option linter.unusedSimpArgs false
namespace Go.Am
attribute [-go_sem] PV.cells
variable {h:Heap} {K:Post}
theorem zb8 {v:AV} {g:Nat} {caps:List AV} {p:PV→Bool} {xs:List PV} (hv:Shows none v xs h) (hp:zvc g caps p xs h) (hl:xs.length≤1000000000) :
 z0c X zaV [v,.fn g caps] h K=K (AI (idxP p xs)) h []:=by
 refine rule ?_
 rw[c_q05w]
 have vl:=hv.len
 simp only[zgW,go_sem,vl]
 refine z0D (fun k:Nat=>⟨[(0,v),(1,.fn g caps),(7,AI xs.length),(8,AI k)],h,[]⟩) (fun k=>k≤xs.length∧∀ x∈xs.take k,p x=false) (fun k=>xs.length-k) 0 rfl (by simp) ?_
 rintro k ⟨hk,hn⟩
 rcases Nat.lt_or_ge k xs.length with hlt | hge
 ·obtain⟨a,ha,hb⟩:=hv.get k hlt
  have w2:IntKind.i64.wrap ((k:Int)+1)=((k+1:Nat):Int):=z0h _ (by omega) (by omega)
  have ht:=hp _ (List.getElem_mem hlt)
  cases hpk:p xs[k] with
  | true=>
   have hf:xs.findIdx p=k:=by
    rw[List.findIdx_eq hlt]
    refine⟨hpk,fun j hj=>?_⟩
    have:=hn xs[j] (by rw[List.mem_take_iff_getElem];exact⟨j,by omega,rfl⟩)
    simpa using this
   simp only[go_sem,hlt,ha,hb,ht,hpk,w2]
   simp only[idxP,hf,hlt,if_true]
  | false=>
   simp only[go_sem,hlt,ha,hb,ht,hpk,w2]
   refine⟨k+1,rfl,⟨by omega,fun x hx=>?_⟩,by omega⟩
   rw[List.take_succ_eq_append_getElem hlt,List.mem_append,List.mem_singleton] at hx
   rcases hx with hx | hx
   ·exact hn x hx
   ·rw[hx];exact hpk
 ·have e1:k=xs.length:=by omega
  subst e1
  simp only[go_sem,Nat.lt_irrefl]
  rw[List.take_length] at hn
  have:¬ xs.findIdx p<xs.length:=by
   rw[Nat.not_lt,Nat.le_iff_lt_or_eq];right
   exact (List.findIdx_eq_length.2 (fun x hx=>by simp [hn x hx])).symm
  simp [idxP,this]
theorem z3K {v:AV} {g:Nat} {caps:List AV} {p:PV→Bool} {xs:List PV} (hv:Shows (some 4) v xs h) (hp:zvc g caps p xs h) (hl:xs.length≤1000000000) :
 z0c X z7p [v,.fn g caps] h K=K (AI (idxP p xs)) h []:=by
 refine rule ?_
 rw[c_q05v]
 have vl:=hv.len
 simp only[zgV,go_sem,vl]
 refine z0D (fun k:Nat=>⟨[(0,v),(1,.fn g caps),(7,AI xs.length),(8,AI k)],h,[]⟩) (fun k=>k≤xs.length∧∀ x∈xs.take k,p x=false) (fun k=>xs.length-k) 0 rfl (by simp) ?_
 rintro k ⟨hk,hn⟩
 rcases Nat.lt_or_ge k xs.length with hlt | hge
 ·obtain⟨a,ha,hb⟩:=hv.get k hlt
  have w2:IntKind.i64.wrap ((k:Int)+1)=((k+1:Nat):Int):=z0h _ (by omega) (by omega)
  have ht:=hp _ (List.getElem_mem hlt)
  cases hpk:p xs[k] with
  | true=>
   have hf:xs.findIdx p=k:=by
    rw[List.findIdx_eq hlt]
    refine⟨hpk,fun j hj=>?_⟩
    have:=hn xs[j] (by rw[List.mem_take_iff_getElem];exact⟨j,by omega,rfl⟩)
    simpa using this
   simp only[go_sem,hlt,ha,hb,ht,hpk,w2]
   simp only[idxP,hf,hlt,if_true]
  | false=>
   simp only[go_sem,hlt,ha,hb,ht,hpk,w2]
   refine⟨k+1,rfl,⟨by omega,fun x hx=>?_⟩,by omega⟩
   rw[List.take_succ_eq_append_getElem hlt,List.mem_append,List.mem_singleton] at hx
   rcases hx with hx | hx
   ·exact hn x hx
   ·rw[hx];exact hpk
 ·have e1:k=xs.length:=by omega
  subst e1
  simp only[go_sem,Nat.lt_irrefl]
  rw[List.take_length] at hn
  have:¬ xs.findIdx p<xs.length:=by
   rw[Nat.not_lt,Nat.le_iff_lt_or_eq];right
   exact (List.findIdx_eq_length.2 (fun x hx=>by simp [hn x hx])).symm
  simp [idxP,this]
theorem z1V {g:Nat} {caps:List AV} {p:PV→Bool} {xs:List PV} (hp:zvc g caps p xs h) (hs:shps none xs) (hl:xs.length≤1000000000) :
 z0c X z4R [.p (.sl none xs),.fn g caps] h K=K (AB (xs.any p)) h []:=by
 refine rule ?_
 rw[c_q05i]
 have vi:=fun K=>zb8 (h:=h) (K:=K) (z7M hs) hp hl
 simp only[zmI,go_sem,vi,zs0]
end Go.Am
end
section
/- Limits: what they are,what is wrong with them. -/
open Go
namespace Go.Am
variable {h:Heap} {K:Post}
structure Lim where
 key:List UInt8
 lo:Int
 hi:Int
 bin:Int
def Lim.pv (x:Lim):PV:=.agg [.str x.key,eI x.lo,eI x.hi,eI x.bin]
abbrev ALim (l:List Lim):AV:=.p (.sl (some 4) (l.map Lim.pv))
theorem zh1 {l:List Lim}:shps (some 4) (l.map Lim.pv):=fun x hx=>by obtain⟨n,_,rfl⟩:=List.mem_map.1 hx;rfl
def zvV (key:List UInt8):PV→Bool
 | .agg (.str k::_)=>decide (k=key)
 | _=>false
def zoP (l:List Lim) (key:List UInt8):Int:=idxP (zvV key) (l.map Lim.pv)
def inB (a n b:Int):Bool:=decide (a≤n)&&decide (n≤b)
theorem zbu (n a b:Int):z0c X z2k [AI n,AI a,AI b] h K=K (AB (!inB a n b)) h []:=by rw[s_Out,zuH];rfl
theorem z7A (n a b:Int):z0c X z18 [AI n,AI a,AI b] h K=K (AB (inB a n b)) h []:=s_in n a b
def zpV (x:Lim):Bool:=!inB (-100000) x.lo x.hi||decide (100000<x.hi) || !inB 2 x.bin 100
def z0X (pre:List Lim):List Lim→Int
 | []=>0
 | x::r=>if keyB x.key=false then 5 else if 0≤zoP pre x.key then 6 else if zpV x then 1 else z0X (pre++[x]) r
def z0T (l:List Lim):Int:=if l.length=0 then 8 else if (100:Int)<l.length then 2 else z0X [] l
end Go.Am
end
section
/- What is wrong with limits,both ways: printed by program. -/
open Go
set_option linter.unusedSimpArgs false
namespace Go.Am
variable {h:Heap} {K:Post}
theorem zwL (x:Lim) (key:List UInt8) (id:Nat) (hh:h[id]?=some (.box [AS key])):z0c X z8G [.p x.pv,.ref id 0] h K=K (AB (decide (x.key=key))) h []:=by
 refine rule ?_
 rw[c_q02b rfl]
 have hg:∀ l,(h++l)[id]?=some (.box [AS key]):=fun l=>by rw[zbR (z2n hh),hh]
 simp only[zm1,Lim.pv,go_sem,hg]
theorem s_find (l:List Lim) (key:List UInt8) (hl:l.length≤1000000):z0c X za8 [ALim l,AS key] h K=K (AI (zoP l key)) h []:=by
 refine rule ?_
 rw[c_q02a rfl]
 have hi:=fun K=>z3K (h:=h++[.box [AS key]]) (K:=K) (g:=z8G) (caps:=[.ref h.length 0]) (p:=zvV key) (xs:=l.map Lim.pv) (z7M zh1)
  (fun y hy K=>by obtain⟨x,_,rfl⟩:=List.mem_map.1 hy;exact zwL x key _ (by simp)) (by simpa using (by omega:l.length≤1000000000))
 simp only[zm0,go_sem,hi]
 rfl
set_option maxHeartbeats 1000000 in
theorem z61 (l:List Lim) (hk:∀ x∈l,x.key.length≤1000) (hl:l.length≤1000000):z0c X z7e [ALim l] h K=K (AI (z0T l)) h []:=by
 refine rule ?_
 rw[c_q021 rfl]
 unfold z0T
 by_cases h0:l.length=0
 ·have h0':(l.length:Int)=0:=by omega
  simp only[zaf,go_sem,h0',h0]
 have h0':¬ (l.length:Int)=0:=by omega
 by_cases h1:(100:Int)<l.length
 ·simp only[zaf,go_sem,h0',h0,h1]
 simp only[zaf,go_sem,h0',h0,h1]
 refine z0D (fun k:Nat=>⟨[(0,ALim l),(13,ALim l),(14,AI l.length),(15,AI k)],h,[]⟩) (fun k=>k≤l.length∧z0X (l.take k) (l.drop k)=z0X [] l) (fun k=>l.length-k) 0 rfl ⟨by omega,rfl⟩ ?_
 rintro k ⟨hkl,hp⟩
 rcases Nat.lt_or_ge k l.length with hlt | hge
 ·have hg:=z0C Lim.pv hlt
  have w2:IntKind.i64.wrap ((k:Int)+1)=((k+1:Nat):Int):=z0h _ (by omega) (by omega)
  have hkx:=hk _ (List.getElem_mem hlt)
  rw[List.drop_eq_getElem_cons hlt,z0X,← List.take_succ_eq_append_getElem hlt] at hp
  have ewin:win (l.map Lim.pv) 0 k=(l.take k).map Lim.pv:=by simp [win,List.map_take]
  have fnd:=fun h K=>s_find (h:=h) (K:=K) (l.take k) l[k].key (by simp;omega)
  generalize l[k]=x at *
  have ky:=fun h K=>zwI (h:=h) (K:=K) x.key (by omega)
  generalize hw:zoP (l.take k) x.key=w at *
  cases h2:keyB x.key with
  | false=>
   rw[h2] at hp
   simp only[if_true] at hp
   simp only[go_sem,Lim.pv,hlt,hg,ky,h2]
   rw[← hp]
  | true=>
   rw[h2] at hp
   simp only[reduceCtorEq,if_false] at hp
   by_cases h3:0≤w
   ·rw[if_pos h3] at hp
    simp only[go_sem,Lim.pv,hlt,hg,ky,h2,hkl,ewin,fnd,h3]
    rw[← hp]
   ·rw[if_neg h3] at hp
    unfold zpV at hp
    cases h4:inB (-100000) x.lo x.hi with
    | false=>
     simp only[h4,Bool.not_false,Bool.true_or,if_true] at hp
     simp only[go_sem,Lim.pv,hlt,hg,ky,h2,hkl,ewin,fnd,h3,zbu,h4]
     rw[← hp]
    | true=>
     by_cases h5:100000<x.hi
     ·simp only[h4,h5,Bool.not_true,Bool.false_or,decide_true,Bool.true_or,if_true] at hp
      simp only[go_sem,Lim.pv,hlt,hg,ky,h2,hkl,ewin,fnd,h3,zbu,h4,h5]
      rw[← hp]
     ·cases h6:inB 2 x.bin 100 with
      | false=>
       simp only[h4,h5,h6,Bool.not_true,Bool.false_or,decide_false,Bool.not_false,if_true] at hp
       simp only[go_sem,Lim.pv,hlt,hg,ky,h2,hkl,ewin,fnd,h3,zbu,h4,h5,h6]
       rw[← hp]
      | true=>
       simp only[h4,h5,h6,Bool.not_true,Bool.false_or,decide_false,Bool.or_self,reduceCtorEq,if_false] at hp
       simp only[go_sem,Lim.pv,hlt,hg,ky,h2,hkl,ewin,fnd,h3,zbu,h4,h5,h6,w2]
       exact⟨k+1,rfl,⟨by omega,hp⟩,by omega⟩
 ·have ek:k=l.length:=by omega
  subst ek
  rw[List.drop_length] at hp
  simp only[go_sem,Nat.lt_irrefl]
  rw[← hp];rfl
theorem zqJ (x:Lim) (key:List UInt8) (id:Nat) (hh:h[id]?=some (.box [AS key])):z0c X z8K [.p x.pv,.ref id 0] h K=K (AB (decide (x.key=key))) h []:=by
 refine rule ?_
 rw[c_q04l rfl]
 have hg:∀ l,(h++l)[id]?=some (.box [AS key]):=fun l=>by rw[zbR (z2n hh),hh]
 simp only[zmE,Lim.pv,go_sem,hg]
theorem ztl (l:List Lim) (key:List UInt8) (hl:l.length≤1000000):z0c X zaM [ALim l,AS key] h K=K (AI (zoP l key)) h []:=by
 refine rule ?_
 rw[c_q04k rfl]
 have hi:=fun K=>z3K (h:=h++[.box [AS key]]) (K:=K) (g:=z8K) (caps:=[.ref h.length 0]) (p:=zvV key) (xs:=l.map Lim.pv) (z7M zh1)
  (fun y hy K=>by obtain⟨x,_,rfl⟩:=List.mem_map.1 hy;exact zqJ x key _ (by simp)) (by simpa using (by omega:l.length≤1000000000))
 simp only[zmD,go_sem,hi]
 rfl
set_option maxHeartbeats 1000000 in
theorem z3D (l:List Lim) (hk:∀ x∈l,x.key.length≤1000) (hl:l.length≤1000000):z0c X z4P [ALim l] h K=K (AI (z0T l)) h []:=by
 refine rule ?_
 rw[c_q044 rfl]
 unfold z0T
 by_cases h0:l.length=0
 ·have h0':(l.length:Int)=0:=by omega
  simp only[zak,go_sem,h0',h0]
 have h0':¬ (l.length:Int)=0:=by omega
 by_cases h1:(100:Int)<l.length
 ·simp only[zak,go_sem,h0',h0,h1]
 simp only[zak,go_sem,h0',h0,h1]
 refine z0D (fun k:Nat=>⟨[(0,ALim l),(13,ALim l),(14,AI l.length),(15,AI k)],h,[]⟩) (fun k=>k≤l.length∧z0X (l.take k) (l.drop k)=z0X [] l) (fun k=>l.length-k) 0 rfl ⟨by omega,rfl⟩ ?_
 rintro k ⟨hkl,hp⟩
 rcases Nat.lt_or_ge k l.length with hlt | hge
 ·have hg:=z0C Lim.pv hlt
  have w2:IntKind.i64.wrap ((k:Int)+1)=((k+1:Nat):Int):=z0h _ (by omega) (by omega)
  have hkx:=hk _ (List.getElem_mem hlt)
  rw[List.drop_eq_getElem_cons hlt,z0X,← List.take_succ_eq_append_getElem hlt] at hp
  have ewin:win (l.map Lim.pv) 0 k=(l.take k).map Lim.pv:=by simp [win,List.map_take]
  have fnd:=fun h K=>ztl (h:=h) (K:=K) (l.take k) l[k].key (by simp;omega)
  generalize l[k]=x at *
  have ky:=fun h K=>zcg (h:=h) (K:=K) x.key (by omega)
  generalize hw:zoP (l.take k) x.key=w at *
  cases h2:keyB x.key with
  | false=>
   rw[h2] at hp
   simp only[if_true] at hp
   simp only[go_sem,Lim.pv,hlt,hg,ky,h2]
   rw[← hp]
  | true=>
   rw[h2] at hp
   simp only[reduceCtorEq,if_false] at hp
   by_cases h3:0≤w
   ·rw[if_pos h3] at hp
    simp only[go_sem,Lim.pv,hlt,hg,ky,h2,hkl,ewin,fnd,h3]
    rw[← hp]
   ·rw[if_neg h3] at hp
    unfold zpV at hp
    cases h4:inB (-100000) x.lo x.hi with
    | false=>
     simp only[h4,Bool.not_false,Bool.true_or,if_true] at hp
     simp only[go_sem,Lim.pv,hlt,hg,ky,h2,hkl,ewin,fnd,h3,z7A,h4]
     rw[← hp]
    | true=>
     by_cases h5:100000<x.hi
     ·simp only[h4,h5,Bool.not_true,Bool.false_or,decide_true,Bool.true_or,if_true] at hp
      simp only[go_sem,Lim.pv,hlt,hg,ky,h2,hkl,ewin,fnd,h3,z7A,h4,h5]
      rw[← hp]
     ·cases h6:inB 2 x.bin 100 with
      | false=>
       simp only[h4,h5,h6,Bool.not_true,Bool.false_or,decide_false,Bool.not_false,if_true] at hp
       simp only[go_sem,Lim.pv,hlt,hg,ky,h2,hkl,ewin,fnd,h3,z7A,h4,h5,h6]
       rw[← hp]
      | true=>
       simp only[h4,h5,h6,Bool.not_true,Bool.false_or,decide_false,Bool.or_self,reduceCtorEq,if_false] at hp
       simp only[go_sem,Lim.pv,hlt,hg,ky,h2,hkl,ewin,fnd,h3,z7A,h4,h5,h6,w2]
       exact⟨k+1,rfl,⟨by omega,hp⟩,by omega⟩
 ·have ek:k=l.length:=by omega
  subst ek
  rw[List.drop_length] at hp
  simp only[go_sem,Nat.lt_irrefl]
  rw[← hp];rfl
end Go.Am
end
section
/- Package lot on measured values,and what the reference says of them. -/
open Go
namespace Go.Am
variable {h:Heap} {K:Post}
def isM (n:Int):Bool:=decide (-100000≤n)&&decide (n≤100000)
def z2p (l:List Int) (zpS:Int):Int:=if (l.length:Int)<zpS then 8 else if 5000<(l.length:Int) then 2 else if l.all isM then 0 else 1
theorem zf0 {l:List Int}:shps none (l.map eI):=fun x hx=>by obtain⟨n,_,rfl⟩:=List.mem_map.1 hx;rfl
theorem z98 (n:Int):z0c X z7g [AI n] h K=K (AB (isM n)) h []:=by
 refine rule ?_
 rw[c_q02d rfl]
 simp only[zm3,go_sem,s_Out,zuH,Bool.not_not]
 rfl
theorem s_vf1 (n:Int):z0c X z8I [AI n] h K=K (AB (!isM n)) h []:=by
 refine rule ?_
 rw[c_q02k rfl]
 simp only[zm5,go_sem,z98]
def noM:PV→Bool:=fun x=>match x with | .int _ n=>!isM n | _=>false
theorem zf1 (l:List Int):(l.map eI).any noM = !l.all isM:=by
 induction l with
 | nil=>rfl
 | cons x r ih=>simp only[List.map_cons,List.any_cons,List.all_cons,ih,Bool.not_and];rfl
theorem zck (l:List Int) (n:Int) (hl:l.length≤1000000000):z0c X zaC [AL l,AI n] h K=K (AI (z2p l n)) h []:=by
 refine rule ?_
 rw[c_q02j rfl]
 have c:=fun K=>z1V (h:=h) (K:=K) (g:=z8I) (caps:=[]) (p:=noM) (xs:=l.map eI) (fun x hx K=>by obtain⟨n,_,rfl⟩:=List.mem_map.1 hx;exact s_vf1 n) zf0 (by simpa using hl)
 rw[zf1] at c
 unfold z2p
 by_cases h1:(l.length:Int)<n
 ·simp only[zdu,go_sem,h1]
 ·by_cases h2:(5000:Int)<l.length
  ·simp only[zdu,go_sem,h1,h2]
  ·cases h3:l.all isM <;> simp only[zdu,go_sem,h1,h2,c,h3]
structure Meas (l:List Int):Prop where
 len:l.length≤5000
 bd:∀ n∈l,-100000≤n∧n≤100000
theorem zeF {l:List Int} {n:Int} (h:z2p l n=0):Meas l∧n≤l.length:=by
 unfold z2p at h
 split at h
 ·cases h
 ·split at h
  ·cases h
  ·split at h
   ·rename_i h1 h2 h3
    refine⟨⟨by omega,fun x hx=>?_⟩,by omega⟩
    have:=List.all_eq_true.1 h3 x hx
    simpa [isM] using this
   ·cases h
def sqs (l:List Int):Int:=(l.map fun n=>n*n).sum
theorem zcm (l:List Int) (k:Nat) (hk:k<l.length):sqs (l.take (k+1))=sqs (l.take k)+l[k]*l[k]:=by
 unfold sqs;rw[List.take_succ_eq_append_getElem hk,List.map_append,List.sum_append];simp
theorem zwR {n B:Int} (h : -B≤n∧n≤B):0≤n*n∧n*n≤B*B:=by
 have h1:n.natAbs*n.natAbs≤B.natAbs*B.natAbs:=Nat.mul_le_mul (by omega) (by omega)
 have e1:=Int.natAbs_mul_self (a:=n)
 have e2:=Int.natAbs_mul_self (a:=B)
 have h2:((n.natAbs*n.natAbs:Nat):Int)≤((B.natAbs*B.natAbs:Nat):Int):=by exact_mod_cast h1
 exact⟨by rw[← e1];omega,by rw[← e1,← e2];exact h2⟩
theorem zuM {l:List Int} (hm:Meas l) (k:Nat):0≤sqs (l.take k)∧sqs (l.take k)≤50000000000000:=by
 have h1:∀ n∈(l.take k).map (fun n=>n*n),0≤n∧n≤10000000000:=by
  intro n hn
  obtain⟨x,hx,rfl⟩:=List.mem_map.1 hn
  have:=zwR (hm.bd x (List.mem_of_mem_take hx))
  omega
 have h2:=zuN _ _ _ h1
 have h3:=hm.len
 simp only[List.length_map,List.length_take] at h2
 unfold sqs
 omega
theorem Meas.sum {l:List Int} (hm:Meas l) (k:Nat) : -500000000≤(l.take k).sum∧(l.take k).sum≤500000000:=by
 have:=zgj hm.bd hm.len (by omega) k
 omega
def z5k (l:List Int):Int:=l.length*sqs l-l.sum*l.sum
theorem zb2 {l:List Int} (hm:Meas l):(0≤l.length*sqs l∧l.length*sqs l≤250000000000000000)∧(0≤l.sum*l.sum∧l.sum*l.sum≤250000000000000000):=by
 have h1:=zuM hm l.length
 have h2:=hm.sum l.length
 rw[List.take_length] at h1 h2
 have h3:=hm.len
 exact⟨zuD (by omega) (show (l.length:Int)≤5000 by omega) h1.1 h1.2,zwR h2⟩
theorem s_sums (l:List Int) (hm:Meas l):z0c X zaB [AL l] h K=K (.tup [AI l.sum,AI (z5k l)]) h []:=by
 refine rule ?_
 rw[c_q02i rfl]
 simp only[zgI,go_sem]
 refine z0D (fun k:Nat=>⟨[(0,AL l),(2,AI (l.take k).sum),(4,AI (sqs (l.take k))),(7,AL l),(8,AI l.length),(9,AI k)],h,[]⟩) (fun k=>k≤l.length) (fun k=>l.length-k) 0 rfl (by simp) ?_
 intro k hk
 have h3:=hm.len
 rcases Nat.lt_or_ge k l.length with hlt | hge
 ·have hg:=z0C eI hlt
  have e1:=zcn l k hlt
  have e2:=zcm l k hlt
  have b1:=hm.sum (k+1)
  have b2:=zuM hm (k+1)
  have b3:=zwR (hm.bd _ (List.getElem_mem hlt))
  have w1:IntKind.i64.wrap ((l.take k).sum+l[k])=(l.take (k+1)).sum:=by rw[← e1];exact z0h _ (by omega) (by omega)
  have w2:IntKind.i64.wrap (l[k]*l[k])=l[k]*l[k]:=z0h _ (by omega) (by omega)
  have w3:IntKind.i64.wrap (sqs (l.take k)+l[k]*l[k])=sqs (l.take (k+1)):=by rw[← e2];exact z0h _ (by omega) (by omega)
  have w4:IntKind.i64.wrap ((k:Int)+1)=((k+1:Nat):Int):=z0h _ (by omega) (by omega)
  simp only[go_sem,hlt,hg,w1,w2,w3,w4]
  exact⟨k+1,rfl,by omega,by omega⟩
 ·have:k=l.length:=by omega
  subst this
  obtain⟨⟨b1,b2⟩,b3,b4⟩:=zb2 hm
  have w1:IntKind.i64.wrap (l.length*sqs l)=l.length*sqs l:=z0h _ (by omega) (by omega)
  have w2:IntKind.i64.wrap (l.sum*l.sum)=l.sum*l.sum:=z0h _ (by omega) (by omega)
  have w3:IntKind.i64.wrap (l.length*sqs l-l.sum*l.sum)=z5k l:=z0h _ (by omega) (by omega)
  simp only[go_sem,Nat.lt_irrefl,List.take_length,w1,w2,w3]
def zsn (x:Int × Int):PV:=.agg [eI x.1,eI x.2]
theorem zje {l:List Int} (hm:Meas l) : -250000000000000000≤z5k l∧z5k l≤250000000000000000:=by
 obtain⟨⟨b1,b2⟩,b3,b4⟩:=zb2 hm
 unfold z5k;omega
def zgi (l:List Int):AV:=if z2p l 1=0 then .tup [.p (zsn (low l.sum l.length)),.p (zsn (low (z5k l) (l.length*l.length))),AI 0] else .tup [.p (zsn (0,0)),.p (zsn (0,0)),AI (z2p l 1)]
theorem ztk (l:List Int) (hl:l.length≤1000000000):z0c X za3 [AL l] h K=K (zgi l) h []:=by
 refine rule ?_
 rw[c_q025 rfl]
 have vf:=fun h K=>zck (h:=h) (K:=K) l 1 hl
 unfold zgi
 by_cases hf:z2p l 1=0
 ·obtain⟨hm,hn⟩:=zeF hf
  have h3:=hm.len
  have b1:=hm.sum l.length
  rw[List.take_length] at b1
  have b2:=zje hm
  have b3:=zuD (show 0≤(l.length:Int) by omega) (show (l.length:Int)≤5000 by omega) (show 0≤(l.length:Int) by omega) (show (l.length:Int)≤5000 by omega)
  have b4:0<(l.length:Int)*l.length:=Int.mul_pos (by omega) (by omega)
  have w:IntKind.i64.wrap (l.length*l.length)=l.length*l.length:=z0h _ (by omega) (by omega)
  rw[hf] at vf
  simp only[zgG,go_sem,vf,hf,s_sums l hm,zbs l.sum l.length (by omega) (by omega),w,zbs (z5k l) (l.length*l.length) (by omega) (by omega)]
  rfl
 ·simp only[zgG,go_sem,vf,hf]
  rfl
end Go.Am
end
section
/- Records: what they are,what is wrong with them. -/
open Go
set_option linter.unusedSimpArgs false
namespace Go.Am
variable {h:Heap} {K:Post}
theorem zq4 {b:Nat} {P:Post} {vs:List AV} {h:Heap}:retK true b P (some vs) h []=P (z1d vs) (h.take (max b (z1d vs).top)) []:=by
 simp [retK,z2a,z1a]
attribute [go_sem] zq4
structure Rec where
 unit:List UInt8
 time:Int
 site:List UInt8
 res:List Int
def Rec.pv (r:Rec):PV:=.agg [.str r.unit,eI r.time,.str r.site,.sl none (r.res.map eI)]
abbrev ARec (l:List Rec):AV:=.p (.sl (some 4) (l.map Rec.pv))
theorem z7K {l:List Rec}:shps (some 4) (l.map Rec.pv):=fun x hx=>by obtain⟨n,_,rfl⟩:=List.mem_map.1 hx;rfl
structure RecOk (r:Rec):Prop where
 u:r.unit.length≤1000
 s:r.site.length≤1000
 n:r.res.length≤1000
structure LimOk (l:List Lim):Prop where
 n:l.length≤1000
 k:∀ x∈l,x.key.length≤1000
def good (x:Lim) (n:Int):Bool:=inB x.lo n x.hi
def z3V (l:List Lim) (res:List Int):List Bool:=List.zipWith good l res
def z2C (l:List Lim) (res:List Int):Int:=if (z3V l res).findIdx (fun b=>!b)<(z3V l res).length then ((z3V l res).findIdx (fun b=>!b):Int) else -1
def z5a (l:List Lim) (res:List Int):Bool:=inB 1 res.length l.length && !(decide (0≤z2C l res)&&decide (z2C l res≠(res.length:Int)-1)) && !(decide (z2C l res<0)&&decide ((res.length:Int)≠l.length))
def z6F (n:Int):Bool:=inB 0 n 345686399999
def z0I (l:List Lim) (r:Rec):Int:=if (keyB r.unit&&keyB r.site)=false then 5 else if z6F r.time=false then 1 else if r.res.all isM=false then 1 else if z5a l r.res=false then 3 else 0
def z1s (a b:Rec):Int:=if cmp3 a.time b.time≠0 then cmp3 a.time b.time else cmpL a.unit b.unit
def z0E (l:List Lim):Option Rec→List Rec→Int
 | _,[]=>0
 | p,x::r=>if z0I l x≠0 then z0I l x else if (match p with | some q=>decide (z1s x q≤0) | none=>false)=true then 7 else z0E l (some x) r
def z1H (l:List Lim) (r:List Rec):Int:=if (5000:Int)<r.length then 2 else z0E l none r
def z07 (l:List Lim) (r:List Rec):Int:=if z0T l≠0 then z0T l else z1H l r
theorem zrD (x y:Int):cmp3 y x = - cmp3 x y:=by
 unfold cmp3;split <;> split <;> (try split) <;> (try split) <;> omega
theorem ziN (a b:Rec):z1s b a = - z1s a b:=by
 unfold z1s
 rw[zrD a.time b.time,zg0 a.unit b.unit]
 by_cases hc:cmp3 a.time b.time=0
 ·simp [hc]
 ·rw[if_pos (by omega),if_pos hc]
theorem zhI (x:Lim) (n:Int):z0c X z7f [.p x.pv,AI n] h K=K (AB (good x n)) h []:=by
 refine rule ?_
 rw[c_q02c rfl]
 simp only[zm2,Lim.pv,go_sem,zbu,Bool.not_not]
 rfl
theorem z7L (n:Int):z0c X zau [AI n] h K=K (AB (z6F n)) h []:=by
 refine rule ?_
 rw[c_q007 rfl]
 simp only[zms,go_sem,zbu,Bool.not_not]
 rfl
theorem z14 (n:Int):z0c X zaI [AI n] h K=K (AB (z6F n)) h []:=by
 refine rule ?_
 rw[c_q046 rfl]
 simp only[zmC,go_sem,z7A]
 rfl
theorem zoY {l:List Lim} {res:List Int} (h:res.length≤l.length):(z3V l res).length=res.length:=by simp [z3V];omega
theorem z8S {l:List Lim} {res:List Int} {i:Nat} (h1:i<l.length) (h2:i<res.length):(z3V l res)[i]?=some (good l[i] res[i]):=by
 unfold z3V;rw[List.getElem?_zipWith];simp [h1,h2]
def okTo (l:List Lim) (res:List Int) (k:Nat):Prop:=∀ i,i<k→(z3V l res)[i]?≠some false
theorem z6A {l:List Lim} {res:List Int} {k:Nat} (h1:okTo l res k) (h2:(z3V l res)[k]?=some false):z2C l res=k:=by
 obtain⟨hk,e⟩:=List.getElem?_eq_some_iff.1 h2
 have:(z3V l res).findIdx (fun b=>!b)=k:=by
  rw[List.findIdx_eq hk]
  refine⟨by simp [e],fun j hj=>?_⟩
  have:=h1 j hj
  rw[List.getElem?_eq_getElem (by omega)] at this
  cases hq:(z3V l res)[j] with
  | true=>rfl
  | false=>rw[hq] at this;exact absurd rfl this
 unfold z2C
 rw[this,if_pos hk]
theorem z7t {l:List Lim} {res:List Int} (h1:okTo l res (z3V l res).length):z2C l res = -1:=by
 unfold z2C
 rw[if_neg]
 intro h
 have:=List.findIdx_getElem (w:=h)
 have h2:=h1 _ h
 rw[List.getElem?_eq_getElem h] at h2
 simp at this
 rw[this] at h2
 exact h2 rfl
theorem zwK (l:List Lim) (r:Rec) (h1:1≤r.res.length) (h2:r.res.length≤l.length) (hn:l.length≤1000) :
 z0c X za7 [ALim l,.p r.pv] h K=K (AI (if good l[r.res.length-1] r.res[r.res.length-1] then -1 else (r.res.length:Int)-1)) h []:=by
 refine rule ?_
 rw[c_q029 rfl]
 have w:IntKind.i64.wrap ((r.res.length:Int)-1)=((r.res.length-1:Nat):Int):=by rw[z0h _ (by omega) (by omega)];omega
 have g1:=z0C Lim.pv (show r.res.length-1<l.length by omega)
 have g2:=z0C eI (show r.res.length-1<r.res.length by omega)
 have e:(r.res.length:Int)-1=((r.res.length-1:Nat):Int):=by omega
 have cx:cutP (some 4) 0 (l[r.res.length-1].pv)=some l[r.res.length-1].pv:=rfl
 rw[e]
 cases hg:good l[r.res.length-1] r.res[r.res.length-1] with
 | true=>simp only[zgH,Rec.pv,go_sem,w,g1,g2,cx,zhI,hg]
 | false=>simp only[zgH,Rec.pv,go_sem,w,g1,g2,cx,zhI,hg]
theorem ziW (l:List Lim) (r:Rec) (hl:l.length≤1000) (hr:r.res.length≤1000):z0c X za6 [ALim l,.p r.pv] h K=K (AB (z5a l r.res)) h []:=by
 refine rule ?_
 rw[c_q028 rfl]
 by_cases h1:r.res.length=0
 ·have h1':(r.res.length:Int)=0:=by omega
  have:z5a l r.res=false:=by simp [z5a,inB,h1]
  simp only[zah,Rec.pv,go_sem,h1',this]
 have h1':¬ (r.res.length:Int)=0:=by omega
 by_cases h2:(l.length:Int)<r.res.length
 ·have:z5a l r.res=false:=by simp [z5a,inB];intro;omega
  simp only[zah,Rec.pv,go_sem,h1',h2,this]
 have hle:r.res.length≤l.length:=by omega
 have w:IntKind.i64.wrap ((r.res.length:Int)-1)=((r.res.length-1:Nat):Int):=by rw[z0h _ (by omega) (by omega)];omega
 have hn1:r.res.length-1≤r.res.length:=by omega
 have ewin:win (r.res.map eI) 0 (r.res.length-1)=(r.res.take (r.res.length-1)).map eI:=by simp [win,List.map_take]
 have hfm:inB 1 r.res.length l.length=true:=by simp [inB];omega
 simp only[zah,Rec.pv,go_sem,h1',h2,w,hn1,ewin]
 have etl:min (r.res.length-1) r.res.length=r.res.length-1:=by omega
 refine z0D (fun k:Nat=>⟨[(0,ALim l),(3,.ref h.length 0),(5,AI r.res.length),(23,AL (r.res.take (r.res.length-1))),(24,AI ((r.res.length-1:Nat):Int)),(25,AI k)],h++[.box [AS r.unit,AI r.time,AS r.site,AL r.res]],[]⟩) (fun k=>k≤r.res.length-1∧okTo l r.res k) (fun k=>r.res.length-k) 0 ?_ ⟨by omega,fun i hi=>by omega⟩ ?_
 ·simp [etl]
 rintro k ⟨hk,hok⟩
 rcases Nat.lt_or_ge k (r.res.length-1) with hlt | hge
 ·have g1:=z0C Lim.pv (show k<l.length by omega)
  have g2:((r.res.take (r.res.length-1)).map eI)[k]?=some (eI r.res[k]):=by simp [List.getElem?_take,hlt,show k<r.res.length by omega]
  have cx:cutP (some 4) 0 (l[k].pv)=some l[k].pv:=rfl
  have gg:=z8S (l:=l) (res:=r.res) (show k<l.length by omega) (show k<r.res.length by omega)
  have w2:IntKind.i64.wrap ((k:Int)+1)=((k+1:Nat):Int):=z0h _ (by omega) (by omega)
  have hlt':k<r.res.length-1:=hlt
  cases hg:good l[k] r.res[k] with
  | false=>
   rw[hg] at gg
   have hf:=z6A hok gg
   have:z5a l r.res=false:=by
    unfold z5a
    rw[hf]
    have q1:decide ((0:Int)≤(k:Int))=true:=by simp
    have q2:decide ((k:Int)≠(r.res.length:Int)-1)=true:=by simp;omega
    rw[q1,q2];simp
   simp only[go_sem,hlt',g1,g2,cx,zhI,hg,this]
  | true=>
   simp only[go_sem,hlt',g1,g2,cx,zhI,hg,w2]
   refine⟨k+1,rfl,⟨by omega,fun i hi=>?_⟩,by omega⟩
   rcases Nat.lt_or_ge i k with h3 | h3
   ·exact hok i h3
   ·have:i=k:=by omega
    subst this;rw[gg,hg];simp
 ·have ek:k=r.res.length-1:=by omega
  subst ek
  have hb:¬ (r.res.length-1<r.res.length-1):=by omega
  have gg:=z8S (l:=l) (res:=r.res) (show r.res.length-1<l.length by omega) (show r.res.length-1<r.res.length by omega)
  have cx:cutP (some 4) 0 (PV.agg [.str r.unit,eI r.time,.str r.site,.sl none (r.res.map eI)])=some r.pv:=rfl
  have fl:=fun h K=>zwK (h:=h) (K:=K) l r (by omega) hle hl
  have hF:z5a l r.res=(decide ((r.res.length:Int)=l.length) || !good l[r.res.length-1] r.res[r.res.length-1]):=by
   unfold z5a
   rw[hfm]
   cases hg:good l[r.res.length-1] r.res[r.res.length-1] with
   | false=>
    rw[hg] at gg
    rw[z6A hok gg]
    have q1:decide (((r.res.length-1:Nat):Int)≠(r.res.length:Int)-1)=false:=by simp;omega
    have q2:decide (((r.res.length-1:Nat):Int)<0)=false:=by simp
    rw[q1,q2];simp
   | true=>
    have hokn:okTo l r.res (z3V l r.res).length:=by
     rw[zoY hle]
     intro i hi
     rcases Nat.lt_or_ge i (r.res.length-1) with h3 | h3
     ·exact hok i h3
     ·have:i=r.res.length-1:=by omega
      subst this;rw[gg,hg];simp
    rw[z7t hokn]
    simp
  rw[hF]
  by_cases he:(r.res.length:Int)=l.length
  ·simp only[go_sem,hb,he]
  ·cases hg:good l[r.res.length-1] r.res[r.res.length-1] with
   | true=>
    have fl':=fun h K=>fl h K
    simp only[hg,if_true,Rec.pv] at fl'
    simp only[go_sem,hb,he,fl',Rec.pv]
   | false=>
    have fl':=fun h K=>fl h K
    have hz:(0:Int)≤(r.res.length:Int)-1:=by omega
    simp only[hg,Rec.pv,reduceCtorEq,if_false] at fl'
    simp only[go_sem,hb,he,fl',Rec.pv,hz]
end Go.Am
end
section
/- A text split at a byte. -/
set_option linter.all false
namespace Go.Am
def z0m (c:UInt8):List UInt8→List (List UInt8)
 | []=>[[]]
 | b::r=>if b=c then []::z0m c r else match z0m c r with
  | []=>[[b]]
  | p::q=>(b::p)::q
theorem z4t (c:UInt8):∀ s,z0m c s≠[]
 | []=>by simp [z0m]
 | b::r=>by
  unfold z0m
  split
  ·simp
  ·split <;> simp
theorem z5j {c:UInt8}:∀ {s:List UInt8},c∉s→z0m c s=[s]
 | [],_=>rfl
 | b::r,h=>by
  simp only[List.mem_cons,not_or] at h
  unfold z0m
  rw[if_neg (fun e=>h.1 e.symm),z5j h.2]
theorem z4E {c:UInt8}:∀ {a b:List UInt8},c∉a→z0m c (a++c::b)=a::z0m c b
 | [],b,_=>by simp [z0m]
 | x::a,b,h=>by
  simp only[List.mem_cons,not_or] at h
  rw[List.cons_append,z0m.eq_2,if_neg (fun e=>h.1 e.symm),z4E h.2]
theorem z0M (c:UInt8):∀ s:List UInt8,(z0m c s).length=s.count c+1
 | []=>rfl
 | b::r=>by
  unfold z0m
  by_cases e:b=c
  ·subst e;rw[if_pos rfl,List.length_cons,z0M b r,List.count_cons_self]
  ·rw[if_neg e]
   have ih:=z0M c r
   rw[List.count_cons_of_ne e]
   split
   ·rename_i h;exact absurd h (z4t c r)
   ·rename_i p q h;rw[h] at ih;simpa using ih
theorem zmq {c:UInt8} {s:List UInt8} (h:c∈s):∃ a b,s=a++c::b∧c∉a:=by
 induction s with
 | nil=>simp at h
 | cons x r ih=>
  by_cases e:x=c
  ·subst e;exact⟨[],r,rfl,by simp⟩
  ·rcases List.mem_cons.1 h with rfl | h
   ·exact absurd rfl e
   ·obtain⟨a,b,rfl,hb⟩:=ih h
    exact⟨x::a,b,rfl,by simp only[List.mem_cons,not_or];exact⟨fun q=>e q.symm,hb⟩⟩
def z1v (c:UInt8):Nat→List UInt8→List UInt8
 | 0,s=>s
 | k+1,s=>z1v c k ((s.dropWhile (· != c)).drop 1)
theorem zvE {c:UInt8} {a b:List UInt8} (h:c∉a):((a++c::b).dropWhile (· != c)).drop 1=b:=by
 induction a with
 | nil=>simp
 | cons x r ih=>
  simp only[List.mem_cons,not_or] at h
  rw[List.cons_append,List.dropWhile_cons,if_pos (by simp;exact fun e=>h.1 e.symm)]
  exact ih h.2
theorem z3s (c:UInt8):∀ (k:Nat) (s:List UInt8),k≤s.count c→z0m c (z1v c k s)=(z0m c s).drop k∧(z1v c k s).length≤s.length∧(z1v c k s).count c=s.count c-k
 | 0,s,_=>⟨rfl,Nat.le_refl _,rfl⟩
 | k+1,s,h=>by
  obtain⟨a,b,rfl,hb⟩:=zmq (c:=c) (s:=s) (List.count_pos_iff.1 (by omega))
  have ha:a.count c=0:=List.count_eq_zero.2 hb
  have hc:(a++c::b).count c=b.count c+1:=by rw[List.count_append,List.count_cons_self,ha];omega
  obtain⟨h1,h2,h3⟩:=z3s c k b (by omega)
  unfold z1v
  rw[zvE hb,z4E hb,List.drop_succ_cons,h1,h3,hc]
  exact⟨rfl,by simp;omega,by omega⟩
theorem z9y (c:UInt8):∀ (k:Nat) (s:List UInt8),z1v c (k+1) s=((z1v c k s).dropWhile (· != c)).drop 1
 | 0,s=>rfl
 | k+1,s=>by
  show z1v c (k+1) _=_
  rw[z9y c k]
  rfl
end Go.Am
end
section
/- A text read line by line. -/
set_option linter.all false
namespace Go.Am
def lnsD (s:List UInt8):List (List UInt8):=(z0m 10 s).dropLast
def lnsT (s:List UInt8):Bool:=!((z0m 10 s).getLast?.getD []).isEmpty
def lnsF {σ:Type} (take:σ→List UInt8→Bool × σ) (tail:Bool):Nat→List (List UInt8)→σ→(Nat × Bool) × σ
 | i,[],s=>bif tail then ((i,false),s) else ((0,true),s)
 | i,l::r,s=>bif (take s l).1 then lnsF take tail (i+1) r (take s l).2 else ((i,false),(take s l).2)
theorem z5G {σ:Type} {take:σ→List UInt8→Bool × σ} {tail:Bool} {i:Nat} {s:σ}:lnsF take tail i [] s=bif tail then ((i,false),s) else ((0,true),s):=rfl
theorem z3Y {σ:Type} {take:σ→List UInt8→Bool × σ} {tail:Bool} {i:Nat} {l:List UInt8} {r:List (List UInt8)} {s:σ}:lnsF take tail i (l::r) s=bif (take s l).1 then lnsF take tail (i+1) r (take s l).2 else ((i,false),(take s l).2):=rfl
theorem z9B {c:UInt8}:∀ {s:List UInt8},z0m c (s++[c])=z0m c s++[[]]
 | []=>by simp [z0m]
 | b::r=>by
  have ih:=z9B (c:=c) (s:=r)
  rw[List.cons_append,z0m.eq_2,z0m.eq_2,ih]
  split
  ·rfl
  ·cases h:z0m c r with
   | nil=>exact absurd h (z4t c r)
   | cons p q=>rfl
theorem z6L {c:UInt8}:∀ {s:List UInt8},(z0m c s).getLast?=some []→s=[]∨s.getLast?=some c
 | [],_=>.inl rfl
 | b::r,h=>by
  right
  rw[z0m.eq_2] at h
  have hr:=z4t c r
  by_cases e:b=c
  ·subst e
   rw[if_pos rfl,List.getLast?_cons] at h
   cases hl:(z0m b r).getLast? with
   | none=>simp at hl;exact absurd hl hr
   | some p=>
    rw[hl] at h
    simp at h
    subst h
    rcases z6L hl with rfl | h2
    ·rfl
    ·rw[List.getLast?_cons,h2];rfl
  ·rw[if_neg e] at h
   cases hq:z0m c r with
   | nil=>exact absurd hq hr
   | cons p q=>
    rw[hq] at h
    cases q with
    | nil=>simp at h
    | cons p2 q2=>
     have:(z0m c r).getLast?=some []:=by rw[hq];simpa using h
     rcases z6L this with rfl | h2
     ·simp [z0m] at hq
     ·rw[List.getLast?_cons,h2];rfl
theorem ziG {s:List UInt8} (h:s.getLast?=some 10):z0m 10 s.dropLast=lnsD s∧lnsT s=false:=by
 rcases List.eq_nil_or_concat s with rfl | ⟨r,x,rfl⟩
 ·simp at h
 ·simp only[List.concat_eq_append] at *
  simp at h
  subst h
  have e:=z9B (c:=10) (s:=r)
  unfold lnsD lnsT
  rw[e]
  simp
theorem zpW {s:List UInt8} (h0:s≠[]) (h:s.getLast?≠some 10):∃ t,z0m 10 s=lnsD s++[t]∧lnsT s=true:=by
 have hne:=z4t 10 s
 refine⟨(z0m 10 s).getLast hne,(List.dropLast_concat_getLast hne).symm,?_⟩
 unfold lnsT
 rw[List.getLast?_eq_getLast hne]
 simp only[Option.getD_some,Bool.not_eq_true',List.isEmpty_eq_false_iff]
 intro e
 rcases z6L (c:=10) (s:=s) (by rw[List.getLast?_eq_getLast hne,e]) with h1 | h1
 ·exact h0 h1
 ·exact h h1
end Go.Am
end
section
/- Numbers in texts. -/
set_option linter.all false
namespace Go.Am
def digB (c:UInt8):Bool:=decide (48≤c.toNat)&&decide (c.toNat≤57)
def z09 (s:List UInt8):List UInt8:=if s.take 1=[45] then s.drop 1 else s
def numF (digits:Nat) (s:List UInt8):Bool:=!(z09 s).isEmpty&&decide ((z09 s).length≤digits) && !(decide ((z09 s).head?=some 48)&&(decide (1<(z09 s).length)||decide ((z09 s).length<s.length)))&&(z09 s).all digB
def numV (s:List UInt8):Int:=if s.take 1=[45] then -(((digN 0 (z09 s)).getD 0:Nat):Int) else ((digN 0 (z09 s)).getD 0:Nat)
theorem z7F:∀ (s:List UInt8) (acc:Nat),s.all digB=true→∃ n,digN acc s=some n
 | [],acc,_=>⟨acc,rfl⟩
 | c::r,acc,h=>by
  simp only[List.all_cons,Bool.and_eq_true] at h
  obtain⟨n,hn⟩:=z7F r (acc*10+(c.toNat-48)) h.2
  refine⟨n,?_⟩
  have hc:48≤c.toNat∧c.toNat≤57:=by simpa [digB] using h.1
  unfold digN
  rw[if_pos hc,hn]
theorem zv6 {r:List UInt8}:digN 0 (45::r)=none:=by
 unfold digN
 rw[if_neg]
 decide
theorem zr7 {s:List UInt8} (h1:z09 s≠[]) (h2:(z09 s).length≤17) (h:(z09 s).all digB=true):zis [.str s]=some (.tup [.p (.int .i64 (numV s)),.nili]):=by
 obtain⟨n,hn⟩:=z7F (z09 s) 0 h
 unfold zis numV
 by_cases e:s.take 1=[45]
 ·have ed:z09 s=s.drop 1:=by unfold z09;rw[if_pos e]
  cases s with
  | nil=>simp at e
  | cons c r=>
   simp at e
   subst e
   rw[ed] at h1 h2 hn
   simp only[List.drop_one,List.tail_cons] at h1 h2 hn
   have hr:1≤r.length:=by cases r with | nil=>exact absurd rfl h1 | cons _ _=>simp
   simp only[List.length_cons]
   rw[if_pos ⟨by omega,by omega⟩,zv6]
   simp only[List.head?_cons,List.tail_cons]
   rw[if_pos ⟨trivial,by omega⟩,hn,ed]
   simp [hn]
 ·have ed:z09 s=s:=by unfold z09;rw[if_neg e]
  rw[ed] at h1 h2 hn
  have hr:1≤s.length:=by cases s with | nil=>exact absurd rfl h1 | cons _ _=>simp
  simp only
  rw[if_pos ⟨hr,by omega⟩,hn,if_neg e,ed,hn]
  rfl
theorem zmW {c:UInt8} (h:digB c=true):digC (c.toNat-48)=c:=by
 have hc:48≤c.toNat∧c.toNat≤57:=by simpa [digB] using h
 unfold digC
 apply UInt8.toNat_inj.1
 rw[UInt8.toNat_ofNat']
 omega
theorem zep:∀ (n:Nat),(decN n).head?=some 48→n=0:=by
 intro n
 induction n using Nat.strongRecOn with
 | ind n ih=>
  intro h
  rcases Nat.lt_or_ge n 10 with h1 | h1
  ·rw[z3Q h1] at h
   simp only[List.head?_cons,Option.some.injEq] at h
   have:=congrArg UInt8.toNat h
   rw[zrL h1] at this
   have e:(48:UInt8).toNat=48:=rfl
   omega
  ·rw[zfH h1] at h
   have hl:=zbG (n / 10) (n / 10) (by have:=@Nat.lt_pow_self (n / 10+1) 10 (by omega);omega)
   have:(decN (n / 10)).head?=some 48:=by
    cases hq:decN (n / 10) with
    | nil=>rw[hq] at hl;simp at hl
    | cons a r=>rw[hq] at h;simpa using h
   have:=ih (n / 10) (by omega) this
   omega
theorem zmV (d:List UInt8):∀ n,d.all digB=true→d≠[]→(d.head?≠some 48∨d.length=1)→digN 0 d=some n→decN n=d:=by
 induction hr:d.length generalizing d with
 | zero=>intro n _ h;exact absurd (List.length_eq_zero_iff.1 hr) h
 | succ k ih=>
  intro n ha h0 hz hn
  rcases List.eq_nil_or_concat d with rfl | ⟨a,c,rfl⟩
  ·exact absurd rfl h0
  ·simp only[List.concat_eq_append] at *
   rw[List.all_append] at ha
   simp only[Bool.and_eq_true,List.all_cons,List.all_nil,Bool.and_true] at ha
   have hc:48≤c.toNat∧c.toNat≤57:=by simpa [digB] using ha.2
   rw[zeq] at hn
   obtain⟨m,hm,hn2⟩:=Option.bind_eq_some_iff.1 hn
   rw[if_pos hc] at hn2
   simp only[Option.some.injEq] at hn2
   cases a with
   | nil=>
    simp only[digN,Option.some.injEq] at hm
    subst hm
    rw[← hn2,Nat.zero_mul,Nat.zero_add,z3Q (by omega),zmW ha.2]
    rfl
   | cons x r=>
    simp only[List.cons_append,List.head?_cons,List.length_cons,List.length_append,List.length_nil] at hz hr
    have hx:x≠48:=by
     rcases hz with h | h
     ·exact fun e=>h (by rw[e])
     ·omega
    have q:=ih (x::r) (by simp;omega) m ha.1 (by simp) (by left;simpa using hx) hm
    have hm1:m≠0:=by
     intro e
     subst e
     rw[z3Q (by omega)] at q
     injection q with q1 q2
     exact hx (q1.symm.trans rfl)
    rw[← hn2,zfH (by omega),show (m*10+(c.toNat-48)) / 10=m by omega,show (m*10+(c.toNat-48))%10=c.toNat-48 by omega,q,zmW ha.2]
theorem zs5 {s:List UInt8} (h1:z09 s≠[]) (h:(z09 s).all digB=true):decide (itoa (numV s)=s) = !(decide ((z09 s).head?=some 48)&&(decide (1<(z09 s).length)||decide ((z09 s).length<s.length))):=by
 obtain⟨n,hn⟩:=z7F (z09 s) 0 h
 have key:decN n=z09 s↔¬ ((z09 s).head?=some 48∧1<(z09 s).length):=by
  constructor
  ·rintro e ⟨q1,q2⟩
   rw[← e] at q1 q2
   have:=zep n q1
   subst this
   rw[z3Q (by omega)] at q2
   simp at q2
  ·intro q
   refine zmV _ n h h1 ?_ hn
   by_cases q1:(z09 s).head?=some 48
   ·right
    have:¬ 1<(z09 s).length:=fun q2=>q ⟨q1,q2⟩
    have:1≤(z09 s).length:=by cases hq:z09 s with | nil=>exact absurd hq h1 | cons _ _=>simp
    omega
   ·exact .inl q1
 unfold numV
 rw[hn]
 simp only[Option.getD_some]
 by_cases e:s.take 1=[45]
 ·have ed:z09 s=s.drop 1:=by unfold z09;rw[if_pos e]
  rw[if_pos e]
  cases s with
  | nil=>simp at e
  | cons c r=>
   simp at e
   subst e
   rw[ed] at key hn h1 ⊢
   simp only[List.drop_one,List.tail_cons] at key hn h1 ⊢
   have hlt:decide (r.length<(45::r:List UInt8).length)=true:=by simp
   rw[hlt,Bool.or_true,Bool.and_true]
   by_cases h0:n=0
   ·subst h0
    have:decide (itoa (-((0:Nat):Int))=45::r)=false:=by
     simp [itoa,z3Q,digC]
    rw[this]
    have hd0:r.head?=some 48:=by
     by_cases q:r.head?=some 48
     ·exact q
     ·have e:=zmV r 0 (by rw[ed] at h;exact h) h1 (.inl q) hn
      rw[z3Q (by omega)] at e
      rw[← e]
      rfl
    simp [hd0]
   ·have:itoa (-(n:Int))=45::decN n:=by
     unfold itoa
     rw[if_pos (by omega)]
     simp
    rw[this]
    have k2:(45::decN n=45::r)↔¬ r.head?=some 48:=by
     constructor
     ·intro q q1
      injection q with _ q
      rw[← q] at q1
      exact h0 (zep n q1)
     ·intro q
      rw[key.2 (fun z=>q z.1)]
    by_cases q:r.head?=some 48
    ·simp [k2,q]
    ·simp [k2,q]
 ·have ed:z09 s=s:=by unfold z09;rw[if_neg e]
  rw[if_neg e]
  rw[ed] at key ⊢
  have:itoa (n:Int)=decN n:=by
   unfold itoa
   rw[if_neg (by omega)]
   simp
  rw[this]
  by_cases q:decN n=s
  ·have:=key.1 q
   simp only[q,decide_true,Nat.lt_irrefl,decide_false,Bool.or_false]
   simp only[not_and] at this
   by_cases q1:s.head?=some 48
   ·simp [q1,this q1]
   ·simp [q1]
  ·have:=Classical.byContradiction fun z=>q (key.2 z)
   simp [q,this.1,this.2]
end Go.Am
end
section
/- Faults of nets: what the words mean,in plain Lean. -/
set_option linter.all false
namespace Go.Am
structure Flt where
 kind:Int
 nets:List Int
 deriving DecidableEq
end Go.Am
end
section
/- Faults read: the program's line and the reference's line agree. -/
set_option linter.all false
namespace Go.Am
def numR (most:Nat) (s:List UInt8):Int:=if z09 s≠[]∧(z09 s).length≤most∧(z09 s).all digB=true then numV s else 0
def zuR (s:List UInt8):Bool:=!((z0m 32 s).contains [])
theorem zws {d:Nat} {s:List UInt8} (h:numF d s=true):z09 s≠[]∧(z09 s).length≤d∧(z09 s).all digB=true:=by
 unfold numF at h
 simp only[Bool.and_eq_true,Bool.not_eq_true',decide_eq_true_eq,List.isEmpty_eq_false_iff] at h
 exact⟨h.1.1.1,h.1.1.2,h.2⟩
theorem zuF {d:Nat} {s:List UInt8} (h:numF d s=true):numR d s=numV s:=by
 unfold numR
 rw[if_pos (zws h)]
theorem zh2 {σ τ:Type} {f:σ→List UInt8→Bool × σ} {g:τ→List UInt8→Bool × τ} (R:σ→τ→Prop) (hR:∀ s t l,R s t→(f s l).1=(g t l).1∧((f s l).1=true→R (f s l).2 (g t l).2)) (tail:Bool) :
 ∀ (ls:List (List UInt8)) (i:Nat) (s:σ) (t:τ),R s t→(lnsF f tail i ls s).1=(lnsF g tail i ls t).1∧((lnsF f tail i ls s).1.2=true→R (lnsF f tail i ls s).2 (lnsF g tail i ls t).2)
 | [],i,s,t,h=>by
  rw[z5G,z5G]
  cases tail with
  | true=>exact⟨rfl,fun e=>by cases e⟩
  | false=>exact⟨rfl,fun _=>h⟩
 | l::r,i,s,t,h=>by
  obtain⟨h1,h2⟩:=hR s t l h
  rw[z3Y,z3Y,← h1]
  cases hb:(f s l).1 with
  | true=>exact zh2 R hR tail r (i+1) _ _ (h2 hb)
  | false=>exact⟨rfl,fun e=>by cases e⟩
end Go.Am
end
section
/- What is written is read: numbers,words,lines. -/
set_option linter.all false
namespace Go.Am
def z4a (l:List Int):List UInt8:=([32]:List UInt8).intercalate (l.map itoa)
end Go.Am
end
section
/- Where a byte stands in a text. -/
open Go
set_option linter.all false
namespace Go.Am
variable {h:Heap} {K:Post}
theorem zcj (s:List UInt8) (c:UInt8):z0c X z3S [AS s,.p (.int .u8 c.toNat)] h K=K (AI (idxB s c)) h []:=by
 refine rule ?_
 rw[zuv rfl]
 simp only[zgD,go_sem,zhJ]
theorem zpc (a b:List UInt8) (c:UInt8) (ha:c∉a):idxB (a++c::b) c=(a.length:Int):=by
 unfold idxB
 have h1:(a++c::b).findIdx (· == c)=a.length:=by
  rw[List.findIdx_append]
  have:a.findIdx (· == c)=a.length:=by
   rw[List.findIdx_eq_length]
   intro x hx
   simp
   intro e;subst e;exact ha hx
  rw[this,if_neg (by omega)]
  simp [List.findIdx_cons]
 rw[h1,if_pos (by simp)]
end Go.Am
end
section
/- Lengths of numbers in bits,and comparisons of plain values. -/
open Go
namespace Go.Am
variable {h:Heap} {K:Post}
set_option maxRecDepth 20000
end Go.Am
end
section
/- Maps,asv lists of keys with values. -/
open Go
set_option linter.all false
namespace Go.Am
section
variable {α β:Type} [DecidableEq α]
variable {key:α→PV} {val:β→AV}
variable {h:Heap} {id:Nat} {l:List (α × β)} {kk:Sh × List Nat} {k:α}
end
end Go.Am
end
section
/- Lists of strings sorted,left out: printed by program. -/
open Go
set_option linter.unusedSimpArgs false
namespace Go.Am
attribute [-go_sem] PV.cells splice
variable {h:Heap} {K:Post}
end Go.Am
end
section
/- What is drawn: numbers,measured values. -/
open Go
namespace Go.Am
variable {L:List Int} {a:Int}
theorem zvL (hp:posN 14 a) (u v:Int) (huv:u≤v) (hu : -1000000000000≤u) (hv:v≤1000000000000):∃ k a2:Int,a≤a2∧a2≤a+2 ∧ -1099511627776≤k∧k≤1099511627776 ∧
 Gen z7h [AI u,AI v] L a a2 (AI k):=by
 have w1:IntKind.i64.wrap (u-1)=u-1:=z0h _ (by omega) (by omega)
 have w2:IntKind.i64.wrap (v+1)=v+1:=z0h _ (by omega) (by omega)
 by_cases hf:z1l L a 12=0
 ·have hm:=z6r (L:=L) (a:=a+1) (l:=[u-1,v+1,u,v,-1099511627776,1099511627776]) (by simp) (by simp)
  simp only[List.mem_cons,List.not_mem_nil,or_false] at hm
  refine⟨z16 [u-1,v+1,u,v,-1099511627776,1099511627776] L (a+1),a+1+1,by omega,by omega,by omega,by omega,Gen.of fun h id hid=>?_⟩
  rw[zuw rfl]
  simp only[zgM,go_sem,hid,z6t hp,hf,w1,w2]
 ·have hm:=z4o L (a+1) huv (by omega)
  refine⟨z1B u v L (a+1),a+1+1,by omega,by omega,by omega,by omega,Gen.of fun h id hid=>?_⟩
  rw[zuw rfl]
  simp only[zgM,go_sem,hid,z6t hp,hf,w1,w2,huv,show -1152921504606846976≤u by omega,show v≤1152921504606846976 by omega]
end Go.Am
end
section
/- Strings that are drawn. -/
open Go
set_option linter.unusedSimpArgs false
namespace Go.Am
variable {L:List Int} {a:Int} {h l:Heap} {id:Nat} {K:Post}
def isS:PV→Bool
 | .str _=>true
 | _=>false
def unS:PV→List UInt8
 | .str s=>s
 | _=>[]
def z2y (l:List (List UInt8)) (L:List Int) (a:Int):List UInt8:=l.getD (z1l L a l.length).toNat []
theorem z1A {l:List (List UInt8)} {L:List Int} {a:Int} (hl:0<l.length) (hl2:l.length<4611686018427387904):z2y l L a∈l:=by
 obtain⟨b1,b2⟩:=z1N L a l.length (by omega) (by omega)
 unfold z2y
 have:(z1l L a l.length).toNat<l.length:=by omega
 simp only[List.getD,List.getElem?_eq_getElem this,Option.getD_some]
 exact List.getElem_mem _
theorem zxr {xs:List PV} (h:xs.all isS=true):xs=(xs.map unS).map PV.str:=by
 induction xs with
 | nil=>rfl
 | cons x r ih=>
  simp only[List.all_cons,Bool.and_eq_true] at h
  simp only[List.map_cons]
  rw[← ih h.2]
  cases x <;> first | rfl | cases h.1
theorem zoX (hp:posN 0 a) (xs:List PV) (hx:xs.all isS=true) (hl:0<xs.length) (hl2:xs.length<4611686018427387904) :
 Gen z1T [.p (.sl none xs)] L a (a+1) (AS (z2y (xs.map unS) L a)):=by
 refine Gen.of fun h id hid=>?_
 rw[c_q03s rfl]
 obtain⟨b1,b2⟩:=z1N L a xs.length (by omega) (by omega)
 have e4:=z8Y (k:=.i64) b1
 have e5:xs[(z1l L a xs.length).toNat]?=some (.str (z2y (xs.map unS) L a)):=by
  have hm:=zxr hx
  generalize hq:xs.map unS=q at *
  subst hm
  simp only[List.length_map] at *
  rw[z0C PV.str (show (z1l L a q.length).toNat<q.length by omega)]
  simp [z2y,List.getD,show (z1l L a q.length).toNat<q.length by omega]
 simp only[zmB,go_sem,z2e hid hp,e4,e5]
theorem zbz (hid:id<h.length) (hp:posN 0 a) {xs:List PV} (hx:xs.all isS=true) (hl:0<xs.length) (hl2:xs.length<4611686018427387904) :
 z0c X z1T [.ref id 0,.p (.sl none xs)] (h.set id (strm L a)) K=K (AS (z2y (xs.map unS) L a)) (h.set id (strm L (a+1))) []:=(zoX hp xs hx hl hl2).set hid
theorem zby (hid:id<h.length) (hp:posN 0 a) {xs:List PV} (hx:xs.all isS=true) (hl:0<xs.length) (hl2:xs.length<4611686018427387904) :
 z0c X z1T [.ref id 0,.p (.sl none xs)] (h.set id (strm L a)++l) K=K (AS (z2y (xs.map unS) L a)) (h.set id (strm L (a+1))++l) []:=(zoX hp xs hx hl hl2).app hid
theorem zeX (hp:posN 0 a) {xs:List PV} (hx:xs.all isS=true) (hl:0<xs.length) (hl2:xs.length<4611686018427387904) :
 z0c X z1T [.ref 0 0,.p (.sl none xs)] (strm L a::l) K=K (AS (z2y (xs.map unS) L a)) (strm L (a+1)::l) []:=(zoX hp xs hx hl hl2).hd
attribute [go_sem ↓] zbz zby zeX
attribute [go_sem] zbz zby zeX isS unS
end Go.Am
end
section
/- What is drawn: strings,limits. -/
open Go
set_option linter.unusedSimpArgs false
namespace Go.Am
variable {L:List Int} {a:Int} {h l:Heap} {id:Nat} {K:Post}
structure LimBd (x:Lim):Prop where
 k:x.key.length≤1000
 lo : -200000≤x.lo∧x.lo≤200000
 hi : -200000≤x.hi∧x.hi≤200000
theorem zfK (hp:posN 60 a):GenE zaF [] L a (fun v a2=>a≤a2∧a2≤a+12∧∃ l:List Lim,1≤l.length∧l.length≤3∧(∀ x∈l,LimBd x)∧v=ALim l):=by
 refine GenE.of fun h id hid=>?_
 rw[c_q03g rfl]
 have P:=z6t (z0K hp (Int.le_refl a) (by omega))
 obtain⟨n1,n2⟩:=z4o (u:=1) (v:=3) L (a+1) (by omega) (by omega)
 obtain⟨n,hn⟩:=Int.eq_ofNat_of_zero_le (show 0≤z1B 1 3 L (a+1) by omega)
 have hn3:n≤3:=by omega
 have l1:LimBd ⟨[118,111,108,116],0,10,5⟩:=⟨by simp,by simp,by simp⟩
 have l2:LimBd ⟨[97,109,112],-5,5,z16 [5,6,2] L a⟩:=⟨by simp,by simp,by simp⟩
 have l3:LimBd ⟨[104,122],3,8,9⟩:=⟨by simp,by simp,by simp⟩
 have hb:h.length≤h.length:=Nat.le_refl _
 by_cases hf:z1l L (a+1+1) 15=0
 ·obtain⟨m1,m2⟩:=z1N L (a+1+1+1) n (by omega) (by omega)
  obtain⟨m,hm⟩:=Int.eq_ofNat_of_zero_le m1
  have hmn:m<n:=by omega
  have hm3:m<3:=by omega
  obtain⟨kv,a3,c1,c2,_,_,O⟩:=zvL (L:=L) (a:=a+1+1+1+1+1+1+1) (z0K hp (by omega) (by omega)) 2 100 (by omega) (by omega) (by omega)
  have O':=fun l K=>O.app (h:=h) (id:=id) (l:=l) (K:=K) hid
  have p1:=z1A (l:=[[118,111,108,116],[],[122]]) (L:=L) (a:=a+1+1+1+1) (by simp) (by simp)
  have p2:=z6r (l:=[0,-100000,-100001,20]) (L:=L) (a:=a+1+1+1+1+1) (by simp) (by simp)
  have p3:=z6r (l:=[10,100000,100001]) (L:=L) (a:=a+1+1+1+1+1+1) (by simp) (by simp)
  simp only[List.mem_cons,List.not_mem_nil,or_false] at p1 p2 p3
  have l4:LimBd ⟨z2y [[118,111,108,116],[],[122]] L (a+1+1+1+1),z16 [0,-100000,-100001,20] L (a+1+1+1+1+1),z16 [10,100000,100001] L (a+1+1+1+1+1+1),kv⟩:=
   ⟨by rcases p1 with p1 | p1 | p1 <;> simp [p1],by dsimp only;omega,by dsimp only;omega⟩
  have hw:∃ y,[PV.agg [.str [118,111,108,116],eI 0,eI 10,eI 5],.agg [.str [97,109,112],eI (-5),eI 5,eI (z16 [5,6,2] L a)],.agg [.str [104,122],eI 3,eI 8,eI 9]][m]?=some (.agg y)∧y.length=4:=by
   rcases m with _ | _ | _ | m
   ·exact⟨_,rfl,rfl⟩
   ·exact⟨_,rfl,rfl⟩
   ·exact⟨_,rfl,rfl⟩
   ·omega
  obtain⟨y,hy,hyl⟩:=hw
  simp only[zdx,go_sem,hid,P,hn,hn3,hf,hm,hmn,hm3,↓O',O',hy,hyl]
  have ed:List.drop 4 y=[]:=List.drop_of_length_le (by omega)
  refine⟨a3,⟨by omega,by omega,win ([⟨[118,111,108,116],0,10,5⟩,⟨[97,109,112],-5,5,z16 [5,6,2] L a⟩,⟨[104,122],3,8,9⟩].set m ⟨z2y [[118,111,108,116],[],[122]] L (a+1+1+1+1),z16 [0,-100000,-100001,20] L (a+1+1+1+1+1),z16 [10,100000,100001] L (a+1+1+1+1+1+1),kv⟩) 0 n,by simp [win];omega,by simp [win];omega,fun x hx=>?_,?_⟩,rfl⟩
  ·have hx2:=List.mem_of_mem_drop (List.mem_of_mem_take hx)
   rcases List.mem_or_eq_of_mem_set hx2 with hx3 | rfl
   ·simp only[List.mem_cons,List.not_mem_nil,or_false] at hx3
    rcases hx3 with rfl | rfl | rfl
    ·exact l1
    ·exact l2
    ·exact l3
   ·exact l4
  ·rw[ed]
   show _=AV.p (.sl (some 4) ((win _ 0 n).map Lim.pv))
   rw[← zgp,List.map_set];rfl
 ·simp only[zdx,go_sem,hid,P,hn,hn3,hf]
  refine⟨a+1+1+1,⟨by omega,by omega,win [⟨[118,111,108,116],0,10,5⟩,⟨[97,109,112],-5,5,z16 [5,6,2] L a⟩,⟨[104,122],3,8,9⟩] 0 n,by simp [win];omega,by simp [win];omega,fun x hx=>?_,?_⟩,rfl⟩
  ·have hx3:=List.mem_of_mem_drop (List.mem_of_mem_take hx)
   simp only[List.mem_cons,List.not_mem_nil,or_false] at hx3
   rcases hx3 with rfl | rfl | rfl
   ·exact l1
   ·exact l2
   ·exact l3
  ·show _=AV.p (.sl (some 4) ((win _ 0 n).map Lim.pv))
   rw[← zgp];rfl
end Go.Am
end
section
/- Records: what is wrong with them,both ways. -/
open Go
set_option linter.unusedSimpArgs false
namespace Go.Am
variable {h:Heap} {K:Post}
theorem s_rf1 (n:Int):z0c X z8H [AI n] h K=K (AB (!isM n)) h []:=by
 refine rule ?_
 rw[c_q02g rfl]
 simp only[zm4,go_sem,z98]
theorem s_rrf1 (n:Int):z0c X z8L [AI n] h K=K (AB (!isM n)) h []:=by
 refine rule ?_
 rw[c_q053 rfl]
 simp only[zmH,go_sem,s_in]
 rfl
theorem zce (l:List Lim) (r:Rec) (hl:LimOk l) (hr:RecOk r):z0c X zaA [ALim l,.p r.pv] h K=K (AI (z0I l r)) h []:=by
 refine rule ?_
 rw[c_q02f rfl]
 have ku:=fun h K=>zwI (h:=h) (K:=K) r.unit (by have:=hr.u;omega)
 have ks:=fun h K=>zwI (h:=h) (K:=K) r.site (by have:=hr.s;omega)
 have cf:=fun h K=>z1V (h:=h) (K:=K) (g:=z8H) (caps:=[]) (p:=noM) (xs:=r.res.map eI) (fun x hx K=>by obtain⟨n,_,rfl⟩:=List.mem_map.1 hx;exact s_rf1 n) zf0 (by have:=hr.n;simp;omega)
 have cp:=fun h K=>ziW (h:=h) (K:=K) l r hl.n hr.n
 rw[zf1] at cf
 simp only[Rec.pv] at cp
 unfold z0I
 cases h1:keyB r.unit with
 | false=>simp only[z6V,Rec.pv,go_sem,↓ku,ku,h1]
 | true=>
  cases h2:keyB r.site with
  | false=>simp only[z6V,Rec.pv,go_sem,↓ku,ku,↓ks,ks,h1,h2]
  | true=>
   cases h3:z6F r.time with
   | false=>simp only[z6V,Rec.pv,go_sem,↓ku,ku,↓ks,ks,h1,h2,z7L,h3]
   | true=>
    cases h4:r.res.all isM with
    | false=>simp only[z6V,Rec.pv,go_sem,↓ku,ku,↓ks,ks,h1,h2,z7L,h3,↓cf,cf,h4]
    | true=>
     cases h5:z5a l r.res with
     | false=>simp only[z6V,Rec.pv,go_sem,↓ku,ku,↓ks,ks,h1,h2,z7L,h3,↓cf,cf,h4,↓cp,cp,h5]
     | true=>simp only[z6V,Rec.pv,go_sem,↓ku,ku,↓ks,ks,h1,h2,z7L,h3,↓cf,cf,h4,↓cp,cp,h5]
theorem ziY (l:List Lim) (res:List Int) (hl:l.length≤1000) (hr:res.length≤1000):z0c X zaO [ALim l,AL res] h K=K (AI (z2C l res)) h []:=by
 refine rule ?_
 rw[c_q04t rfl]
 simp only[zgS,go_sem]
 refine z0D (fun k:Nat=>⟨[(0,ALim l),(7,AL res),(8,AI res.length),(9,AI k)],h,[]⟩) (fun k=>k≤res.length∧okTo l res k) (fun k=>res.length-k) 0 rfl ⟨by omega,fun i hi=>by omega⟩ ?_
 rintro k ⟨hk,hok⟩
 rcases Nat.lt_or_ge k res.length with hlt | hge
 ·have g2:=z0C eI hlt
  have w2:IntKind.i64.wrap ((k:Int)+1)=((k+1:Nat):Int):=z0h _ (by omega) (by omega)
  rcases Nat.lt_or_ge k l.length with hkl | hkl
  ·have g1:=z0C Lim.pv hkl
   have gg:=z8S (l:=l) (res:=res) hkl hlt
   unfold good at gg
   cases hg:inB l[k].lo res[k] l[k].hi with
   | false=>
    rw[hg] at gg
    simp only[go_sem,hlt,hkl,g1,g2,Lim.pv,z7A,hg]
    rw[z6A hok gg]
   | true=>
    simp only[go_sem,hlt,hkl,g1,g2,Lim.pv,z7A,hg,w2]
    refine⟨k+1,rfl,⟨by omega,fun i hi=>?_⟩,by omega⟩
    rcases Nat.lt_or_ge i k with h3 | h3
    ·exact hok i h3
    ·have:i=k:=by omega
     subst this;rw[gg,hg];simp
  ·have hkl':¬ k<l.length:=by omega
   simp only[go_sem,hlt,hkl',g2,w2]
   refine⟨k+1,rfl,⟨by omega,fun i hi=>?_⟩,by omega⟩
   rcases Nat.lt_or_ge i k with h3 | h3
   ·exact hok i h3
   ·have:(z3V l res)[i]?=none:=List.getElem?_eq_none (by simp [z3V];omega)
    rw[this];simp
 ·have ek:k=res.length:=by omega
  subst ek
  have:okTo l res (z3V l res).length:=fun i hi=>hok i (by simp [z3V] at hi;omega)
  simp only[go_sem,Nat.lt_irrefl]
  rw[z7t this]
set_option maxHeartbeats 1000000 in
theorem z7B (l:List Lim) (r:Rec) (hl:LimOk l) (hr:RecOk r):z0c X zaP [ALim l,.p r.pv] h K=K (AI (z0I l r)) h []:=by
 refine rule ?_
 rw[c_q052 rfl]
 have ku:=fun h K=>zcg (h:=h) (K:=K) r.unit (by have:=hr.u;omega)
 have ks:=fun h K=>zcg (h:=h) (K:=K) r.site (by have:=hr.s;omega)
 have cf:=fun h K=>z1V (h:=h) (K:=K) (g:=z8L) (caps:=[]) (p:=noM) (xs:=r.res.map eI) (fun x hx K=>by obtain⟨n,_,rfl⟩:=List.mem_map.1 hx;exact s_rrf1 n) zf0 (by have:=hr.n;simp;omega)
 have fl:=fun h K=>ziY (h:=h) (K:=K) l r.res hl.n hr.n
 rw[zf1] at cf
 have hw:IntKind.i64.wrap ((r.res.length:Int)-1)=(r.res.length:Int)-1:=z0h _ (by omega) (by have:=hr.n;omega)
 unfold z0I
 cases h1:keyB r.unit with
 | false=>simp only[z3P,Rec.pv,go_sem,↓ku,ku,h1]
 | true=>
  cases h2:keyB r.site with
  | false=>simp only[z3P,Rec.pv,go_sem,↓ku,ku,↓ks,ks,h1,h2]
  | true=>
   cases h3:z6F r.time with
   | false=>simp only[z3P,Rec.pv,go_sem,↓ku,ku,↓ks,ks,h1,h2,z14,h3]
   | true=>
    cases h4:r.res.all isM with
    | false=>simp only[z3P,Rec.pv,go_sem,↓ku,ku,↓ks,ks,h1,h2,z14,h3,↓cf,cf,h4]
    | true=>
     unfold z5a
     generalize z2C l r.res=w at *
     cases h5:inB 1 r.res.length l.length with
     | false=>simp only[z3P,Rec.pv,go_sem,↓ku,ku,↓ks,ks,h1,h2,z14,h3,↓cf,cf,h4,↓fl,fl,z7A,h5]
     | true=>
      by_cases h6:0≤w
      ·have h6':¬ w<0:=by omega
       by_cases h7:w=(r.res.length:Int)-1
       ·simp only[z3P,Rec.pv,go_sem,↓ku,ku,↓ks,ks,h1,h2,z14,h3,↓cf,cf,h4,↓fl,fl,z7A,h5,h6,h6',hw,eq_true h7]
       ·simp only[z3P,Rec.pv,go_sem,↓ku,ku,↓ks,ks,h1,h2,z14,h3,↓cf,cf,h4,↓fl,fl,z7A,h5,h6,h6',hw,h7]
      ·have h6':w<0:=by omega
       by_cases h7:(r.res.length:Int)=l.length
       ·simp only[z3P,Rec.pv,go_sem,↓ku,ku,↓ks,ks,h1,h2,z14,h3,↓cf,cf,h4,↓fl,fl,z7A,h5,h6,h6',eq_true h7]
       ·simp only[z3P,Rec.pv,go_sem,↓ku,ku,↓ks,ks,h1,h2,z14,h3,↓cf,cf,h4,↓fl,fl,z7A,h5,h6,h6',h7]
def orL:List Int→Int
 | []=>0
 | x::r=>if x≠0 then x else orL r
theorem zqK (l:List Int) (hl:l.length≤1000):z0c X z7b [AL l] h K=K (AI (orL l)) h []:=by
 refine rule ?_
 rw[c_q00u rfl]
 simp only[zg7,go_sem]
 refine z0D (fun k:Nat=>⟨[(3,AI 0),(6,AL l),(7,AI l.length),(8,AI k)],h,[]⟩) (fun k=>k≤l.length∧orL (l.drop k)=orL l) (fun k=>l.length-k) 0 rfl ⟨by omega,rfl⟩ ?_
 rintro k ⟨hk,hp⟩
 rcases Nat.lt_or_ge k l.length with hlt | hge
 ·have g2:=z0C eI hlt
  have w2:IntKind.i64.wrap ((k:Int)+1)=((k+1:Nat):Int):=z0h _ (by omega) (by omega)
  rw[List.drop_eq_getElem_cons hlt,orL] at hp
  by_cases hz:l[k]=0
  ·rw[if_neg (by simp [hz])] at hp
   simp only[go_sem,hlt,g2,hz,w2]
   exact⟨k+1,rfl,⟨by omega,hp⟩,by omega⟩
  ·rw[if_pos hz] at hp
   simp only[go_sem,hlt,g2,hz]
   rw[hp]
 ·have ek:k=l.length:=by omega
  subst ek
  rw[List.drop_length] at hp
  simp only[go_sem,Nat.lt_irrefl]
  rw[← hp];rfl
theorem ztn (a b:Rec):z0c X za5 [.p a.pv,.p b.pv] h K=K (AI (z1s a b)) h []:=by
 refine rule ?_
 rw[c_q027 rfl]
 have o:=fun h K=>zqK (h:=h) (K:=K) [cmp3 a.time b.time,cmpL a.unit b.unit] (by simp)
 simp only[AL,List.map_cons,List.map_nil] at o
 have e:orL [cmp3 a.time b.time,cmpL a.unit b.unit]=z1s a b:=by
  unfold z1s orL
  split
  ·rfl
  ·unfold orL
   split
   ·rfl
   ·rename_i h;simp only[ne_eq,Decidable.not_not] at h;rw[h];rfl
 rw[e] at o
 simp only[zmz,Rec.pv,go_sem,z7z,z4r,o]
theorem zcf (a b:Rec) (ha : -1000000000000000000≤a.time∧a.time≤1000000000000000000) (hb : -1000000000000000000≤b.time∧b.time≤1000000000000000000):z0c X zaQ [.p a.pv,.p b.pv] h K=K (AI (z1s a b)) h []:=by
 refine rule ?_
 rw[c_q054 rfl]
 have w:IntKind.i64.wrap (a.time-b.time)=a.time-b.time:=z0h _ (by omega) (by omega)
 unfold z1s
 by_cases he:a.time=b.time
 ·have:cmp3 a.time b.time=0:=by rw[he];unfold cmp3;simp
  rw[if_neg (by simp [this])]
  simp only[zgU,Rec.pv,go_sem,he,z4r]
 ·have hc:cmp3 a.time b.time≠0:=by unfold cmp3;split <;> (try split) <;> omega
  rw[if_pos hc]
  rw[zmi]
  simp only[zgU,Rec.pv,go_sem,he,w,s_sign]
theorem z28 {l:List Lim} {p:Option Rec} {x:Rec} {r:List Rec}:z0E l p (x::r)=if z0I l x≠0 then z0I l x else if (match p with | some q=>decide (z1s x q≤0) | none=>false)=true then 7 else z0E l (some x) r:=rfl
theorem z3A {l:List Lim} {r:Rec} (hf:z0I l r=0):0≤r.time∧r.time≤345686399999:=by
 unfold z0I at hf
 split at hf
 ·cases hf
 ·split at hf
  ·cases hf
  ·rename_i h
   simp [z6F,inB] at h
   exact h
theorem z4W (l:List Lim) (r:List Rec) (hl:LimOk l) (hr:∀ x∈r,RecOk x) (hn:r.length≤1000000):z0c X z59 [ALim l,ARec r] h K=K (AI (z1H l r)) h []:=by
 refine rule ?_
 rw[c_q02h rfl]
 unfold z1H
 by_cases h1:(5000:Int)<r.length
 ·simp only[zdp,go_sem,h1]
 simp only[zdp,go_sem,h1]
 refine z0D (fun k:Nat=>⟨[(0,ALim l),(1,ARec r),(11,ARec r),(12,AI r.length),(13,AI k)],h,[]⟩) (fun k=>k≤r.length∧z0E l (r.take k).getLast? (r.drop k)=z0E l none r) (fun k=>r.length-k) 0 rfl ⟨by omega,rfl⟩ ?_
 rintro k ⟨hkl,hp⟩
 rcases Nat.lt_or_ge k r.length with hlt | hge
 ·have hg:=z0C Rec.pv hlt
  have w2:IntKind.i64.wrap ((k:Int)+1)=((k+1:Nat):Int):=z0h _ (by omega) (by omega)
  have hx:=hr _ (List.getElem_mem hlt)
  have hlast:(r.take (k+1)).getLast?=some r[k]:=by rw[List.take_succ_eq_append_getElem hlt];exact List.getLast?_concat
  rw[List.drop_eq_getElem_cons hlt,z28] at hp
  have cx:cutP (some 4) 0 (r[k].pv)=some r[k].pv:=rfl
  have rf:=fun h K=>zce (h:=h) (K:=K) l r[k] hl hx
  simp only[Rec.pv] at rf
  by_cases h2:z0I l r[k]=0
  ·rw[if_neg (by simp [h2])] at hp
   cases k with
   | zero=>
    simp only[List.take_zero,List.getLast?_nil,reduceCtorEq,if_false] at hp
    have hlt0:(0:Int)<r.length:=by omega
    simp only[go_sem,hlt0,hg,cx,Rec.pv,rf,h2,Int.lt_irrefl,show IntKind.i64.wrap 1=1 from rfl]
    exact⟨0+1,rfl,⟨by omega,by rw[hlast];exact hp⟩,by omega⟩
   | succ j=>
    have hj:j<r.length:=by omega
    have hgj:=z0C Rec.pv hj
    have cj:cutP (some 4) 0 (r[j].pv)=some r[j].pv:=rfl
    have hlj:(r.take (j+1)).getLast?=some r[j]:=by rw[List.take_succ_eq_append_getElem hj];exact List.getLast?_concat
    have w3:IntKind.i64.wrap (((j+1:Nat):Int)-1)=(j:Int):=by rw[z0h _ (by omega) (by omega)];omega
    have p1:(0:Int)<((j+1:Nat):Int):=by omega
    have bt:=fun h K=>ztn (h:=h) (K:=K) r[j+1] r[j]
    simp only[Rec.pv] at bt
    rw[hlj] at hp
    by_cases h3:z1s r[j+1] r[j]≤0
    ·simp only[h3,decide_true,if_true] at hp
     simp only[go_sem,hlt,hj,hg,hgj,cx,cj,Rec.pv,rf,h2,p1,w3,bt,h3]
     rw[← hp]
    ·simp only[h3,decide_false,reduceCtorEq,if_false] at hp
     simp only[go_sem,hlt,hj,hg,hgj,cx,cj,Rec.pv,rf,h2,p1,w3,bt,h3,w2]
     exact⟨j+1+1,rfl,⟨by omega,by rw[hlast];exact hp⟩,by omega⟩
  ·rw[if_pos h2] at hp
   simp only[go_sem,hlt,hg,cx,Rec.pv,rf,h2]
   rw[← hp]
 ·have ek:k=r.length:=by omega
  subst ek
  rw[List.drop_length] at hp
  simp only[go_sem,Nat.lt_irrefl]
  rw[← hp]
  cases (r.take r.length).getLast? <;> rfl
theorem z9O (l:List Lim) (r:List Rec) (hl:LimOk l) (hr:∀ x∈r,RecOk x) (hn:r.length≤1000000):z0c X za1 [ALim l,ARec r] h K=K (AI (z07 l r)) h []:=by
 refine rule ?_
 rw[c_q022 rfl]
 have cl:=fun h K=>z61 (h:=h) (K:=K) l hl.k (by have:=hl.n;omega)
 have cr:=fun h K=>z4W (h:=h) (K:=K) l r hl hr hn
 unfold z07
 by_cases h1:z0T l=0
 ·simp only[zgF,go_sem,cl,cr,h1]
 ·simp only[zgF,go_sem,cl,cr,h1]
theorem z1P (l:List Lim) (r:List Rec) (hl:LimOk l) (hr:∀ x∈r,RecOk x) (hn:r.length≤1000000):z0c X z3T [ALim l,ARec r] h K=K (AI (z07 l r)) h []:=by
 refine rule ?_
 rw[c_q04c rfl]
 have cl:=fun h K=>z3D (h:=h) (K:=K) l hl.k (by have:=hl.n;omega)
 unfold z07 z1H
 by_cases h0:z0T l=0
 case neg=>simp only[zam,go_sem,cl,h0]
 by_cases h1:(5000:Int)<r.length
 ·simp only[zam,go_sem,cl,h0,h1]
 simp only[zam,go_sem,cl,h0,h1]
 refine z0D (fun k:Nat=>⟨[(0,ALim l),(1,ARec r),(17,ARec r),(18,AI r.length),(19,AI k)],h,[]⟩) (fun k=>k≤r.length∧z0E l (r.take k).getLast? (r.drop k)=z0E l none r∧∀ x∈r.take k,z0I l x=0) (fun k=>r.length-k) 0 rfl ⟨by omega,rfl,by simp⟩ ?_
 rintro k ⟨hkl,hp,hz⟩
 rcases Nat.lt_or_ge k r.length with hlt | hge
 ·have hg:=z0C Rec.pv hlt
  have w2:IntKind.i64.wrap ((k:Int)+1)=((k+1:Nat):Int):=z0h _ (by omega) (by omega)
  have hx:=hr _ (List.getElem_mem hlt)
  have hlast:(r.take (k+1)).getLast?=some r[k]:=by rw[List.take_succ_eq_append_getElem hlt];exact List.getLast?_concat
  rw[List.drop_eq_getElem_cons hlt,z28] at hp
  have cx:cutP (some 4) 0 (r[k].pv)=some r[k].pv:=rfl
  have rf:=fun h K=>z7B (h:=h) (K:=K) l r[k] hl hx
  simp only[Rec.pv] at rf
  by_cases h2:z0I l r[k]=0
  ·rw[if_neg (by simp [h2])] at hp
   have hz':∀ x∈r.take (k+1),z0I l x=0:=fun x hx=>by
    rw[List.take_succ_eq_append_getElem hlt,List.mem_append,List.mem_singleton] at hx
    rcases hx with hx | rfl
    ·exact hz x hx
    ·exact h2
   cases k with
   | zero=>
    simp only[List.take_zero,List.getLast?_nil,reduceCtorEq,if_false] at hp
    have hlt0:(0:Int)<r.length:=by omega
    simp only[go_sem,hlt0,hg,cx,Rec.pv,rf,h2,Int.lt_irrefl,show IntKind.i64.wrap 1=1 from rfl]
    exact⟨0+1,rfl,⟨by omega,by rw[hlast];exact hp,hz'⟩,by omega⟩
   | succ j=>
    have hj:j<r.length:=by omega
    have hgj:=z0C Rec.pv hj
    have cj:cutP (some 4) 0 (r[j].pv)=some r[j].pv:=rfl
    have hlj:(r.take (j+1)).getLast?=some r[j]:=by rw[List.take_succ_eq_append_getElem hj];exact List.getLast?_concat
    have w3:IntKind.i64.wrap (((j+1:Nat):Int)-1)=(j:Int):=by rw[z0h _ (by omega) (by omega)];omega
    have p1:(0:Int)<((j+1:Nat):Int):=by omega
    have t1:=z3A h2
    have t2:=z3A (hz r[j] (by rw[List.mem_take_iff_getElem];exact⟨j,by omega,rfl⟩))
    have bt:=fun h K=>zcf (h:=h) (K:=K) r[j] r[j+1] (by omega) (by omega)
    simp only[Rec.pv] at bt
    rw[hlj] at hp
    have hneg:=ziN r[j+1] r[j]
    by_cases h3:z1s r[j+1] r[j]≤0
    ·have h3':0≤z1s r[j] r[j+1]:=by omega
     simp only[h3,decide_true,if_true] at hp
     simp only[go_sem,hlt,hj,hg,hgj,cx,cj,Rec.pv,rf,h2,p1,w3,bt,h3']
     rw[← hp]
    ·have h3':¬ 0≤z1s r[j] r[j+1]:=by omega
     simp only[h3,decide_false,reduceCtorEq,if_false] at hp
     simp only[go_sem,hlt,hj,hg,hgj,cx,cj,Rec.pv,rf,h2,p1,w3,bt,h3',w2]
     exact⟨j+1+1,rfl,⟨by omega,by rw[hlast];exact hp,hz'⟩,by omega⟩
  ·rw[if_pos h2] at hp
   simp only[go_sem,hlt,hg,cx,Rec.pv,rf,h2]
   rw[← hp]
 ·have ek:k=r.length:=by omega
  subst ek
  rw[List.drop_length] at hp
  simp only[go_sem,Nat.lt_irrefl]
  rw[← hp]
  cases (r.take r.length).getLast? <;> rfl
end Go.Am
end
section
/- Sorting records: printed by program. -/
open Go
set_option linter.unusedSimpArgs false
namespace Go.Am
attribute [-go_sem] PV.cells splice
variable {h:Heap} {K:Post}
theorem z6D (id n:Nat) (l tl:List PV) (hn:n=l.length+tl.length) (hs:shps (some 4) l) (hl:l.length≤1000) (hh:h[id]?=some (.row (some 4) (l++tl) 0)) {g:Nat} {caps:List AV} {c:PV→PV→Int} (hc:Cmps g caps c l id h) :
 z0c X z7q [.own id n 0 l.length,AI 0,AI l.length,.fn g caps] h K=K (.tup []) (h.set id (.row (some 4) (zbS (ltC c) l++tl) 0)) []:=by
 refine rule ?_
 rw[c_q06i]
 have hid:=z2n hh
 have hst:∀ o,(h.set id o)[id]?=some o:=fun o=>z3E hid
 simp only[zgY,go_sem,show IntKind.i64.wrap 1=1 from rfl]
 refine z0D (fun i:Nat=>⟨[(0,.own id n 0 l.length),(1,AI 0),(2,AI l.length),(3,.fn g caps),(8,AI i)],h.set id (.row (some 4) ((z4U (ltC c) (l.take i)).reverse++(l.drop i++tl)) 0),[]⟩) (fun i=>1≤i∧(i≤l.length∨i=1)) (fun i=>l.length-i) 1 ?_ (by simp) ?_
 ·have:(z4U (ltC c) (l.take 1)).reverse++(l.drop 1++tl)=l++tl:=by cases l <;> rfl
  rw[this,z4C hh];rfl
 rintro i ⟨hi1,hi2⟩
 rcases Nat.lt_or_ge i l.length with hlt | hge
 ·simp only[go_sem,hlt]
  have hxl:l[i]∈l:=List.getElem_mem hlt
  generalize hx:l[i]=x at *
  generalize hR:z4U (ltC c) (l.take i)=R
  have hRl:R.length=i:=by rw[← hR,ziF];simp;omega
  have hRm:∀ z∈R,z∈l:=fun z hz=>List.mem_of_mem_take ((z5b (ltC c) (l.take i)).mem_iff.1 (by rw[hR];exact hz))
  have hdrop:l.drop i=x::l.drop (i+1):=by rw[← hx];exact List.drop_eq_getElem_cons hlt
  have hnext:z4U (ltC c) (l.take (i+1))=insR (ltC c) x R:=by rw[z77 _ _ _ hlt,hR,hx]
  refine z0D (fun t:List PV × List PV=>⟨[(0,.own id n 0 l.length),(1,AI 0),(2,AI l.length),(3,.fn g caps),(8,AI i),(9,AI t.1.length)],h.set id (.row (some 4) (t.1.reverse++x::t.2) 0),[]⟩)
   (fun t=>∃ B,R=B++t.1∧t.2=B.reverse++(l.drop (i+1)++tl)∧∀ b∈B,ltC c x b=true) (fun t=>t.1.length) (R,l.drop (i+1)++tl) (by rw[hdrop,hRl];rfl) ⟨[],rfl,rfl,by simp⟩ ?_
  rintro⟨A,C⟩ ⟨B,q1,q2,q3⟩
  dsimp only at q1 q2 q3
  have hlen:(A.reverse++x::C).length=n:=by
   have:R.length=B.length+A.length:=by rw[q1];simp
   rw[q2];simp;omega
  have hBA:B.length+A.length<l.length:=by
   have:R.length=B.length+A.length:=by rw[q1];simp
   omega
  have hln:l.length≤n:=by omega
  have w1:IntKind.i64.wrap ((i:Int)+1)=((i+1:Nat):Int):=z0h _ (by omega) (by omega)
  cases A with
  | nil=>
   have hd:insR (ltC c) x R=B++[x]:=by rw[q1];exact zhz (ltC c) x [] B q3 (fun y r h=>by cases h)
   simp only[go_sem,Int.lt_irrefl,w1]
   refine⟨i+1,?_,by omega,by omega⟩
   simp only[hnext,hd,q2,List.reverse_append,List.reverse_nil,List.nil_append,List.reverse_cons,List.append_assoc,List.cons_append]
  | cons y A=>
   have hyl:y∈l:=hRm y (by rw[q1];simp)
   have g1:=zvQ (y::A) C x
   have g2:=zs2 A C x y
   have sw:=zs3 A C x y
   simp only[List.length_cons] at hBA
   generalize hrow:(y::A).reverse++x::C=row at *
   simp only[List.length_cons] at g1
   have w2:IntKind.i64.wrap (((A.length+1:Nat):Int)-1)=(A.length:Int):=by rw[z0h _ (by omega) (by omega)];omega
   have p1:(0:Int)<((A.length+1:Nat):Int):=by omega
   have b1:A.length+1<l.length:=by omega
   have b2:A.length<l.length:=by omega
   have cx:=z5h (hs x hxl)
   have cy:=z5h (hs y hyl)
   have hcc:=fun o K=>hc o x hxl y hyl K
   by_cases hxy:c x y<0
   ·have g3:(row.set (A.length+1) y)[A.length]?=some y:=by rw[List.getElem?_set_ne (by omega),g2]
    have lx:=zgg (hs x hxl)
    have ly:=zgg (hs y hyl)
    have sx:=zgf (hs x hxl)
    have sy:=zgf (hs y hyl)
    simp only[z0a] at lx ly
    have t1:=fun i xs h1=>zfe (hs x hxl) (hs y hyl) id i 0 xs h1
    have t2:=fun i xs h1=>zfe (hs y hyl) (hs x hxl) id i 0 xs h1
    simp only[go_sem,hst,p1,hlen,g1,g2,g3,w2,b1,b2,hln,cx,cy,hcc,hxy,lx,ly,sx,sy,t1,t2,sw]
    refine⟨(A,y::C),rfl,⟨B++[y],by simp [q1],by simp [q2],fun b hb=>?_⟩,by simp⟩
    rw[List.mem_append,List.mem_singleton] at hb
    rcases hb with hb | rfl
    ·exact q3 b hb
    ·simpa [ltC] using hxy
   ·have hd:insR (ltC c) x R=B++x::y::A:=by rw[q1];exact zhz (ltC c) x (y::A) B q3 (fun z r h=>by cases h;simpa [ltC] using hxy)
    simp only[go_sem,hst,p1,hlen,g1,g2,w2,b1,b2,hln,cx,cy,hcc,hxy,w1]
    refine⟨i+1,?_,by omega,by omega⟩
    simp only[hnext,hd,← hrow,q2,List.reverse_append,List.reverse_cons,List.append_assoc,List.cons_append,List.nil_append]
 ·have hge':¬ i<l.length:=by omega
  have e1:l.take i=l:=List.take_of_length_le hge
  have e2:l.drop i=[]:=List.drop_of_length_le hge
  simp only[go_sem,hge',e1,e2]
  rfl
theorem z3x (id:Nat) (l:List PV) (hs:shps (some 4) l) (hl:l.length≤19) (hh:h[id]?=some (.row (some 4) l 0)) {g:Nat} {caps:List AV} {c:PV→PV→Int} (hc:Cmps g caps c l id h) :
 z0c X zaX [.own id l.length 0 l.length,.fn g caps] h K=K (.tup []) (h.set id (.row (some 4) (zbS (ltC c) l) 0)) []:=by
 refine rule ?_
 rw[c_q063]
 have key:∀ K:Post,z0c X zaY [.own id l.length 0 l.length,AI l.length,.fn g caps] h K=K (.tup []) (h.set id (.row (some 4) (zbS (ltC c) l) 0)) []:=by
  intro K
  refine rule ?_
  rw[c_q07h]
  have is:=fun K=>z6D (h:=h) (K:=K) id l.length l [] rfl hs (by omega) (by rw[List.append_nil];exact hh) hc
  simp only[List.append_nil] at is
  have b1:¬ ((20:Int)≤(l.length:Int)):=by omega
  have b2:¬ ((20:Int)<(l.length:Int)):=by omega
  simp only[zgZ,go_sem]
  refine z0D (fun _:Unit=>⟨[(0,.own id l.length 0 l.length),(1,AI l.length),(2,.fn g caps),(6,AI 20),(7,AI 0),(8,AI 20)],h,[]⟩) (fun _=>True) (fun _=>0) () rfl trivial ?_
  intro _ _
  simp only[go_sem,b1,is]
  refine z0D (fun _:Unit=>⟨[(0,.own id l.length 0 l.length),(1,AI l.length),(2,.fn g caps),(6,AI 20)],h.set id (.row (some 4) (zbS (ltC c) l) 0),[]⟩) (fun _=>True) (fun _=>0) () rfl trivial ?_
  intro _ _
  simp only[go_sem,b2]
 simp only[zmK,go_sem,key]
end Go.Am
end
section
/- Leaving out what is alike: printed by program. -/
open Go
set_option linter.unusedSimpArgs false
namespace Go.Am
attribute [-go_sem] PV.cells splice
variable {h:Heap} {K:Post}
theorem z2z (id:Nat) (l:List PV) (hs:shps (some 4) l) (hl:l.length≤100000) (hh:h[id]?=some (.row (some 4) l 0)) {g:Nat} {caps:List AV} {q:PV→PV→Bool} (hq:Alikes g caps q l id h) :
 z0c X zaS [.own id l.length 0 l.length,.fn g caps] h K=K (.own id l.length 0 (z0V q l).length) (h.set id (.row (some 4) (z0V q l++List.replicate (l.length-(z0V q l).length) (PV.agg [.str [],.int .i64 0,.str [],.sl none []])) 0)) []:=by
 refine rule ?_
 rw[c_q05d]
 have hid:=z2n hh
 have hst:∀ o,(h.set id o)[id]?=some o:=fun o=>z3E hid
 have hb:¬ h.length≤id:=by omega
 have hb2:max h.length (id+1)=h.length:=by omega
 have hb3:id+1≤h.length:=hid
 have hq0:∀ x∈l,∀ y∈l,∀ K:Post,z0c X g (.p x :: .p y::caps) h K=K (AB (q x y)) h []:=fun x hx y hy K=>by have:=hq (.row (some 4) l 0) x hx y hy K;rwa [z4C hh] at this
 by_cases h2:l.length<2
 ·have h2':(l.length:Int)<2:=by omega
  have e:z0V q l=l:=by
   cases l with
   | nil=>rfl
   | cons x r=>
    have:r=[]:=List.length_eq_zero_iff.1 (by simp only[List.length_cons] at h2;omega)
    subst this;rfl
  simp only[zdO,go_sem,h2',e,Nat.sub_self,List.replicate_zero,List.append_nil,hb,hb2,hb3]
  rw[z4C hh]
 have h2':¬ (l.length:Int)<2:=by omega
 simp only[zdO,go_sem,h2']
 refine z0D (fun k:Nat=>⟨[(0,.own id l.length 0 l.length),(1,.fn g caps),(5,AI ((k+1:Nat):Int))],h,[]⟩) (fun k=>k+1≤l.length∧z0V q (l.take (k+1))=l.take (k+1)) (fun k=>l.length-(k+1)) 0 rfl ⟨by omega,?_⟩ ?_
 ·cases l with
  | nil=>rfl
  | cons x r=>rfl
 rintro k ⟨hk,hc⟩
 rcases Nat.lt_or_ge (k+1) l.length with hlt | hge
 ·have hk0:k<l.length:=by omega
  have g1:l[k+1]?=some l[k+1]:=List.getElem?_eq_getElem hlt
  have g2:l[k]?=some l[k]:=List.getElem?_eq_getElem hk0
  have c1:=z5h (z4D hs hlt)
  have c2:=z5h (z4D hs hk0)
  have w1:IntKind.i64.wrap (((k+1:Nat):Int)-1)=(k:Int):=by rw[z0h _ (by omega) (by omega)];omega
  have w2:IntKind.i64.wrap (((k+1:Nat):Int)+1)=((k+1+1:Nat):Int):=z0h _ (by omega) (by omega)
  have hqk:=fun K=>hq0 _ (List.getElem_mem hlt) _ (List.getElem_mem hk0) K
  have hcs:=z22 q l k hlt
  cases hqx:q l[k+1] l[k] with
  | false=>
   rw[hqx] at hcs
   simp only[go_sem,hh,hlt,hk0,g1,g2,c1,c2,w1,w2,hqk,hqx]
   exact⟨k+1,rfl,⟨by omega,by rw[hcs,hc,cond_false,List.take_succ_eq_append_getElem hlt]⟩,by omega⟩
  | true=>
   rw[hqx,cond_true,List.append_nil,hc] at hcs
   have hle:k+1≤l.length:=by omega
   simp only[go_sem,hh,hlt,hk0,hle,g1,g2,c1,c2,w1,hqk,hqx]
   have e0:k+1+(l.length-(k+1))=l.length:=by omega
   refine z0D (fun t:List PV × Nat × Nat=>⟨[(0,.own id l.length 0 l.length),(1,.fn g caps),(5,AI ((t.2.1:Nat):Int)),(6,.own id l.length (k+1) (l.length-(k+1))),(7,AI ((t.2.2+1:Nat):Int))],h.set id (.row (some 4) t.1 0),[]⟩)
    (fun t=>t.1.length=l.length∧shps (some 4) t.1∧t.2.1≤k+1+t.2.2∧k+1+t.2.2<l.length∧t.1.take t.2.1=z0V q (l.take (k+1+t.2.2+1))∧t.1.drop (k+1+t.2.2)=l.drop (k+1+t.2.2)) (fun t=>l.length-t.2.2)
    (l,k+1,0) (by rw[z4C hh];rfl) ⟨rfl,hs,by simp,by simpa using hlt,by simpa using hcs.symm,rfl⟩ ?_
   rintro⟨row,i,j⟩ ⟨r1,r2,r3,r4,r5,r6⟩
   dsimp only at r1 r2 r3 r4 r5 r6
   rcases Nat.lt_or_ge (k+1+j+1) l.length with hlt2 | hge2
   ·have a1:row[k+1+j+1]?=some l[k+1+j+1]:=by
     have:=congrArg (·[1]?) r6
     simp only[List.getElem?_drop] at this
     rw[this,List.getElem?_eq_getElem hlt2]
    have a2:row[k+1+j]?=some l[k+1+j]:=by
     have:=congrArg (·[0]?) r6
     simp only[List.getElem?_drop,Nat.add_zero] at this
     rw[this,List.getElem?_eq_getElem r4]
    have s1:=z4D hs hlt2
    have d1:=z5h s1
    have d2:=z5h (z4D hs r4)
    have hil:i<l.length:=by omega
    have hir:i<row.length:=by omega
    have g3:row[i]?=some row[i]:=List.getElem?_eq_getElem hir
    have t1:=fun xs h1=>zfe s1 (z4D r2 hir) id i 0 xs h1
    have lx:=zgg s1
    have sx:=zgf s1
    simp only[z0a] at lx
    have v1:IntKind.i64.wrap (((j+1:Nat):Int)-1)=(j:Int):=by rw[z0h _ (by omega) (by omega)];omega
    have v2:IntKind.i64.wrap (((j+1:Nat):Int)+1)=((j+1+1:Nat):Int):=z0h _ (by omega) (by omega)
    have v3:IntKind.i64.wrap ((i:Int)+1)=((i+1:Nat):Int):=z0h _ (by omega) (by omega)
    have p1:j+1<l.length-(k+1):=by omega
    have p2:j<l.length-(k+1):=by omega
    have p3:k+1+(j+1)=k+1+j+1:=by omega
    have p4:k+1+(l.length-(k+1))≤l.length:=by omega
    have hqj:=fun o K=>hq o _ (List.getElem_mem hlt2) _ (List.getElem_mem r4) K
    have hcs2:=z22 q l (k+1+j) hlt2
    cases hqy:q l[k+1+j+1] l[k+1+j] with
    | true=>
     rw[hqy,cond_true,List.append_nil] at hcs2
     simp only[go_sem,hst,r1,p1,p2,p3,p4,e0,a1,a2,d1,d2,v1,v2,hqj,hqy]
     refine⟨(row,i,j+1),rfl,⟨r1,r2,by dsimp only;omega,by dsimp only;omega,?_,?_⟩,by dsimp only;omega⟩
     ·dsimp only;rw[r5,← hcs2];rfl
     ·dsimp only;rw[show k+1+(j+1)=k+1+j+1 from rfl,← List.drop_drop,r6,List.drop_drop]
    | false=>
     rw[hqy,cond_false] at hcs2
     simp only[go_sem,hst,r1,p1,p2,p3,p4,e0,a1,a2,g3,d1,d2,v1,v2,v3,hil,hqj,hqy,lx,sx,t1]
     refine⟨(row.set i l[k+1+j+1],i+1,j+1),rfl,⟨by simpa using r1,fun x hx=>?_,by dsimp only;omega,by dsimp only;omega,?_,?_⟩,by dsimp only;omega⟩
     ·rcases List.mem_or_eq_of_mem_set hx with hx | rfl
      ·exact r2 x hx
      ·exact s1
     ·dsimp only
      rw[show k+1+(j+1)+1=k+1+j+1+1 from rfl,hcs2,← r5,List.take_succ_eq_append_getElem (by simp;omega)]
      simp [List.take_set_of_le]
     ·dsimp only
      rw[List.drop_set_of_lt (by omega),show k+1+(j+1)=k+1+j+1 from rfl,← List.drop_drop,r6,List.drop_drop]
   ·have ej:k+1+j+1=l.length:=by omega
    rw[ej,List.take_length] at r5
    have hil:i≤l.length:=by omega
    have hm:(z0V q l).length=i:=by rw[← r5];simp;omega
    have p1:¬ (j+1<l.length-(k+1)):=by omega
    have sp:splice row i (List.replicate (l.length-i) (PV.agg [.str [],.int .i64 0,.str [],.sl none []]))=z0V q l++List.replicate (l.length-i) (PV.agg [.str [],.int .i64 0,.str [],.sl none []]):=by
     unfold splice
     rw[r5,List.length_replicate,List.drop_of_length_le (by omega),List.append_nil]
    have rl:(z0V q l++List.replicate (l.length-i) (PV.agg [.str [],.int .i64 0,.str [],.sl none []])).length=l.length:=by simp only[List.length_append,hm,List.length_replicate];omega
    rw[hm]
    generalize z0V q l++List.replicate (l.length-i) (PV.agg [.str [],.int .i64 0,.str [],.sl none []])=row' at *
    simp only[go_sem,hst,r1,rl,hil,p1,sp,show i+(l.length-i)=l.length by omega,hb,hb2,hb3]
 ·have ek:k+1=l.length:=by omega
  rw[ek,List.take_length] at hc
  have hge':¬ k+1<l.length:=by omega
  simp only[go_sem,hge',hc,Nat.sub_self,List.replicate_zero,List.append_nil,hb,hb2,hb3]
  rw[z4C hh]
end Go.Am
end
