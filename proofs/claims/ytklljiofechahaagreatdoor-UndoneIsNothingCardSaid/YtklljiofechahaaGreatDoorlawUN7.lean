/- Texts of the proof, laid together: Ctx, SpStream, SpMap, MathFrac, SpBase, SpList, PSort, SpShp, SpStr, SpFind, SpLimD, SpLim, SpLotA, SpRecD, PEnt, PFollow, PPass, PReplay, SpFlo1, PSplit, PTxt, PNum, PFlt, PFltR, PWrit, PEntT, SpRec, SpEnt1, SpEnt3, SpEnt2, SpEnt4, SpSortE, SpEnt5, SpIdx, SpLen, SpStrs, SpGenA, SpSome, SpGenL, SpSortRec, SpCompact, SpGenR, PMerge, SpMrgA, SpSort, SpMrgB, SpMrgC, SpMrgD, PFin, SpTxt, AmL4, AmL5, SpSplit, SpLines, SpNum, SpNums, SpQNum, SpFlt1, SpFlt2, SpWords, SpJoin, SpBld, PBits, SpFlt3, SpFlt4, SpFlt5, SpArg, SpFlt6, SpFltT, SpSortO, SpGenF, SpChg, SpEnt6, SpEach, SpFltR, SpFltR2, SpFltR3, SpGenA2, SpDelF, SpGenF2, SpInts, SpFltE, SpEnt7, SpEnt8, SpEnt9, PRecT, SpRecT, SpRecT2, SpRecT3, SpRecT4, SpRecT5, SpEnt10, SpEnt11. -/
import Derived.Shelf.Strings.Repeat
import Derived.Shelf.Strings.SlTrimAscii
import Derived.Shelf.Spec.TrailingZeros
import Derived.Shelf.Strings.Count
import Derived.Shelf.Strings.OnBuilder
import Derived.Test.YtklljiofechahaaGreatDoorlawUN6
set_option linter.all false
section
/- The functions together. -/
set_option linter.unusedVariables false
set_option maxRecDepth 100000
namespace Go.Am
def fns:List (Nat × AFun):=[(zeQ,zie),(z1J,zil),(z8R,zin),(z8Q,zim),(z8W,zi0),(z9b,zi6),(z4R,zdK),(z1Q,z86),(z8P,zig),(z8S,ziq),(z1h,zio),(z27,zik),(z3u,zih),(z26,zij),(z1I,zii),(z6i,zdH),(z4P,zdG),(z28,zee),(z4T,zdT),(z3w,zdZ),(z4V,zec),(z7u,zdM),(z1y,zdD),(z8Z,zi3),(z4i,zit),(z7v,zdO),(z8T,zis),(z8X,zi1),(z7t,zir),(z8V,ziy),(z8U,ziv),(z3n,ziu),(z6l,zdL),(z6k,ziz),(z4h,zif),(z4Q,zdI),(z7r,zdJ),(z2d,ziw),(z0N,zdF),(z6j,zix),(z7q,zdC),(z7w,zdP),(z73,zea),(z7y,zdR),(z3v,zdY),(z9a,zi5),(z7z,zdS),(z7x,zdQ),(z74,zeb),(z8Y,zi2),(z4S,zdN),(z4O,zdE),(z9c,zi7),(z72,zdX),(z71,zdV),(z4U,zdW),(z6m,zi4),(z8O,zid),(z70,zdU)]
def GRL:List (Nat × Sh):=[]
def PRL:zcL:=[(zlc,trimS),(z7s,zvf)]
def GLL:List (Nat × PV):=[]
def fnOf:List (Nat × AFun)→Nat→Option AFun
 | [],_=>none
 | (k,F)::r,n=>bif Nat.beq k n then some F else fnOf r n
def X:Ctx:=⟨fnOf fns,glOf GLL,extF z0h z0g,libF GRL PRL⟩
theorem zfa {p:Nat→AFun→Bool}:∀ (l:List (Nat × AFun)),(l.all fun y=>p y.1 y.2)=true→∀ n F,fnOf l n=some F→p n F=true
 | [],_,n,F,h=>by cases h
 | (k,G)::r,ha,n,F,h=>by
  simp only[List.all_cons,Bool.and_eq_true] at ha
  simp only[fnOf] at h
  cases hk:Nat.beq k n with
  | true=>
   rw[hk] at h
   have:=Nat.eq_of_beq_eq_true hk
   simp only[cond_true,Option.some.injEq] at h
   subst this;subst h;exact ha.1
  | false=>
   rw[hk] at h
   exact zfa r ha.2 n F h
def fns0:List (Nat × AFun):=[(z4R,zdK),(z1Q,z86),(z7s,a_q02x),(z6i,zdH),(z4P,zdG),(z28,zee),(zsh,a_q025),(z4T,zdT),(z3w,zdZ),(z4V,zec),(z7u,zdM),(z1y,zdD),(zrK,a_q00d),(zsn,a_q02y),(zsa,a_q011),(zsv,a_q0a0),(zsm,a_q02w),(z7v,zdO),(z6l,zdL),(z4Q,zdI),(z7r,zdJ),(zsq,a_q05i),(z0N,zdF),(zsk,a_q02j),(zsj,a_q02i),(zla,a_q003),(z7q,zdC),(z7w,zdP),(z73,zea),(z7y,zdR),(z3v,zdY),(zrI,a_q00b),(zrT,a_q00n),(zeP,a_q00o),(zrZ,a_q010),(zsu,a_q09z),(zlf,a_q0a4),(z7z,zdS),(z7x,zdQ),(z74,zeb),(z4S,zdN),(zss,a_q05w),(z4O,zdE),(zsi,a_q02d),(zsl,a_q02k),(zrH,a_q004),(z72,zdX),(z71,zdV),(z4U,zdW),(zrJ,a_q00c),(z7p,a_q000),(zrN,a_q00g),(zsp,a_q05e),(zsb,a_q012),(zsd,a_q014),(zsg,a_q017),(zsf,a_q016),(zse,a_q015),(zsx,a_q0a3),(zs3,a_q0ac),(zsz,a_q0a7),(z70,zdU),(zrO,a_q00h),(zrS,a_q00m),(zrU,a_q00p),(zrY,a_q00z),(zrX,a_q00y),(zs2,a_q0ab),(zle,a_q0a1),(zs0,a_q0a9),(zsw,a_q0a2),(zs1,a_q0aa),(zsy,a_q0a6),(zbX,a_q0a8),(zeS,a_q0a5),(zrM,a_q00f),(zbW,a_q00l),(zlb,a_q05g),(zrP,a_q00i),(zrV,a_q00q),(zrL,a_q00e),(zsc,a_q013),(zst,a_q09n),(zsr,a_q05t),(zrQ,a_q00j),(zrW,a_q00r),(zld,a_q09o),(z76,zef),(zso,a_q05a),(zrR,a_q00k),(z75,zaC)]
def PRL0:zcL:=[(zlc,trimS)]
def X0:Ctx:=⟨fnOf fns0,glOf GLL,extF z0h z0g,libF GRL PRL0⟩
theorem zd8:X0.fn z76=some zef:=by kernel_rfl
theorem zd7:X0.fn z75=some zaC:=by kernel_rfl
theorem zdB:X.NoNext:=fun f F h=>zfa (p:=fun _ F=>F.isDet||F.body.noNext) fns (by kernel_rfl) f F h
theorem x_q02v:X.fn zeQ=some zie:=by kernel_rfl
theorem c_q02v {u0 v0:AV} {h h1:Heap} {P:Post} (hp:z0u h [u0]=some ([v0],h1)):z0c X zeQ [u0] h P=zev (z0c X) X.gl z2C z35 v0 h1 [] (finR [.t 2] false h.length P):=by rw[z0j x_q02v rfl hp rfl];exact e_q02v
theorem x_q03k:X.fn z1J=some zil:=by kernel_rfl
theorem c_q03k {u0 u1 u2 v0 v1 v2:AV} {h h1:Heap} {P:Post} (hp:z0u h [u0,u1,u2]=some ([v0,v1,v2],h1)):z0c X z1J [u0,u1,u2] h P=zjo (z0c X) X.gl v0 v1 v2 h1 [] (finR [.t 6] false h.length P):=by rw[z0j x_q03k rfl hp rfl];exact e_q03k
theorem x_q03q:X.fn z8R=some zin:=by kernel_rfl
theorem c_q03q {u0 v0:AV} {h h1:Heap} {P:Post} (hp:z0u h [u0]=some ([v0],h1)):z0c X z8R [u0] h P=zjp (z0c X) X.gl v0 h1 [] (finR [.cell 2 (some 2)] false h.length P):=by rw[z0j x_q03q rfl hp rfl];exact e_q03q
theorem x_q03p:X.fn z8Q=some zim:=by kernel_rfl
theorem c_q03p {u0 u1 v0 v1:AV} {h h1:Heap} {P:Post} (hp:z0u h [u0,u1]=some ([v0,v1],h1)):z0c X z8Q [u0,u1] h P=zez (z0c X) X.gl z2E z5l v0 v1 h1 [] (finR [.t 4] false h.length P):=by rw[z0j x_q03p rfl hp rfl];exact e_q03p
theorem x_q05b:X.fn z8W=some zi0:=by kernel_rfl
theorem c_q05b {u0 v0:AV} {h h1:Heap} {P:Post} (hp:z0u h [u0]=some ([v0],h1)):z0c X z8W [u0] h P = ∃ v h' x,P v h' x∧zju (z0c X) X.gl v0 h1 [] (finR [.t 2] true h.length fun v1 h1 x1=>v1=v∧h1=h'∧x1=x):=by rw[z2o x_q05b rfl hp rfl];exact zkZ fun v h' x=>congrArg (And (P v h' x)) e_q05b
theorem x_q07w:X.fn z9b=some zi6:=by kernel_rfl
theorem c_q07w {u0 u1 u2 v0 v1 v2:AV} {h h1:Heap} {P:Post} (hp:z0u h [u0,u1,u2]=some ([v0,v1,v2],h1)):z0c X z9b [u0,u1,u2] h P=ze7 (z0c X) X.gl v0 v1 v2 h1 [] (finR [.t 6,.t 7,.t 8] false h.length P):=by rw[z0j x_q07w rfl hp rfl];exact e_q07w
theorem x_q05j:X.fn z4R=some zdK:=by kernel_rfl
theorem c_q05j {u0 u1 h P}:z0c X z4R [u0,u1] h P=zjw (z0c X) X.gl u0 u1 h [] (finR [.t 4] false h.length P):=by rw[z1T x_q05j rfl rfl];exact e_q05j
theorem zoJ:X.fn z1Q=some z86:=by kernel_rfl
theorem c_q07t {u0 u1 u2 u3 v0 v1 v2 v3:AV} {h h1:Heap} {P:Post} (hp:z0u h [u0,u1,u2,u3]=some ([v0,v1,v2,v3],h1)):z0c X z1Q [u0,u1,u2,u3] h P=z8L (z0c X) X.gl v0 v1 v2 v3 h1 [] (finR [.cell 8 (some 5),.t 9] false h.length P):=by rw[z0j zoJ rfl hp rfl];exact e_q07t
theorem x_q03c:X.fn z8P=some zig:=by kernel_rfl
theorem c_q03c {u0 u1 v0 v1:AV} {h h1:Heap} {P:Post} (hp:z0u h [u0,u1]=some ([v0,v1],h1)):z0c X z8P [u0,u1] h P=zex (z0c X) X.gl z2D z38 v0 v1 h1 [] (finR [.t 4] false h.length P):=by rw[z0j x_q03c rfl hp rfl];exact e_q03c
theorem x_q03v:X.fn z8S=some ziq:=by kernel_rfl
theorem c_q03v {u0 v0:AV} {h h1:Heap} {P:Post} (hp:z0u h [u0]=some ([v0],h1)):z0c X z8S [u0] h P=zbh (z0c X) X.gl z2F z5m v0 h1 [] (finR [.t 2] false h.length P):=by rw[z0j x_q03v rfl hp rfl];exact e_q03v
theorem x_q03s:X.fn z1h=some zio:=by kernel_rfl
theorem c_q03s {u0 u1 v0 v1:AV} {h h1:Heap} {P:Post} (hp:z0u h [u0,u1]=some ([v0,v1],h1)):z0c X z1h [u0,u1] h P=zjq (z0c X) X.gl v0 v1 h1 [] (finR [.t 4] false h.length P):=by rw[z0j x_q03s rfl hp rfl];exact e_q03s
theorem x_q03j:X.fn z27=some zik:=by kernel_rfl
theorem c_q03j {u0 u1 v0 v1:AV} {h h1:Heap} {P:Post} (hp:z0u h [u0,u1]=some ([v0,v1],h1)):z0c X z27 [u0,u1] h P=zjn (z0c X) X.gl v0 v1 h1 [] (finR [.t 4] false h.length P):=by rw[z0j x_q03j rfl hp rfl];exact e_q03j
theorem x_q03f:X.fn z3u=some zih:=by kernel_rfl
theorem c_q03f {u0 u1 v0 v1:AV} {h h1:Heap} {P:Post} (hp:z0u h [u0,u1]=some ([v0,v1],h1)):z0c X z3u [u0,u1] h P=zjm (z0c X) X.gl v0 v1 h1 [] (finR [.t 4] false h.length P):=by rw[z0j x_q03f rfl hp rfl];exact e_q03f
theorem x_q03i:X.fn z26=some zij:=by kernel_rfl
theorem zel {u0 u1 u2 v0 v1 v2:AV} {h h1:Heap} {P:Post} (hp:z0u h [u0,u1,u2]=some ([v0,v1,v2],h1)):z0c X z26 [u0,u1,u2] h P=z8I (z0c X) X.gl v0 v1 v2 h1 [] (finR [.t 6] false h.length P):=by rw[z0j x_q03i rfl hp rfl];exact e_q03i
theorem x_q03h:X.fn z1I=some zii:=by kernel_rfl
theorem c_q03h {u0 u1 v0 v1:AV} {h h1:Heap} {P:Post} (hp:z0u h [u0,u1]=some ([v0,v1],h1)):z0c X z1I [u0,u1] h P=zey (z0c X) X.gl v0 v1 h1 [] (finR [.t 4] false h.length P):=by rw[z0j x_q03h rfl hp rfl];exact e_q03h
theorem x_q00u:X.fn z6i=some zdH:=by kernel_rfl
theorem c_q00u {u0 v0:AV} {h h1:Heap} {P:Post} (hp:z0u h [u0]=some ([v0],h1)):z0c X z6i [u0] h P=zeu (z0c X) X.gl z2B z5g v0 h1 [] (finR [.t 2] false h.length P):=by rw[z0j x_q00u rfl hp rfl];exact e_q00u
theorem x_q00s:X.fn z4P=some zdG:=by kernel_rfl
theorem c_q00s {u0 u1 v0 v1:AV} {h h1:Heap} {P:Post} (hp:z0u h [u0,u1]=some ([v0,v1],h1)):z0c X z4P [u0,u1] h P=zaU (z0c X) X.gl v0 v1 h1 [] (finR [.t 4] false h.length P):=by rw[z0j x_q00s rfl hp rfl];exact e_q00s
theorem x_q091:X.fn z28=some zee:=by kernel_rfl
theorem c_q091 {u0 u1 v0 v1:AV} {h h1:Heap} {P:Post} (hp:z0u h [u0,u1]=some ([v0,v1],h1)):z0c X z28 [u0,u1] h P=zj2 (z0c X) X.gl v0 v1 h1 [] (finR [.t 4] false h.length P):=by rw[z0j x_q091 rfl hp rfl];exact e_q091
theorem x_q083:X.fn z4T=some zdT:=by kernel_rfl
theorem c_q083 {u0 u1 u2 v0 v1 v2:AV} {h h1:Heap} {P:Post} (hp:z0u h [u0,u1,u2]=some ([v0,v1,v2],h1)):z0c X z4T [u0,u1,u2] h P=zj0 (z0c X) X.gl v0 v1 v2 h1 [] (finR [.t 6] false h.length P):=by rw[z0j x_q083 rfl hp rfl];exact e_q083
theorem x_q08b:X.fn z3w=some zdZ:=by kernel_rfl
theorem c_q08b {u0 u1 v0 v1:AV} {h h1:Heap} {P:Post} (hp:z0u h [u0,u1]=some ([v0,v1],h1)):z0c X z3w [u0,u1] h P=zeA (z0c X) X.gl z2Q z51 v0 v1 h1 [] (finR [.t 4] false h.length P):=by rw[z0j x_q08b rfl hp rfl];exact e_q08b
theorem x_q08j:X.fn z4V=some zec:=by kernel_rfl
theorem c_q08j {u0 u1 v0 v1:AV} {h h1:Heap} {P:Post} (hp:z0u h [u0,u1]=some ([v0,v1],h1)):z0c X z4V [u0,u1] h P=zeD (z0c X) X.gl z2S z53 v0 v1 h1 [] (finR [.t 4] false h.length P):=by rw[z0j x_q08j rfl hp rfl];exact e_q08j
theorem x_q05y:X.fn z7u=some zdM:=by kernel_rfl
theorem c_q05y {u0 u1 h P}:z0c X z7u [u0,u1] h P=ze3 (z0c X) X.gl z2I z5q u0 u1 h [] (finR [.t 4] false h.length P):=by rw[z1T x_q05y rfl rfl];exact e_q05y
theorem x_q005:X.fn z1y=some zdD:=by kernel_rfl
theorem c_q005 {u0 v0:AV} {h h1:Heap} {P:Post} (hp:z0u h [u0]=some ([v0],h1)):z0c X z1y [u0] h P=z6b (z0c X) X.gl z2A z5f v0 h1 [] (finR [.t 2] false h.length P):=by rw[z0j x_q005 rfl hp rfl];exact e_q005
theorem x_q062:X.fn z8Z=some zi3:=by kernel_rfl
theorem c_q062 {u0 u1 h P}:z0c X z8Z [u0,u1] h P=zjy (z0c X) X.gl u0 u1 h [] (finR [] false h.length P):=by rw[z1T x_q062 rfl rfl];exact e_q062
theorem x_q041:X.fn z4i=some zit:=by kernel_rfl
theorem zrC {u0 u1 v0 v1:AV} {h h1:Heap} {P:Post} (hp:z0u h [u0,u1]=some ([v0,v1],h1)):z0c X z4i [u0,u1] h P=z6d (z0c X) X.gl v0 v1 h1 [] (finR [.t 4] false h.length P):=by rw[z0j x_q041 rfl hp rfl];exact e_q041
theorem x_q07q:X.fn z7v=some zdO:=by kernel_rfl
theorem c_q07q {u0 v0:AV} {h h1:Heap} {P:Post} (hp:z0u h [u0]=some ([v0],h1)):z0c X z7v [u0] h P=zbz (z0c X) X.gl z2M z5t v0 h1 [] (finR [.t 2] false h.length P):=by rw[z0j x_q07q rfl hp rfl];exact e_q07q
theorem x_q03z:X.fn z8T=some zis:=by kernel_rfl
theorem c_q03z {u0 v0:AV} {h h1:Heap} {P:Post} (hp:z0u h [u0]=some ([v0],h1)):z0c X z8T [u0] h P=z6c (z0c X) X.gl z5n v0 h1 [] (finR [.t 2] false h.length P):=by rw[z0j x_q03z rfl hp rfl];exact e_q03z
theorem x_q05h:X.fn z8X=some zi1:=by kernel_rfl
theorem c_q05h {u0 u1 h P}:z0c X z8X [u0,u1] h P=zjv (z0c X) X.gl u0 u1 h [] (finR [.t 4] false h.length P):=by rw[z1T x_q05h rfl rfl];exact e_q05h
theorem x_q03w:X.fn z7t=some zir:=by kernel_rfl
theorem c_q03w {u0 u1 v0 v1:AV} {h h1:Heap} {P:Post} (hp:z0u h [u0,u1]=some ([v0,v1],h1)):z0c X z7t [u0,u1] h P=zjr (z0c X) X.gl v0 v1 h1 [] (finR [.t 3] false h.length P):=by rw[z0j x_q03w rfl hp rfl];exact e_q03w
theorem x_q056:X.fn z8V=some ziy:=by kernel_rfl
theorem c_q056 {u0 u1 v0 v1:AV} {h h1:Heap} {P:Post} (hp:z0u h [u0,u1]=some ([v0,v1],h1)):z0c X z8V [u0,u1] h P=ze1 (z0c X) X.gl v0 v1 h1 [] (finR [.t 4] false h.length P):=by rw[z0j x_q056 rfl hp rfl];exact e_q056
theorem x_q046:X.fn z8U=some ziv:=by kernel_rfl
theorem c_q046 {u0 v0:AV} {h h1:Heap} {P:Post} (hp:z0u h [u0]=some ([v0],h1)):z0c X z8U [u0] h P=zjs (z0c X) X.gl v0 h1 [] (finR [.t 2] false h.length P):=by rw[z0j x_q046 rfl hp rfl];exact e_q046
theorem x_q043:X.fn z3n=some ziu:=by kernel_rfl
theorem c_q043 {u0 v0:AV} {h h1:Heap} {P:Post} (hp:z0u h [u0]=some ([v0],h1)):z0c X z3n [u0] h P=z8J (z0c X) X.gl v0 h1 [] (finR [.t 2] false h.length P):=by rw[z0j x_q043 rfl hp rfl];exact e_q043
theorem x_q05k:X.fn z6l=some zdL:=by kernel_rfl
theorem c_q05k {u0 u1 h P}:z0c X z6l [u0,u1] h P=zjx (z0c X) X.gl u0 u1 h [] (finR [.t 4] false h.length P):=by rw[z1T x_q05k rfl rfl];exact e_q05k
theorem x_q057:X.fn z6k=some ziz:=by kernel_rfl
theorem c_q057 {u0 v0:AV} {h h1:Heap} {P:Post} (hp:z0u h [u0]=some ([v0],h1)):z0c X z6k [u0] h P=zbn (z0c X) X.gl v0 h1 [] (finR [.t 2] false h.length P):=by rw[z0j x_q057 rfl hp rfl];exact e_q057
theorem x_q039:X.fn z4h=some zif:=by kernel_rfl
theorem c_q039 {u0 u1 v0 v1:AV} {h h1:Heap} {P:Post} (hp:z0u h [u0,u1]=some ([v0,v1],h1)):z0c X z4h [u0,u1] h P=zew (z0c X) X.gl z5h v0 v1 h1 [] (finR [.t 4] false h.length P):=by rw[z0j x_q039 rfl hp rfl];exact e_q039
theorem x_q00v:X.fn z4Q=some zdI:=by kernel_rfl
theorem c_q00v {u0 v0:AV} {h h1:Heap} {P:Post} (hp:z0u h [u0]=some ([v0],h1)):z0c X z4Q [u0] h P=zjj (z0c X) X.gl v0 h1 [] (finR [.t 2] false h.length P):=by rw[z0j x_q00v rfl hp rfl];exact e_q00v
theorem x_q01b:X.fn z7r=some zdJ:=by kernel_rfl
theorem c_q01b {u0 u1 v0 v1:AV} {h h1:Heap} {P:Post} (hp:z0u h [u0,u1]=some ([v0,v1],h1)):z0c X z7r [u0,u1] h P=zjk (z0c X) X.gl v0 v1 h1 [] (finR [.t 4] false h.length P):=by rw[z0j x_q01b rfl hp rfl];exact e_q01b
theorem x_q050:X.fn z2d=some ziw:=by kernel_rfl
theorem c_q050 {u0 u1 u2 v0 v1 v2:AV} {h h1:Heap} {P:Post} (hp:z0u h [u0,u1,u2]=some ([v0,v1,v2],h1)):z0c X z2d [u0,u1,u2] h P=zjt (z0c X) X.gl v0 v1 v2 h1 [] (finR [.t 6] false h.length P):=by rw[z0j x_q050 rfl hp rfl];exact e_q050
theorem x_q00a:X.fn z0N=some zdF:=by kernel_rfl
theorem c_q00a {u0 u1 u2 v0 v1 v2:AV} {h h1:Heap} {P:Post} (hp:z0u h [u0,u1,u2]=some ([v0,v1,v2],h1)):z0c X z0N [u0,u1,u2] h P=zji (z0c X) X.gl v0 v1 v2 h1 [] (finR [.t 6] false h.length P):=by rw[z0j x_q00a rfl hp rfl];exact e_q00a
theorem x_q051:X.fn z6j=some zix:=by kernel_rfl
theorem c_q051 {u0 u1 v0 v1:AV} {h h1:Heap} {P:Post} (hp:z0u h [u0,u1]=some ([v0,v1],h1)):z0c X z6j [u0,u1] h P=ze0 (z0c X) X.gl z2G z5o v0 v1 h1 [] (finR [.t 4] false h.length P):=by rw[z0j x_q051 rfl hp rfl];exact e_q051
theorem x_q002:X.fn z7q=some zdC:=by kernel_rfl
theorem c_q002 {u0 v0:AV} {h h1:Heap} {P:Post} (hp:z0u h [u0]=some ([v0],h1)):z0c X z7q [u0] h P=zet (z0c X) X.gl z29 z5e v0 h1 [] (finR [.t 2] false h.length P):=by rw[z0j x_q002 rfl hp rfl];exact e_q002
theorem x_q07r:X.fn z7w=some zdP:=by kernel_rfl
theorem c_q07r {u0 v0:AV} {h h1:Heap} {P:Post} (hp:z0u h [u0]=some ([v0],h1)):z0c X z7w [u0] h P=z8K (z0c X) X.gl z2N z5u v0 h1 [] (finR [.t 2] false h.length P):=by rw[z0j x_q07r rfl hp rfl];exact e_q07r
theorem x_q08e:X.fn z73=some zea:=by kernel_rfl
theorem c_q08e {u0 v0:AV} {h h1:Heap} {P:Post} (hp:z0u h [u0]=some ([v0],h1)):z0c X z73 [u0] h P=zeB (z0c X) X.gl v0 h1 [] (finR [.t 2] false h.length P):=by rw[z0j x_q08e rfl hp rfl];exact e_q08e
theorem x_q081:X.fn z7y=some zdR:=by kernel_rfl
theorem c_q081 {u0 v0:AV} {h h1:Heap} {P:Post} (hp:z0u h [u0]=some ([v0],h1)):z0c X z7y [u0] h P=ze8 (z0c X) X.gl z2O z5v v0 h1 [] (finR [.t 2] false h.length P):=by rw[z0j x_q081 rfl hp rfl];exact e_q081
theorem x_q088:X.fn z3v=some zdY:=by kernel_rfl
theorem zem {u0 u1 v0 v1:AV} {h h1:Heap} {P:Post} (hp:z0u h [u0,u1]=some ([v0,v1],h1)):z0c X z3v [u0,u1] h P=z2b (z0c X) X.gl z5z z50 v0 v1 h1 [] (finR [.t 4] false h.length P):=by rw[z0j x_q088 rfl hp rfl];exact e_q088
theorem x_q07g:X.fn z9a=some zi5:=by kernel_rfl
theorem c_q07g {u0 u1 u2 h P}:z0c X z9a [u0,u1,u2] h P=ze6 (z0c X) X.gl z2L z5s u0 u1 u2 h [] (finR [] false h.length P):=by rw[z1T x_q07g rfl rfl];exact e_q07g
theorem x_q082:X.fn z7z=some zdS:=by kernel_rfl
theorem c_q082 {u0 v0:AV} {h h1:Heap} {P:Post} (hp:z0u h [u0]=some ([v0],h1)):z0c X z7z [u0] h P=z4I (z0c X) X.gl v0 h1 [] (finR [.t 2] false h.length P):=by rw[z0j x_q082 rfl hp rfl];exact e_q082
theorem x_q080:X.fn z7x=some zdQ:=by kernel_rfl
theorem c_q080 {u0 u1 v0 v1:AV} {h h1:Heap} {P:Post} (hp:z0u h [u0,u1]=some ([v0,v1],h1)):z0c X z7x [u0,u1] h P=zjz (z0c X) X.gl v0 v1 h1 [] (finR [.t 4] false h.length P):=by rw[z0j x_q080 rfl hp rfl];exact e_q080
theorem x_q08i:X.fn z74=some zeb:=by kernel_rfl
theorem c_q08i {u0 v0:AV} {h h1:Heap} {P:Post} (hp:z0u h [u0]=some ([v0],h1)):z0c X z74 [u0] h P=zeC (z0c X) X.gl z2R z52 v0 h1 [] (finR [.t 2] false h.length P):=by rw[z0j x_q08i rfl hp rfl];exact e_q08i
theorem x_q05u:X.fn z8Y=some zi2:=by kernel_rfl
theorem c_q05u {u0 u1 h P}:z0c X z8Y [u0,u1] h P=ze2 (z0c X) X.gl z2H z5p u0 u1 h [] (finR [.t 4] false h.length P):=by rw[z1T x_q05u rfl rfl];exact e_q05u
theorem x_q05z:X.fn z4S=some zdN:=by kernel_rfl
theorem c_q05z {u0 u1 h P}:z0c X z4S [u0,u1] h P=ze4 (z0c X) X.gl z2J z5r u0 u1 h [] (finR [.t 4] false h.length P):=by rw[z1T x_q05z rfl rfl];exact e_q05z
theorem x_q007:X.fn z4O=some zdE:=by kernel_rfl
theorem c_q007 {u0 v0:AV} {h h1:Heap} {P:Post} (hp:z0u h [u0]=some ([v0],h1)):z0c X z4O [u0] h P=zjh (z0c X) X.gl v0 h1 [] (finR [.t 2] false h.length P):=by rw[z0j x_q007 rfl hp rfl];exact e_q007
theorem x_q097:X.fn z9c=some zi7:=by kernel_rfl
theorem c_q097 {u0 u1 v0 v1:AV} {h h1:Heap} {P:Post} (hp:z0u h [u0,u1]=some ([v0,v1],h1)):z0c X z9c [u0,u1] h P=zj3 (z0c X) X.gl v0 v1 h1 [] (finR [.t 4] false h.length P):=by rw[z0j x_q097 rfl hp rfl];exact e_q097
theorem x_q087:X.fn z72=some zdX:=by kernel_rfl
theorem c_q087 {u0 u1 u2 v0 v1 v2:AV} {h h1:Heap} {P:Post} (hp:z0u h [u0,u1,u2]=some ([v0,v1,v2],h1)):z0c X z72 [u0,u1,u2] h P=z8M (z0c X) X.gl v0 v1 v2 h1 [] (finR [.t 6] false h.length P):=by rw[z0j x_q087 rfl hp rfl];exact e_q087
theorem x_q085:X.fn z71=some zdV:=by kernel_rfl
theorem c_q085 {u0 u1 u2 v0 v1 v2:AV} {h h1:Heap} {P:Post} (hp:z0u h [u0,u1,u2]=some ([v0,v1,v2],h1)):z0c X z71 [u0,u1,u2] h P=z4J (z0c X) X.gl z5w z5x v0 v1 v2 h1 [] (finR [.t 6] false h.length P):=by rw[z0j x_q085 rfl hp rfl];exact e_q085
theorem x_q086:X.fn z4U=some zdW:=by kernel_rfl
theorem c_q086 {u0 u1 u2 v0 v1 v2:AV} {h h1:Heap} {P:Post} (hp:z0u h [u0,u1,u2]=some ([v0,v1,v2],h1)):z0c X z4U [u0,u1,u2] h P=ze9 (z0c X) X.gl z2P z5y v0 v1 v2 h1 [] (finR [] false h.length P):=by rw[z0j x_q086 rfl hp rfl];exact e_q086
theorem x_q06g:X.fn z6m=some zi4:=by kernel_rfl
theorem c_q06g {u0 u1 u2 u3 h P}:z0c X z6m [u0,u1,u2,u3] h P=ze5 (z0c X) X.gl z2K u0 u1 u2 u3 h [] (finR [] false h.length P):=by rw[z1T x_q06g rfl rfl];exact e_q06g
theorem x_q01z:X.fn z8O=some zid:=by kernel_rfl
theorem c_q01z {u0 u1 v0 v1:AV} {h h1:Heap} {P:Post} (hp:z0u h [u0,u1]=some ([v0,v1],h1)):z0c X z8O [u0,u1] h P=zjl (z0c X) X.gl v0 v1 h1 [] (finR [.t 4] false h.length P):=by rw[z0j x_q01z rfl hp rfl];exact e_q01z
theorem x_q084:X.fn z70=some zdU:=by kernel_rfl
theorem c_q084 {u0 u1 v0 v1:AV} {h h1:Heap} {P:Post} (hp:z0u h [u0,u1]=some ([v0,v1],h1)):z0c X z70 [u0,u1] h P=zj1 (z0c X) X.gl v0 v1 h1 [] (finR [.t 4] false h.length P):=by rw[z0j x_q084 rfl hp rfl];exact e_q084
attribute [go_sem] zjO zjP zjQ zjR z7j z4K zlB zlC zaX zaY z6V zaZ z6W z4F zjX zjY zlE zbf zbg z7k zjT z25 z7l zjU zjV zjW zlD zbb zbc z1t z2a zbd z6X zbe zjZ zka zkb z7m zlF zlG
attribute [go_sem] zbi zbj zbk z4G zjM zjN zlA zaV zaW zk9 zkA zkB zlU zbB z7g zbC zkE zkF zlW zbF zbG zkh zki zlJ zbq zbr zjK zjL zl9 zaS zaT zku zkv zlQ zb0 zb1 zkc z0L zjS zba
attribute [go_sem] zkd zke zlH zbl zbm zjI zjJ zl8 zaQ zaR zkw z7n zlR zb2 z4H zkx zky zkz zlS zb3 z7c zb4 zk6 zk7 zk8 zb9 zbA z7f zko zkp zkq zkr zks zkt zlN zlO zlP zbw zbx zby
attribute [go_sem] z6Z z7a z7b zkC zkD zlV zbD zbE zkf zkg zlI zbo zbp zkj zkk zlK zbs zbt zk0 zk1 zk2 zb5 zb6 z7d zk3 zk4 zk5 zlT zb7 z7e zb8 zkl zkm zkn zlL zlM zbu zbv z6Y zkG
attribute [go_sem] zkH zkI zkJ zlX zlY zbH z7h z7i zbI
end Go.Am
end
section
/- The stream of numbers out of which the laws draw. -/
open Go
namespace Go.Am
abbrev eI (n:Int):PV:=.int .i64 n
abbrev AL (l:List Int):AV:=.p (.sl none (l.map eI))
abbrev strm (L:List Int) (a:Int):Obj:=.box [AL L,AI a]
def zaI (x n:Int):Int:=if n<1 then 0 else if x.tmod n<0 then IntKind.i64.wrap (x.tmod n+n) else x.tmod n
theorem zol (x n:Int) (h:Heap) (K:Post):z0c X z4h [AI x,AI n] h K=K (AI (zaI x n)) h []:=by
 refine rule ?_
 rw[c_q039 rfl]
 simp only[zew,go_sem]
 unfold zaI
 by_cases h1:n<1
 ·simp only[h1,if_true]
 ·simp only[h1,if_false,show ¬ n=0 by omega]
  split <;> rfl
theorem zpk (x n:Int) (h1:1≤n) (h2:n≤4611686018427387904):0≤zaI x n∧zaI x n<n:=by
 unfold zaI
 rw[if_neg (by omega)]
 have:=Int.tmod_lt_of_pos x (show 0<n by omega)
 have h3 : -n<x.tmod n:=by
  have:=Int.lt_tmod_of_pos x (show 0<n by omega)
  exact this
 split
 ·rw[z0l _ (by omega) (by omega)];omega
 ·omega
def z12 (L:List Int) (a n:Int):Int:=
 if L.length=0 then zaI (IntKind.i64.wrap ((a+1)*7919)) n
 else zaI (IntKind.i64.wrap (zaI (L.getD (a.tmod L.length).toNat 0) 1073741824+IntKind.i64.wrap (IntKind.i64.wrap (a.tdiv L.length)*IntKind.i64.wrap (7919+a.tmod L.length)))) n
theorem z5d (L:List Int) (a n:Int) (h1:1≤n) (h2:n≤4611686018427387904):0≤z12 L a n∧z12 L a n<n:=by
 unfold z12
 split <;> exact zpk _ _ h1 h2
theorem z3Z {h:Heap} {id:Nat} {o':Obj} (hid:id<h.length):(h.set id o')[id]?=some o':=by simp [hid]
theorem z7C {h:Heap} {id:Nat} {o:Obj} (hh:h[id]?=some o):id<h.length:=(List.getElem?_eq_some_iff.1 hh).1
def posN (n:Nat) (a:Int):Prop:=0≤a∧a+n<4611686018427387904
theorem z0Q {n m:Nat} {a b:Int} (H:posN m a) (h:a≤b) (hn:b+n≤a+m):posN n b:=by unfold posN at *;omega
theorem z55 {a:Int} (H:posN 14 a):posN 0 (a)∧posN 0 (a+1)∧posN 0 (a+1+1)∧posN 0 (a+1+1+1)∧posN 0 (a+1+1+1+1)∧posN 0 (a+1+1+1+1+1)∧posN 0 (a+1+1+1+1+1+1)∧posN 0 (a+1+1+1+1+1+1+1)∧posN 0 (a+1+1+1+1+1+1+1+1)∧posN 0 (a+1+1+1+1+1+1+1+1+1)∧posN 0 (a+1+1+1+1+1+1+1+1+1+1)∧posN 0 (a+1+1+1+1+1+1+1+1+1+1+1)∧posN 0 (a+1+1+1+1+1+1+1+1+1+1+1+1)∧posN 0 (a+1+1+1+1+1+1+1+1+1+1+1+1+1)∧posN 0 (a+1+1+1+1+1+1+1+1+1+1+1+1+1+1):=by
 unfold posN at *;omega
def Gen (f:Nat) (args:List AV) (L:List Int) (a a2:Int) (v:AV):Prop:=∀ (h:Heap) (id:Nat) (K:Post),h[id]?=some (strm L a)→z0c X f (.ref id 0::args) h K=K v (h.set id (strm L a2)) []
section
variable {f:Nat} {args:List AV} {L:List Int} {a a2:Int} {v:AV} {h l:Heap} {id:Nat} {K:Post}
theorem Gen.set (g:Gen f args L a a2 v) (hid:id<h.length):z0c X f (.ref id 0::args) (h.set id (strm L a)) K=K v (h.set id (strm L a2)) []:=by
 rw[g _ _ _ (z3Z hid),List.set_set]
theorem Gen.app (g:Gen f args L a a2 v) (hid:id<h.length):z0c X f (.ref id 0::args) (h.set id (strm L a)++l) K=K v (h.set id (strm L a2)++l) []:=by
 rw[g _ _ _ (by rw[zlu (by simpa using hid)];exact z3Z hid),zoy (by simpa using hid),List.set_set]
theorem Gen.hd (g:Gen f args L a a2 v):z0c X f (.ref 0 0::args) (strm L a::l) K=K v (strm L a2::l) []:=by
 rw[g _ _ _ rfl];rfl
theorem Gen.of (H:∀ (h:Heap) (id:Nat),id<h.length→z0c X f (.ref id 0::args) (h.set id (strm L a)) fun v1 h1 x1=>v1=v∧h1=h.set id (strm L a2)∧x1=[]):Gen f args L a a2 v:=by
 intro h id K hh
 have hid:=z7C hh
 have:h.set id (strm L a)=h:=by
  apply List.ext_getElem?
  intro i
  rw[List.getElem?_set]
  split
  ·rename_i e;subst e;rw[hh]
  ·rfl
 have k:=H h id hid
 rw[this] at k
 exact rule k
end
def GenE (f:Nat) (args:List AV) (L:List Int) (a:Int) (Q:AV→Int→Prop):Prop:=∀ (h:Heap) (id:Nat),h[id]?=some (strm L a)→∃ v a2,Q v a2∧∀ K:Post,z0c X f (.ref id 0::args) h K=K v (h.set id (strm L a2)) []
section
variable {f:Nat} {args:List AV} {L:List Int} {a:Int} {Q:AV→Int→Prop}
theorem GenE.set (g:GenE f args L a Q) {h:Heap} {id:Nat} (hid:id<h.length):∃ v a2,Q v a2∧∀ K:Post,z0c X f (.ref id 0::args) (h.set id (strm L a)) K=K v (h.set id (strm L a2)) []:=by
 obtain⟨v,a2,q,r⟩:=g _ _ (z3Z hid)
 exact⟨v,a2,q,fun K=>by rw[r,List.set_set]⟩
theorem GenE.app (g:GenE f args L a Q) {h l:Heap} {id:Nat} (hid:id<h.length):∃ v a2,Q v a2∧∀ K:Post,z0c X f (.ref id 0::args) (h.set id (strm L a)++l) K=K v (h.set id (strm L a2)++l) []:=by
 obtain⟨v,a2,q,r⟩:=g (h.set id (strm L a)++l) id (by rw[zlu (by simpa using hid)];exact z3Z hid)
 exact⟨v,a2,q,fun K=>by rw[r,zoy (by simpa using hid),List.set_set]⟩
theorem GenE.hd (g:GenE f args L a Q) {l:Heap}:∃ v a2,Q v a2∧∀ K:Post,z0c X f (.ref 0 0::args) (strm L a::l) K=K v (strm L a2::l) []:=g (strm L a::l) 0 rfl
theorem GenE.of (H:∀ (h:Heap) (id:Nat),id<h.length→z0c X f (.ref id 0::args) (h.set id (strm L a)) fun v1 h1 x1=>∃ a2,Q v1 a2∧h1=h.set id (strm L a2)∧x1=[]):GenE f args L a Q:=by
 intro h id hh
 have hid:=z7C hh
 have:h.set id (strm L a)=h:=by
  apply List.ext_getElem?
  intro i
  rw[List.getElem?_set]
  split
  ·rename_i e;subst e;rw[hh]
  ·rfl
 have k:=H h id hid
 rw[this] at k
 obtain⟨v,h',x,⟨a2,q,e1,e2⟩,r⟩:=z0c.one zdB k
 subst e1;subst e2
 exact⟨v,a2,q,r⟩
end
def z4c (l:List Int) (L:List Int) (a:Int):Int:=l.getD (z12 L a l.length).toNat 0
theorem z7Z {l L:List Int} {a:Int} (hl:0<l.length) (hl2:l.length<4611686018427387904):z4c l L a∈l:=by
 obtain⟨b1,b2⟩:=z5d L a l.length (by omega) (by omega)
 unfold z4c
 have:(z12 L a l.length).toNat<l.length:=by omega
 simp only[List.getD,List.getElem?_eq_getElem this,Option.getD_some]
 exact List.getElem_mem _
def isI:PV→Bool
 | .int .i64 _=>true
 | _=>false
def unI:PV→Int
 | .int _ n=>n
 | _=>0
theorem zvh {xs:List PV} (h:xs.all isI=true):xs=(xs.map unI).map eI:=by
 induction xs with
 | nil=>rfl
 | cons x r ih=>
  simp only[List.all_cons,Bool.and_eq_true] at h
  simp only[List.map_cons]
  rw[← ih h.2]
  cases x with
  | int k n=>cases k <;> first | rfl | cases h.1
  | _=>cases h.1
set_option maxHeartbeats 400000 in
theorem zlq (L:List Int) (a n:Int) (hp:posN 0 a):Gen z1I [AI n] L a (a+1) (AI (z12 L a n)):=by
 refine Gen.of fun h id hid=>?_
 rw[c_q03h rfl]
 obtain⟨h0,h1⟩:=hp
 have w1:IntKind.i64.wrap (a+1)=a+1:=z0l _ (by omega) (by omega)
 have w2:IntKind.i64.wrap (a+1-1)=a:=by rw[z0l _ (by omega) (by omega)];omega
 have hs:∀ o',(h.set id o')[id]?=some o':=fun o'=>z3Z hid
 rcases Nat.eq_zero_or_pos L.length with hl | hl
 ·simp only[zey,go_sem,hs,zol,hl,w1]
  simp only[z12,hl,if_true]
 ·have e1:((L.length:Int)=0)=False:=by simp only[eq_iff_iff,iff_false];omega
  have e2:0≤a.tmod L.length:=Int.tmod_nonneg _ h0
  have e3:a.tmod L.length<L.length:=Int.tmod_lt_of_pos _ (by omega)
  have e4:=z7G (k:=.i64) e2
  have e5:(L.map eI)[(a.tmod L.length).toNat]?=some (eI (L.getD (a.tmod L.length).toNat 0)):=by
   rw[z1b eI (show (a.tmod L.length).toNat<L.length by omega)]
   simp [List.getD,show (a.tmod L.length).toNat<L.length by omega]
  simp only[zey,go_sem,hs,zol,e1,w1,w2,e4,e5]
  simp only[z12,show ¬ L.length=0 by omega,if_false]
section
variable {L:List Int} {a:Int} {h l:Heap} {id:Nat} {K:Post}
theorem z1X (hid:id<h.length) (hp:posN 0 a) (n:Int):z0c X z1I [.ref id 0,AI n] (h.set id (strm L a)) K=K (AI (z12 L a n)) (h.set id (strm L (a+1))) []:=(zlq L a n hp).set hid
theorem z9q (hid:id<h.length) (hp:posN 0 a) (n:Int):z0c X z1I [.ref id 0,AI n] (h.set id (strm L a)++l) K=K (AI (z12 L a n)) (h.set id (strm L (a+1))++l) []:=(zlq L a n hp).app hid
theorem zcv (hp:posN 0 a) (n:Int):z0c X z1I [.ref 0 0,AI n] (strm L a::l) K=K (AI (z12 L a n)) (strm L (a+1)::l) []:=(zlq L a n hp).hd
theorem zlp (hp:posN 0 a) (n:Int):Gen z3u [AI n] L a (a+1) (AB (decide (z12 L a n=0))):=by
 refine Gen.of fun h id hid=>?_
 rw[c_q03f rfl]
 simp only[zjm,go_sem,z1X hid hp]
theorem z9p (hid:id<h.length) (hp:posN 0 a) (n:Int):z0c X z3u [.ref id 0,AI n] (h.set id (strm L a)) K=K (AB (decide (z12 L a n=0))) (h.set id (strm L (a+1))) []:=(zlp hp n).set hid
theorem z9o (hid:id<h.length) (hp:posN 0 a) (n:Int):z0c X z3u [.ref id 0,AI n] (h.set id (strm L a)++l) K=K (AB (decide (z12 L a n=0))) (h.set id (strm L (a+1))++l) []:=(zlp hp n).app hid
theorem zcu (hp:posN 0 a) (n:Int):z0c X z3u [.ref 0 0,AI n] (strm L a::l) K=K (AB (decide (z12 L a n=0))) (strm L (a+1)::l) []:=(zlp hp n).hd
theorem zlr (hp:posN 0 a) (xs:List PV) (hx:xs.all isI=true) (hl:0<xs.length) (hl2:xs.length<4611686018427387904) :
 Gen z27 [.p (.sl none xs)] L a (a+1) (AI (z4c (xs.map unI) L a)):=by
 refine Gen.of fun h id hid=>?_
 rw[c_q03j rfl]
 obtain⟨b1,b2⟩:=z5d L a xs.length (by omega) (by omega)
 have e4:=z7G (k:=.i64) b1
 have e5:xs[(z12 L a xs.length).toNat]?=some (eI (z4c (xs.map unI) L a)):=by
  have hm:=zvh hx
  generalize hq:xs.map unI=q at *
  subst hm
  simp only[List.length_map] at *
  rw[z1b eI (show (z12 L a q.length).toNat<q.length by omega)]
  simp [z4c,List.getD,show (z12 L a q.length).toNat<q.length by omega]
 simp only[zjn,go_sem,z1X hid hp,e4,e5]
theorem z9s (hid:id<h.length) (hp:posN 0 a) {xs:List PV} (hx:xs.all isI=true) (hl:0<xs.length) (hl2:xs.length<4611686018427387904) :
 z0c X z27 [.ref id 0,.p (.sl none xs)] (h.set id (strm L a)) K=K (AI (z4c (xs.map unI) L a)) (h.set id (strm L (a+1))) []:=(zlr hp xs hx hl hl2).set hid
theorem z9r (hid:id<h.length) (hp:posN 0 a) {xs:List PV} (hx:xs.all isI=true) (hl:0<xs.length) (hl2:xs.length<4611686018427387904) :
 z0c X z27 [.ref id 0,.p (.sl none xs)] (h.set id (strm L a)++l) K=K (AI (z4c (xs.map unI) L a)) (h.set id (strm L (a+1))++l) []:=(zlr hp xs hx hl hl2).app hid
theorem zcw (hp:posN 0 a) {xs:List PV} (hx:xs.all isI=true) (hl:0<xs.length) (hl2:xs.length<4611686018427387904) :
 z0c X z27 [.ref 0 0,.p (.sl none xs)] (strm L a::l) K=K (AI (z4c (xs.map unI) L a)) (strm L (a+1)::l) []:=(zlr hp xs hx hl hl2).hd
def z1i (u v:Int) (L:List Int) (a:Int):Int:=u+z12 L a (v-u+1)
theorem z2T {u v:Int} (L:List Int) (a:Int) (h1:u≤v) (h2:v≤u+4611686018427387900):u≤z1i u v L a∧z1i u v L a≤v:=by
 have:=z5d L a (v-u+1) (by omega) (by omega)
 unfold z1i;omega
theorem zdd (hp:posN 0 a) (u v:Int) (huv:u≤v) (hu : -1152921504606846976≤u) (hv:v≤1152921504606846976) :
 Gen z1J [AI u,AI v] L a (a+1) (AI (z1i u v L a)):=by
 refine Gen.of fun h id hid=>?_
 rw[c_q03k rfl]
 obtain⟨b1,b2⟩:=z2T L a huv (by omega)
 have w1:IntKind.i64.wrap (v-u)=v-u:=z0l _ (by omega) (by omega)
 have w2:IntKind.i64.wrap (v-u+1)=v-u+1:=z0l _ (by omega) (by omega)
 have w3:IntKind.i64.wrap (u+z12 L a (v-u+1))=z1i u v L a:=z0l (z1i u v L a) (by omega) (by omega)
 simp only[zjo,go_sem,show ¬ v<u by omega,w1,w2,z1X hid hp,w3]
theorem z8h (hid:id<h.length) (hp:posN 0 a) {u v:Int} (huv:u≤v) (hu : -1152921504606846976≤u) (hv:v≤1152921504606846976) :
 z0c X z1J [.ref id 0,AI u,AI v] (h.set id (strm L a)) K=K (AI (z1i u v L a)) (h.set id (strm L (a+1))) []:=(zdd hp u v huv hu hv).set hid
theorem z8g (hid:id<h.length) (hp:posN 0 a) {u v:Int} (huv:u≤v) (hu : -1152921504606846976≤u) (hv:v≤1152921504606846976) :
 z0c X z1J [.ref id 0,AI u,AI v] (h.set id (strm L a)++l) K=K (AI (z1i u v L a)) (h.set id (strm L (a+1))++l) []:=(zdd hp u v huv hu hv).app hid
theorem z9t (hp:posN 0 a) {u v:Int} (huv:u≤v) (hu : -1152921504606846976≤u) (hv:v≤1152921504606846976) :
 z0c X z1J [.ref 0 0,AI u,AI v] (strm L a::l) K=K (AI (z1i u v L a)) (strm L (a+1)::l) []:=(zdd hp u v huv hu hv).hd
end
attribute [go_sem ↓] z1X z9q zcv z9p z9o zcu z9s z9r zcw z8h z8g z9t
attribute [go_sem] z1X z9q zcv z9p z9o zcu z9s z9r zcw z8h z8g z9t isI unI
end Go.Am
end
section
/- Maps,asv lists of keys with values. -/
open Go
set_option linter.all false
namespace Go.Am
section
variable {α β:Type} [DecidableEq α]
def mesF (key:α→PV) (val:β→AV):Nat→List (α × β)→List ME
 | _,[]=>[]
 | n,e::r=>⟨key e.1,val e.2,n⟩::mesF key val (n+1) r
def mobj (key:α→PV) (val:β→AV) (l:List (α × β)):Obj:=.amap (mesF key val 0 l) l.length
def z1l (k:α):List (α × β)→Option Nat
 | []=>none
 | e::r=>if k=e.1 then some 0 else (z1l k r).map (· + 1)
def getM (k:α):List (α × β)→Option β
 | []=>none
 | e::r=>if k=e.1 then some e.2 else getM k r
def updM (k:α) (v:β):List (α × β)→List (α × β)
 | []=>[(k,v)]
 | e::r=>if k=e.1 then (k,v)::r else e::updM k v r
def KeyI (key:α→PV):Prop:=∀ a b,PV.eqv (key a) (key b)=some (decide (a=b))
theorem z4Y:KeyI PV.str:=fun a b=>rfl
theorem zab:KeyI (fun n:Int=>PV.int .i64 n):=fun a b=>by simp [PV.eqv,PV.eq1]
theorem z1K {s:List UInt8}:z2f (none,[2]) (.p (.str s))=some (.str s):=by simp [z2f,PV.key,PV.shp,PV.sc,PV.cells,PV.kind]
theorem z7D {n:Int} {k:IntKind}:z2f (none,[0]) (.p (.int k n))=some (.int k n):=by simp [z2f,PV.key,PV.shp,PV.sc,PV.cells,PV.kind]
variable {key:α→PV} {val:β→AV}
theorem z7E (hk:KeyI key) (k:α):∀ (l:List (α × β)) (n:Nat),z1N (key k) (mesF key val n l)=some (z1l k l)
 | [],n=>rfl
 | e::r,n=>by
  simp only[mesF,z1N,hk k e.1,z1l]
  by_cases h:k=e.1
  ·simp [h]
  ·simp [h,z7E hk k r (n+1)]
theorem zad:∀ (l:List (α × β)) (n i:Nat),(mesF key val n l)[i]?=(l[i]?).map fun e=>⟨key e.1,val e.2,n+i⟩
 | [],n,i=>rfl
 | e::r,n,0=>rfl
 | e::r,n,i+1=>by simp only[mesF,List.getElem?_cons_succ,zad r (n+1) i];rw[show n+1+i=n+(i+1) by omega]
theorem zfH {k:α}:∀ {l:List (α × β)} {i:Nat},z1l k l=some i→i<l.length
 | [],i,h=>by cases h
 | e::r,i,h=>by
  unfold z1l at h
  split at h
  ·cases h;simp
  ·obtain⟨j,hj,e2⟩:=Option.map_eq_some_iff.1 h
   have:=zfH hj
   simp;omega
theorem z8o {k:α}:∀ {l:List (α × β)} {i:Nat},z1l k l=some i→l[i]?=(getM k l).map fun v=>(k,v)
 | [],i,h=>by cases h
 | e::r,i,h=>by
  unfold z1l at h
  unfold getM
  split at h
  ·rename_i hk;cases h;simp [hk]
  ·rename_i hk
   obtain⟨j,hj,e2⟩:=Option.map_eq_some_iff.1 h
   subst e2
   rw[if_neg hk,List.getElem?_cons_succ]
   exact z8o hj
theorem z5T {k:α}:∀ {l:List (α × β)},z1l k l=none→getM k l=none
 | [],h=>rfl
 | e::r,h=>by
  unfold z1l at h
  unfold getM
  split at h
  ·cases h
  ·rename_i hk
   rw[if_neg hk]
   exact z5T (by simpa using h)
theorem z5U {k:α}:∀ {l:List (α × β)} {i:Nat},z1l k l=some i→(getM k l).isSome=true
 | [],i,h=>by cases h
 | e::r,i,h=>by
  unfold z1l at h
  unfold getM
  split at h
  ·rename_i hk;simp [hk]
  ·rename_i hk
   obtain⟨j,hj,e2⟩:=Option.map_eq_some_iff.1 h
   rw[if_neg hk]
   exact z5U hj
theorem z6q {k:α} {l:List (α × β)}:(z1l k l).isSome=(getM k l).isSome:=by
 generalize h:z1l k l=o
 cases o with
 | none=>rw[z5T h];rfl
 | some i=>rw[z5U h];rfl
theorem zqp {k:α} {l:List (α × β)} {n:Nat}:((z1l k l).bind fun i=>(mesF key val n l)[i]?).map ME.val=(getM k l).map val:=by
 cases h:z1l k l with
 | none=>rw[z5T h];rfl
 | some i=>
  simp only[Option.bind_some,zad,z8o h]
  cases getM k l <;> rfl
theorem z66 {k:α} {v:β}:∀ {l:List (α × β)},z1l k l=none→updM k v l=l++[(k,v)]
 | [],h=>rfl
 | e::r,h=>by
  unfold z1l at h
  unfold updM
  split at h
  ·cases h
  ·rename_i hk
   rw[if_neg hk,z66 (by simpa using h)];rfl
theorem zfB {k:α} {v:β}:∀ {l:List (α × β)} {i:Nat},z1l k l=some i→updM k v l=l.set i (k,v)
 | [],i,h=>by cases h
 | e::r,i,h=>by
  unfold z1l at h
  unfold updM
  split at h
  ·rename_i hk;cases h;simp [hk]
  ·rename_i hk
   obtain⟨j,hj,e2⟩:=Option.map_eq_some_iff.1 h
   subst e2
   rw[if_neg hk,zfB hj];rfl
theorem zfj (k:α) (v:β):∀ (l:List (α × β)) (n:Nat),mesF key val n (l++[(k,v)])=mesF key val n l++[⟨key k,val v,n+l.length⟩]
 | [],n=>rfl
 | e::r,n=>by simp only[List.cons_append,mesF,zfj k v r (n+1),List.length_cons];rw[show n+1+r.length=n+(r.length+1) by omega]
theorem zg6 {k:α} {v:β} {l:List (α × β)} {i n:Nat} (h:z1l k l=some i):(mesF key val n l).modify i (fun e=>{ e with val:=val v })=mesF key val n (l.set i (k,v)):=by
 apply List.ext_getElem?
 intro j
 rw[List.getElem?_modify,zad,zad,List.getElem?_set]
 have hi:=zfH h
 have hg:=z8o h
 by_cases hij:i=j
 ·subst hij
  rw[hg]
  simp only[if_true,hi]
  obtain⟨w,hw⟩:=Option.isSome_iff_exists.1 (z5U h)
  rw[hw];rfl
 ·simp [hij]
variable {h:Heap} {id:Nat} {l:List (α × β)} {kk:Sh × List Nat} {k:α}
theorem zfk (hh:h[id]?=some (mobj key val l)):mget h (.mp id)=some (id,mesF key val 0 l,l.length):=by
 simp only[mget,hh,mobj]
theorem z3g (hk:KeyI key) (hh:h[id]?=some (mobj key val l)) (hq:z2f kk (.p (key k))=some (key k)) {ok:Bool} {z:AV} :
 z1o kk ok z (.mp id) (.p (key k)) h=some (bif ok then .tup [((getM k l).map val).getD z,AV.p (.bool (getM k l).isSome)] else ((getM k l).map val).getD z):=by
 simp only[z1o,hq,zfk hh,Option.map_some,z7E hk,zqp,Option.isSome_map]
 rfl
theorem z5c (hk:KeyI key) (hh:h[id]?=some (mobj key val l)) (hq:z2f kk (.p (key k))=some (key k)) {v:β} (hv:okIn (val v)=true) :
 z15 kk (.mp id) (.p (key k)) (val v) h=some (.und,h.set id (mobj key val (updM k v l)),z1U id (val v)):=by
 simp only[z15,hq,zfk hh,hv,z7E hk]
 cases hw:z1l k l with
 | none=>
  simp only[mobj,z66 hw,zfj,List.length_append,List.length_cons,List.length_nil,Nat.zero_add]
 | some i=>
  simp only[mobj,zfB hw,zg6 hw,List.length_set]
theorem z9Z (k k':α) (v:β):∀ (l:List (α × β)),getM k' (updM k v l)=if k'=k then some v else getM k' l
 | []=>by simp [updM,getM]
 | e::r=>by
  unfold updM
  by_cases h1:k=e.1
  ·rw[if_pos h1];simp only[getM]
   by_cases h2:k'=k
   ·simp [h2]
   ·rw[if_neg h2,if_neg h2,if_neg (by rw[← h1];exact h2)]
  ·rw[if_neg h1];simp only[getM,z9Z k k' v r]
   by_cases h2:k'=e.1
   ·rw[if_pos h2,if_pos h2,if_neg (by rw[h2];exact fun h=>h1 h.symm)]
   ·rw[if_neg h2,if_neg h2]
end
end Go.Am
end
section
/- Plain laws of fractions in lowest terms. -/
namespace Go.Am
end Go.Am
end
section
/- Small functions of numbers and of lists of numbers. -/
open Go
namespace Go.Am
variable {h:Heap} {K:Post}
theorem s_Out (n a b:Int):z0c X z0N [AI n,AI a,AI b] h K=K (AB (decide (n<a)||decide (b<n))) h []:=by
 refine rule ?_
 rw[c_q00a rfl]
 by_cases h1:n<a <;> simp only[zji,go_sem,h1]
theorem s_in (n a b:Int):z0c X z2d [AI n,AI a,AI b] h K=K (AB (decide (a≤n)&&decide (n≤b))) h []:=by
 refine rule ?_
 rw[c_q050 rfl]
 by_cases h1:a≤n <;> simp only[zjt,go_sem,h1]
theorem out_eq (n a b:Int):(decide (n<a)||decide (b<n)) = !(decide (a≤n)&&decide (n≤b)):=by
 rw[Bool.eq_iff_iff];simp
theorem zf2 (n:Int):z0c X z6k [AI n] h K=K (AI n.sign) h []:=by
 refine rule ?_
 rw[c_q057 rfl]
 rcases Int.lt_trichotomy n 0 with h1 | h1 | h1
 ·simp only[zbn,go_sem,h1,Int.sign_eq_neg_one_of_neg h1]
 ·subst h1;simp only[zbn,go_sem,Int.sign_zero]
 ·simp only[zbn,go_sem,show ¬ n<0 by omega,h1,Int.sign_eq_one_of_pos h1]
def cmp3 (x y:Int):Int:=if x<y then -1 else if x=y then 0 else 1
theorem z4B (x y:Int):cmp3 x y=(x-y).sign:=by
 unfold cmp3
 rcases Int.lt_trichotomy x y with h | h | h
 ·rw[if_pos h,Int.sign_eq_neg_one_of_neg (by omega)]
 ·rw[if_neg (by omega),if_pos h,h];simp
 ·rw[if_neg (by omega),if_neg (by omega),Int.sign_eq_one_of_pos (by omega)]
end Go.Am
end
section
/- Functions of lists. -/
open Go
namespace Go.Am
variable {h:Heap} {K:Post}
theorem zdt (a:Int):z0c X z4Q [AI a] h K=K (AB false) h []:=by
 refine rule ?_
 rw[c_q00v rfl]
 simp only[zjj,go_sem]
theorem zcy (a b:Int):z0c X z4P [AI a,AI b] h K=K (AI (cmp3 a b)) h []:=by
 refine rule ?_
 rw[c_q00s rfl]
 unfold cmp3
 by_cases h1:a<b
 ·simp only[zaU,go_sem,zdt,h1]
 ·by_cases h2:b<a
  ·simp only[zaU,go_sem,zdt,h1,h2,show ¬ a=b by omega]
  ·simp only[zaU,go_sem,zdt,h1,h2,show a=b by omega,Int.lt_irrefl]
def Tells (g:Nat) (caps:List AV) (p:PV→Bool) (xs:List PV) (h:Heap):Prop:=∀ x∈xs,∀ K:Post,z0c X g (.p x::caps) h K=K (AB (p x)) h []
def idxP (p:PV→Bool) (xs:List PV):Int:=if xs.findIdx p<xs.length then (xs.findIdx p:Int) else -1
theorem zqe (p:PV→Bool) (xs:List PV):decide (0≤idxP p xs)=xs.any p:=by
 unfold idxP
 rw[Bool.eq_iff_iff]
 by_cases h:xs.findIdx p<xs.length
 ·rw[if_pos h];simp only[decide_eq_true_eq,List.any_eq_true]
  exact⟨fun _=>⟨_,List.getElem_mem h,List.findIdx_getElem⟩,fun _=>by omega⟩
 ·rw[if_neg h];simp only[decide_eq_true_eq,List.any_eq_true]
  refine⟨fun h=>by omega,fun ⟨x,hx,hp⟩=>absurd (List.findIdx_lt_length_of_exists ⟨x,hx,hp⟩) h⟩
end Go.Am
end
section
/- Plain lists: insertion sort asv Go's package slices does it on short lists;deleting;compacting. -/
namespace Go.Am
variable {α:Type}
def insR (lt:α→α→Bool) (x:α):List α→List α
 | []=>[x]
 | y::r=>bif lt x y then y::insR lt x r else x::y::r
def z4j (lt:α→α→Bool) (l:List α):List α:=l.foldl (fun r x=>insR lt x r) []
def zcc (lt:α→α→Bool) (l:List α):List α:=(z4j lt l).reverse
theorem zcb (lt:α→α→Bool) (x:α):∀ r:List α,(insR lt x r).Perm (x::r)
 | []=>.refl _
 | y::r=>by
  unfold insR
  cases lt x y with
  | true=>exact ((zcb lt x r).cons y).trans (.swap _ _ _)
  | false=>exact .refl _
theorem z30 (lt:α→α→Bool):∀ (l r:List α),(l.foldl (fun r x=>insR lt x r) r).Perm (l++r)
 | [],r=>.refl _
 | x::l,r=>by
  simp only[List.foldl_cons,List.cons_append]
  refine (z30 lt l _).trans ?_
  exact ((zcb lt x r).append_left l).trans (List.perm_middle)
theorem z4s (lt:α→α→Bool) (l:List α):(z4j lt l).Perm l:=by
 have:=z30 lt l []
 rwa [List.append_nil] at this
theorem z9f (lt:α→α→Bool) (l:List α):(zcc lt l).Perm l:=(List.reverse_perm _).trans (z4s lt l)
theorem zl3 (lt:α→α→Bool) (l:List α):(zcc lt l).length=l.length:=(z9f lt l).length_eq
theorem zl4 {lt:α→α→Bool} {l:List α} {x:α}:x∈zcc lt l↔x∈l:=(z9f lt l).mem_iff
theorem zg3 (lt:α→α→Bool) (l:List α):(z4j lt l).length=l.length:=(z4s lt l).length_eq
theorem z6v (lt:α→α→Bool) (l:List α) (k:Nat) (hk:k<l.length):z4j lt (l.take (k+1))=insR lt l[k] (z4j lt (l.take k)):=by
 rw[List.take_succ_eq_append_getElem hk];unfold z4j;rw[List.foldl_append];rfl
theorem z9e (lt:α→α→Bool) (x:α) (A:List α):∀ B:List α,(∀ b∈B,lt x b=true)→insR lt x (B++A)=B++insR lt x A
 | [],_=>rfl
 | b::B,h=>by
  simp only[List.cons_append,insR,h b (by simp),cond_true]
  rw[z9e lt x A B (fun b hb=>h b (by simp [hb]))]
theorem ztP (A C:List α) (x:α):(A.reverse++x::C)[A.length]?=some x:=by
 rw[List.getElem?_append_right (by simp)];simp
theorem zqh (A C:List α) (x y:α):((y::A).reverse++x::C)[A.length]?=some y:=by
 rw[List.getElem?_append_left (by simp)];simp
theorem zqi (A C:List α) (x y:α):(((y::A).reverse++x::C).set (A.length+1) y).set A.length x=A.reverse++x::y::C:=by
 have e:(y::A).reverse++x::C=A.reverse++y::x::C:=by simp
 rw[e,List.set_append_right _ _ (by simp),List.length_reverse,Nat.add_sub_cancel_left,List.set_append_right _ _ (by simp),List.length_reverse,Nat.sub_self]
 rfl
theorem zff (lt:α→α→Bool) (x:α) (A B:List α) (hB:∀ b∈B,lt x b=true) (hA:∀ y r,A=y::r→lt x y=false):insR lt x (B++A)=B++x::A:=by
 rw[z9e lt x A B hB]
 cases A with
 | nil=>rfl
 | cons y r=>simp only[insR,hA y r rfl,cond_false]
end Go.Am
namespace Go.Am
variable {α:Type}
end Go.Am
end
section
/- Values of a shape: loads and stores in rows. -/
open Go
namespace Go.Am
variable {h:Heap} {K:Post}
theorem zdz {sh:Sh} {x:PV} (hx:x.shp sh=true):cutP sh 0 x=some x:=by
 cases sh with
 | none=>exact zt1 hx
 | some n=>
  cases x with
  | agg cs=>
   simp only[PV.shp,Bool.and_eq_true,beq_iff_eq] at hx
   simp [cutP,hx.1]
   exact List.take_of_length_le (by omega)
  | _=>cases hx
theorem zo1 {sh:Sh} {x:PV} (hx:x.shp sh=true):x.cells.length=z0a sh:=by
 cases sh with
 | none=>cases x <;> first | rfl | cases hx
 | some n=>
  cases x with
  | agg cs=>simp only[PV.shp,Bool.and_eq_true,beq_iff_eq] at hx;exact hx.1
  | _=>cases hx
theorem zo0 {sh:Sh} {x:PV} (hx:x.shp sh=true):x.cells.all PV.sc=true:=by
 cases sh with
 | none=>cases x <;> first | rfl | cases hx
 | some n=>
  cases x with
  | agg cs=>simp only[PV.shp,Bool.and_eq_true,beq_iff_eq] at hx;exact hx.2
  | _=>cases hx
theorem zsG {sh:Sh} {x y:PV} (hx:x.shp sh=true) (hy:y.shp sh=true) (id i fz:Nat) (xs:List PV) (h1:Heap):stE sh id i 0 fz sh xs x h1 (some y)=some (.und,h1.set id (.row sh (xs.set i x) fz),[]):=by
 cases sh with
 | none=>
  cases y with
  | agg cs=>cases hy
  | _=>simp only[PV.shp] at hx;simp [stE,hx]
 | some n=>
  cases y with
  | agg cs=>
   cases x with
   | agg ds=>
    simp only[PV.shp,Bool.and_eq_true,beq_iff_eq] at hx hy
    simp [stE,PV.cells,splice,hx.1,hy.1,show cs.drop n=[] from List.drop_of_length_le (by omega)]
   | _=>cases hx
  | _=>cases hy
def shps (sh:Sh) (xs:List PV):Prop:=∀ x∈xs,x.shp sh=true
theorem zqK {sh:Sh} {xs:List PV} (hx:shps sh xs) {i:Nat} (hi:i<xs.length):xs[i].shp sh=true:=hx _ (List.getElem_mem hi)
theorem zf8 {h:Heap} {id:Nat} {o:Obj} (hh:h[id]?=some o):h.set id o=h:=by
 apply List.ext_getElem?
 intro i
 rw[List.getElem?_set]
 split
 ·rename_i e;subst e;rw[hh];simp [z7C hh]
 ·rfl
def Cmps (g:Nat) (caps:List AV) (c:PV→PV→Int) (xs:List PV) (id:Nat) (h:Heap):Prop:=∀ (o:Obj) (x:PV),x∈xs→∀ y,y∈xs→∀ K:Post,z0c X g (.p x :: .p y::caps) (h.set id o) K=K (AI (c x y)) (h.set id o) []
def ltC (c:PV→PV→Int) (a b:PV):Bool:=decide (c a b<0)
structure Shows (sh:Sh) (v:AV) (xs:List PV) (h:Heap):Prop where
 len:oLen v=some (AI xs.length)
 get:∀ (k:Nat) (hk:k<xs.length),∃ a,z0y sh v (AI k) h=some a∧z0e sh a h=some (.p xs[k])
theorem zao {sh:Sh} {xs:List PV} (hs:shps sh xs):Shows sh (.p (.sl sh xs)) xs h:=by
 refine⟨rfl,fun k hk=>⟨.vp xs[k],?_,?_⟩⟩
 ·simp [z0y,z0X,hk]
 ·simp only[zmb,zdz (zqK hs hk)];rfl
end Go.Am
end
section
/- Strings: keys,the library's functions without text. -/
open Go
set_option linter.unusedSimpArgs false
namespace Go.Am
variable {h:Heap} {K:Post}
abbrev AS (s:List UInt8):AV:=.p (.str s)
theorem X_ext:X.ext=extF z0h z0g:=rfl
theorem zqH (s:List UInt8) (c:UInt8):z0c X z0h [AS s,.p (.int .u8 c.toNat)] h K=K (AI (idxB s c)) h []:=by
 have:=zeO (X:=X) (f:=z0h) (asv:=[AS s,.p (.int .u8 c.toNat)]) (vs:=[.str s,.int .u8 c.toNat]) (h:=h) (h1:=h) (r:=.int .i64 (idxB s c)) (K:=K) (by kernel_rfl) rfl rfl rfl ?_
 ·exact this
 ·rw[X_ext]
  unfold extF
  rw[show Nat.beq z0h z0h=true from by kernel_rfl]
  simp
theorem zqF (a b:List UInt8):z0c X z0g [AS a,AS b] h K=K (AI (cmpL a b)) h []:=by
 have:=zeO (X:=X) (f:=z0g) (asv:=[AS a,AS b]) (vs:=[.str a,.str b]) (h:=h) (h1:=h) (r:=.int .i64 (cmpL a b)) (K:=K) (by kernel_rfl) rfl rfl rfl ?_
 ·exact this
 ·rw[X_ext]
  unfold extF
  rw[show Nat.beq z0g z0h=false from by kernel_rfl,show Nat.beq z0g z0g=true from by kernel_rfl]
  rfl
theorem z3H (a b:List UInt8):z0c X z28 [AS a,AS b] h K=K (AI (cmpL a b)) h []:=by
 have key:∀ (h:Heap) (K:Post),z0c X z7r [AS a,AS b] h K=K (AI (cmpL a b)) h []:=by
  intro h K
  refine rule ?_
  rw[c_q01b rfl]
  simp only[zjk,go_sem,zqF]
 refine rule ?_
 rw[c_q091 rfl]
 simp only[zj2,go_sem,key]
theorem z8f (s:List UInt8) (c:UInt8):z0c X z9c [AS s,.p (.int .u8 c.toNat)] h K=K (AI (idxB s c)) h []:=by
 have key:∀ (h:Heap) (K:Post),z0c X z8O [AS s,.p (.int .u8 c.toNat)] h K=K (AI (idxB s c)) h []:=by
  intro h K
  refine rule ?_
  rw[c_q01z rfl]
  simp only[zjl,go_sem,zqH]
 refine rule ?_
 rw[c_q097 rfl]
 simp only[zj3,go_sem,key]
theorem z4C:∀ a,cmpL a a=0
 | []=>rfl
 | x::a=>by simp only[cmpL,UInt8.lt_irrefl,if_false];exact z4C a
theorem z5K:∀ {a b:List UInt8},cmpL a b=0→a=b
 | [],[],_=>rfl
 | [],_::_,h=>by simp [cmpL] at h
 | _::_,[],h=>by simp [cmpL] at h
 | x::a,y::b,h=>by
  simp only[cmpL] at h
  split at h
  ·cases h
  ·split at h
   ·cases h
   ·rename_i h1 h2
    have:x=y:=UInt8.le_antisymm (UInt8.not_lt.1 h2) (UInt8.not_lt.1 h1)
    rw[this,z5K h]
theorem z9M:∀ a b,cmpL b a = - cmpL a b
 | [],[]=>rfl
 | [],_::_=>rfl
 | _::_,[]=>rfl
 | x::a,y::b=>by
  simp only[cmpL]
  by_cases h1:x<y
  ·have h2:¬ y<x:=UInt8.lt_asymm h1
   simp [h1,h2]
  ·by_cases h2:y<x
   ·simp [h1,h2]
   ·simp [h1,h2,z9M a b]
theorem z8F:∀ {a b c:List UInt8},cmpL a b<0→cmpL b c<0→cmpL a c<0
 | [],[],_,h,_=>by simp [cmpL] at h
 | [],_::_,[],_,h=>by simp [cmpL] at h
 | [],_::_,_::_,_,_=>by simp [cmpL]
 | _::_,[],_,h,_=>by simp [cmpL] at h
 | _::_,_::_,[],_,h=>by simp [cmpL] at h
 | x::a,y::b,z::c,h1,h2=>by
  simp only[cmpL] at h1 h2 ⊢
  by_cases hxy:x<y
  ·by_cases hyz:y<z
   ·simp [UInt8.lt_trans hxy hyz]
   ·by_cases hzy:z<y
    ·simp [hyz,hzy] at h2
    ·have:y=z:=UInt8.le_antisymm (UInt8.not_lt.1 hzy) (UInt8.not_lt.1 hyz)
     subst this;simp [hxy]
  ·by_cases hyx:y<x
   ·simp [hxy,hyx] at h1
   ·have:x=y:=UInt8.le_antisymm (UInt8.not_lt.1 hyx) (UInt8.not_lt.1 hxy)
    subst this
    simp only[UInt8.lt_irrefl,if_false] at h1
    by_cases hyz:x<z
    ·simp [hyz]
    ·by_cases hzy:z<x
     ·simp [hyz,hzy] at h2
     ·simp only[hyz,hzy,if_false] at h2 ⊢
      exact z8F h1 h2
def z6w (c:UInt8):Bool:=decide ((97:Int)≤c.toNat)&&decide ((c.toNat:Int)≤122)||decide ((48:Int)≤c.toNat)&&decide ((c.toNat:Int)≤57)||decide ((c.toNat:Int)=45)||decide ((c.toNat:Int)=95)
def keyB (s:List UInt8):Bool:=match s with
 | []=>false
 | c::r=>decide (r.length<40)&&(decide ((97:Int)≤c.toNat)&&decide ((c.toNat:Int)≤122))&&(c::r).all z6w
theorem zgJ (s:List UInt8) (hl:s.length≤1000000000):z0c X z1y [AS s] h K=K (AB (keyB s)) h []:=by
 refine rule ?_
 rw[c_q005 rfl]
 cases s with
 | nil=>simp only[z6b,go_sem,keyB]
 | cons c r=>
  have n0:((c::r)=[])=False:=by simp
  have e1:(((r.length+1:Nat):Int)≤40)=(r.length<40):=by simp only[eq_iff_iff];omega
  by_cases h1:(40:Int)<((r.length+1:Nat):Int)
  ·have:¬ r.length<40:=by omega
   simp only[z6b,go_sem,n0,h1,keyB,this]
  have h1':r.length<40:=by omega
  by_cases h2:(c.toNat:Int)<97
  ·have:¬ (97:Int)≤c.toNat:=by omega
   simp only[z6b,go_sem,n0,h1,h2,keyB,this,h1']
  have h2':(97:Int)≤c.toNat:=by omega
  by_cases h3:(122:Int)<c.toNat
  ·have:¬ (c.toNat:Int)≤122:=by omega
   simp only[z6b,go_sem,n0,h1,h2,h3,keyB,this,h1',h2']
  have h3':(c.toNat:Int)≤122:=by omega
  have ek:keyB (c::r)=(c::r).all z6w:=by simp [keyB,h1',h2',h3']
  rw[ek]
  generalize hB:(c::r).all z6w=B
  simp only[z6b,go_sem,n0,h1,h2,h3]
  have hlen:(c::r).length=r.length+1:=rfl
  rw[← hlen]
  generalize c::r=s at *
  refine z0Y (fun k:Nat=>⟨[(0,AS s),(23,AI s.length),(24,AI k)],h,[]⟩) (fun k=>k≤s.length∧(s.take k).all z6w=true) (fun k=>s.length-k) 0 rfl ⟨by omega,rfl⟩ ?_
  rintro k ⟨hk,hp⟩
  rcases Nat.lt_or_ge k s.length with hlt | hge
  ·have hg:s[k]?=some s[k]:=List.getElem?_eq_getElem hlt
   have w2:IntKind.i64.wrap ((k:Int)+1)=((k+1:Nat):Int):=z0l _ (by omega) (by omega)
   generalize hc:s[k]=c at *
   have key:(decide ((97:Int)≤c.toNat)&&decide ((c.toNat:Int)≤122)||decide ((48:Int)≤c.toNat)&&decide ((c.toNat:Int)≤57)||decide ((c.toNat:Int)=45)||decide ((c.toNat:Int)=95))=z6w c:=rfl
   cases hkc:z6w c with
   | true=>
    rw[hkc] at key
    have hn:(s.take (k+1)).all z6w=true:=by rw[List.take_succ_eq_append_getElem hlt,List.all_append,hp,hc];simp [hkc]
    by_cases b1:(97:Int)≤c.toNat <;> by_cases b2:(c.toNat:Int)≤122 <;> by_cases b3:(48:Int)≤c.toNat <;> by_cases b4:(c.toNat:Int)≤57 <;> by_cases b5:(c.toNat:Int)=45 <;> by_cases b6:(c.toNat:Int)=95
    all_goals first
     | (simp only[b1,b2,b3,b4,b5,b6,decide_true,decide_false,Bool.and_self,Bool.and_true,Bool.and_false,Bool.or_self,Bool.or_true,Bool.or_false,Bool.true_or,Bool.false_or,Bool.false_and,reduceCtorEq] at key;done)
     | (exfalso;omega)
     | (simp only[go_sem,hlt,hg,w2,b1,b2,b3,b4,b5,b6];exact⟨k+1,rfl,⟨by omega,hn⟩,by omega⟩)
   | false=>
    rw[hkc] at key
    have hn:s.all z6w=false:=by rw[List.all_eq_false];exact⟨_,List.getElem_mem hlt,by rw[hc,hkc];simp⟩
    rw[hn] at hB
    subst hB
    by_cases b1:(97:Int)≤c.toNat <;> by_cases b2:(c.toNat:Int)≤122 <;> by_cases b3:(48:Int)≤c.toNat <;> by_cases b4:(c.toNat:Int)≤57 <;> by_cases b5:(c.toNat:Int)=45 <;> by_cases b6:(c.toNat:Int)=95
    all_goals first
     | (simp only[b1,b2,b3,b4,b5,b6,decide_true,decide_false,Bool.and_self,Bool.and_true,Bool.and_false,Bool.or_self,Bool.or_true,Bool.or_false,Bool.true_or,Bool.false_or,Bool.false_and,reduceCtorEq] at key;done)
     | (exfalso;omega)
     | (simp only[go_sem,hlt,hg,b1,b2,b3,b4,b5,b6])
  ·have ek:k=s.length:=by omega
   subst ek
   rw[List.take_length,hB] at hp
   subst hp
   simp only[go_sem,Nat.lt_irrefl]
theorem zqd (s:List UInt8) (c:UInt8):decide (idxB s c<0) = !s.contains c:=by
 unfold idxB
 rw[Bool.eq_iff_iff]
 by_cases hf:s.findIdx (· == c)<s.length
 ·rw[if_pos hf]
  have:=List.findIdx_getElem (w:=hf)
  simp only[beq_iff_eq] at this
  have hm:c∈s:=by rw[← this];exact List.getElem_mem hf
  simp [hm]
 ·rw[if_neg hf]
  have hm:¬ c∈s:=fun hm=>hf (List.findIdx_lt_length_of_exists ⟨c,hm,by simp⟩)
  simp [hm]
theorem zsE (s t:List UInt8) (hl:s.length≤1000000000):z0c X z6j [AS s,AS t] h K=K (AB (s.all fun c=>t.contains c)) h []:=by
 refine rule ?_
 rw[c_q051 rfl]
 simp only[ze0,go_sem]
 refine z0Y (fun k:Nat=>⟨[(0,AS s),(1,AS t),(7,AI s.length),(8,AI k)],h,[]⟩) (fun k=>k≤s.length∧(s.take k).all (fun c=>t.contains c)=true) (fun k=>s.length-k) 0 rfl ⟨by omega,rfl⟩ ?_
 rintro k ⟨hk,hp⟩
 rcases Nat.lt_or_ge k s.length with hlt | hge
 ·have hg:s[k]?=some s[k]:=List.getElem?_eq_getElem hlt
  have w2:IntKind.i64.wrap ((k:Int)+1)=((k+1:Nat):Int):=z0l _ (by omega) (by omega)
  have hi:=zqd t s[k]
  by_cases hc:idxB t s[k]<0
  ·have:s.all (fun c=>t.contains c)=false:=by
    rw[List.all_eq_false]
    refine⟨_,List.getElem_mem hlt,?_⟩
    rw[decide_eq_true hc] at hi
    cases hq:t.contains s[k] with
    | true=>rw[hq] at hi;cases hi
    | false=>simp
   simp only[go_sem,hlt,hg,z8f,hc,this]
  ·rw[decide_eq_false hc] at hi
   have hq:t.contains s[k]=true:=by cases hq:t.contains s[k] with | true=>rfl | false=>rw[hq] at hi;cases hi
   simp only[go_sem,hlt,hg,z8f,hc,w2]
   exact⟨k+1,rfl,⟨by omega,by rw[List.take_succ_eq_append_getElem hlt,List.all_append,hp];simp only[List.all_cons,List.all_nil,hq];rfl⟩,by omega⟩
 ·have ek:k=s.length:=by omega
  subst ek
  rw[List.take_length] at hp
  simp only[go_sem,Nat.lt_irrefl,hp]
def z8k:List UInt8:=[97,98,99,100,101,102,103,104,105,106,107,108,109,110,111,112,113,114,115,116,117,118,119,120,121,122]
def zl7:List UInt8:=[97,98,99,100,101,102,103,104,105,106,107,108,109,110,111,112,113,114,115,116,117,118,119,120,121,122,48,49,50,51,52,53,54,55,56,57,45,95]
theorem zsJ {p:UInt8→Bool} (h:((List.range 256).all fun n=>p (UInt8.ofNat n))=true) (c:UInt8):p c=true:=by
 have:=List.all_eq_true.1 h c.toNat (by simp;exact c.toNat_lt)
 rwa [UInt8.ofNat_toNat] at this
theorem zgP (c:UInt8):z8k.contains c=(decide ((97:Int)≤c.toNat)&&decide ((c.toNat:Int)≤122)):=by
 have:=zsJ (p:=fun c=>z8k.contains c==(decide ((97:Int)≤c.toNat)&&decide ((c.toNat:Int)≤122))) (by kernel_rfl) c
 simpa using this
theorem zqk (c:UInt8):zl7.contains c=z6w c:=by
 have:=zsJ (p:=fun c=>zl7.contains c==z6w c) (by kernel_rfl) c
 simpa using this
theorem z65 (s:List UInt8) (hl:s.length≤1000000000):z0c X z3n [AS s] h K=K (AB (keyB s)) h []:=by
 refine rule ?_
 rw[c_q043 rfl]
 have o1:=fun h K=>zsE (h:=h) (K:=K) s zl7 hl
 have e2:(s.all fun c=>zl7.contains c)=s.all z6w:=by congr 1;funext c;exact zqk c
 rw[e2] at o1
 unfold zl7 at o1
 cases s with
 | nil=>simp only[z8J,go_sem,s_in,keyB]
 | cons c r=>
  have o2:=fun h K=>zsE (h:=h) (K:=K) [c] z8k (by simp)
  have e3:([c].all fun c=>z8k.contains c)=(decide ((97:Int)≤c.toNat)&&decide ((c.toNat:Int)≤122)):=by simp only[List.all_cons,List.all_nil,Bool.and_true];exact zgP c
  rw[e3] at o2
  unfold z8k at o2
  have q1:(1:Int)≤((r.length+1:Nat):Int):=by omega
  have q2:1≤r.length+1:=by omega
  by_cases h1:r.length<40
  ·have h1':((r.length+1:Nat):Int)≤40:=by omega
   cases h2:(decide ((97:Int)≤c.toNat)&&decide ((c.toNat:Int)≤122)) with
   | true=>
    have ek:keyB (c::r)=(c::r).all z6w:=by
     simp only[keyB,h1,decide_true,Bool.true_and,h2]
    rw[ek]
    simp only[z8J,go_sem,s_in,h1',q1,q2,win,↓o2,o2,h2,↓o1,o1]
   | false=>
    have ek:keyB (c::r)=false:=by simp only[keyB,h1,decide_true,Bool.true_and,h2,Bool.false_and]
    rw[ek]
    simp only[z8J,go_sem,s_in,h1',q1,q2,win,↓o2,o2,h2]
  ·have h1':¬ ((r.length+1:Nat):Int)≤40:=by omega
   have ek:keyB (c::r)=false:=by simp only[keyB,h1,decide_false,Bool.false_and]
   rw[ek]
   simp only[z8J,go_sem,s_in,h1',q1]
end Go.Am
end
section
/- Finding values in lists: printed by program. -/
open Go
set_option linter.unusedSimpArgs false
namespace Go.Am
attribute [-go_sem] PV.cells
variable {h:Heap} {K:Post}
end Go.Am
end
section
/- Limits: what they are,what is wrong with them. -/
open Go
namespace Go.Am
variable {h:Heap} {K:Post}
structure Lim where
 key:List UInt8
 lo:Int
 hi:Int
 bin:Int
def Lim.pv (x:Lim):PV:=.agg [.str x.key,eI x.lo,eI x.hi,eI x.bin]
def inB (a n b:Int):Bool:=decide (a≤n)&&decide (n≤b)
theorem z2t (n a b:Int):z0c X z0N [AI n,AI a,AI b] h K=K (AB (!inB a n b)) h []:=by rw[s_Out,out_eq];rfl
theorem z81 (n a b:Int):z0c X z2d [AI n,AI a,AI b] h K=K (AB (inB a n b)) h []:=s_in n a b
end Go.Am
end
section
/- What is wrong with limits,both ways: printed by program. -/
open Go
set_option linter.unusedSimpArgs false
namespace Go.Am
variable {h:Heap} {K:Post}
end Go.Am
end
section
/- Package lot on measured values,and what the reference says of them. -/
open Go
namespace Go.Am
variable {h:Heap} {K:Post}
end Go.Am
end
section
/- Records: what they are,what is wrong with them. -/
open Go
set_option linter.unusedSimpArgs false
namespace Go.Am
variable {h:Heap} {K:Post}
theorem zoc {b:Nat} {P:Post} {vs:List AV} {h:Heap}:retK true b P (some vs) h []=P (z0D vs) (h.take (max b (z0D vs).top)) []:=by
 simp [retK,z11,z0I]
attribute [go_sem] zoc
structure Rec where
 unit:List UInt8
 time:Int
 site:List UInt8
 res:List Int
def Rec.pv (r:Rec):PV:=.agg [.str r.unit,eI r.time,.str r.site,.sl none (r.res.map eI)]
def z2w (n:Int):Bool:=inB 0 n 345686399999
theorem zer (x y:Int):cmp3 y x = - cmp3 x y:=by
 unfold cmp3;split <;> split <;> (try split) <;> (try split) <;> omega
theorem z1W (n:Int):z0c X z4O [AI n] h K=K (AB (z2w n)) h []:=by
 refine rule ?_
 rw[c_q007 rfl]
 simp only[zjh,go_sem,z2t,Bool.not_not]
 rfl
theorem z1j (n:Int):z0c X z8U [AI n] h K=K (AB (z2w n)) h []:=by
 refine rule ?_
 rw[c_q046 rfl]
 simp only[zjs,go_sem,z81]
 rfl
end Go.Am
end
section
/- Entries of stations,plainly: what is wrong with them. -/
set_option linter.all false
namespace Go.Am
structure Ent where
 site:List UInt8
 no:Int
 time:Int
 kind:Int
 board:List UInt8
 step:List UInt8
 of:List UInt8
 other:Int
 deriving DecidableEq
def Ent.pv (x:Ent):PV:=.agg [.str x.site,eI x.no,eI x.time,eI x.kind,.str x.board,.str x.step,.str x.of,eI x.other]
def noB (n:Int):Bool:=inB 1 n 1000000
def zfl (x:Ent):Bool:=if x.kind=7 then keyB x.of else if x.kind=2 then keyB x.board&&keyB x.step else keyB x.board
def zrf (x:Ent):Ent:=if x.kind=7 then ⟨x.site,x.no,x.time,x.kind,[],[],x.of,x.other⟩ else if x.kind=2 then ⟨x.site,x.no,x.time,x.kind,x.board,x.step,[],0⟩ else ⟨x.site,x.no,x.time,x.kind,x.board,[],[],0⟩
def entF (x:Ent):Int:=
 if keyB x.site=false then 5 else if noB x.no=false∨z2w x.time=false then 1 else if inB 1 x.kind 7=false then 4
 else if zfl x=false then 5 else if x.kind=7∧noB x.other=false then 1 else if x≠zrf x then 3 else 0
def z0U (a b:Ent):Int:=if cmp3 a.time b.time≠0 then cmp3 a.time b.time else if cmpL a.site b.site≠0 then cmpL a.site b.site else cmp3 a.no b.no
theorem zgq (a b:Ent):z0U b a = - z0U a b:=by
 unfold z0U
 rw[zer a.time b.time,z9M a.site b.site,zer a.no b.no]
 by_cases h1:cmp3 a.time b.time=0
 ·by_cases h2:cmpL a.site b.site=0
  ·simp [h1,h2]
  ·simp [h1,h2]
 ·simp [h1]
def z2y (a b:Ent):Bool:=decide (a.site=b.site)&&decide (a.no=b.no)
def z0B:Option Ent→List Ent→Int
 | _,[]=>0
 | p,x::r=>if entF x≠0 then entF x else if (match p with | some q=>decide (z0U x q≤0) | none=>false)=true then 7 else z0B (some x) r
def z2j (seen:List Ent):List Ent→Bool
 | []=>false
 | x::r=>if seen.any (fun o=>z2y o x) then true else z2j (seen++[x]) r
def z3s (l:List Ent):Int:=if (2000:Int)<l.length then 2 else if z0B none l≠0 then z0B none l else if z2j [] l then 6 else 0
end Go.Am
end
section
/- Boards followed through their steps,plainly: the program's floor and the reference's agree. -/
set_option linter.all false
namespace Go.Am
abbrev Nm:=List UInt8
section
variable {β:Type}
def getA (l:List (Nm × β)) (k:Nm):Option β:=(l.find? fun e=>decide (e.1=k)).map (·.2)
def putA (l:List (Nm × β)) (k:Nm) (v:β):List (Nm × β):=if l.any (fun e=>decide (e.1=k)) then l.map (fun e=>if e.1=k then (k,v) else e) else l++[(k,v)]
def delA (l:List (Nm × β)) (k:Nm):List (Nm × β):=l.filter fun e=>!decide (e.1=k)
theorem z7A (e:Nm × β) (l:List (Nm × β)) (k:Nm):getA (e::l) k=if e.1=k then some e.2 else getA l k:=by
 unfold getA
 rw[List.find?_cons]
 by_cases h:e.1=k <;> simp [h]
end
structure Sta where
 state:Int
 since:Int
 step:Nm
 site:Nm
 failed:Int
 deriving DecidableEq
structure EndP where
 board:Nm
 step:Nm
 frm:Int
 til:Int
 pass:Bool
 deriving DecidableEq
structure RunP where
 site:Nm
 frm:Int
 til:Int
 deriving DecidableEq
structure RanQ where
 board:Nm
 site:Nm
 step:Nm
 frm:Int
 til:Int
 pass:Bool
 deriving DecidableEq
def RanQ.run (r:RanQ):RunP:=⟨r.site,r.frm,r.til⟩
structure FlP where
 bs:List (Nm × Sta)
 sites:List (Nm × Nm)
 ends:List EndP
 runs:List RunP
def z1D (steps:List Nm) (tries:Int) (s:Sta) (at_:Int) (pass:Bool):Sta:=
 if pass then (if steps.findIdx (fun y=>decide (y=s.step))+1=steps.length then ⟨4,at_,[],[],0⟩ else ⟨1,at_,(steps[steps.findIdx (fun y=>decide (y=s.step))+1]?).getD [],[],0⟩)
 else ⟨if s.failed+1=tries then 5 else 3,at_,s.step,[],s.failed+1⟩
def z1P (l:List RunP) (site:Nm) (at_:Int):List RunP:=l.map fun r=>if r.site=site∧r.til<0 then { r with til:=at_ } else r
def actP (steps:List Nm) (tries:Int) (w:FlP) (x:Ent):FlP × Int:=
 if x.kind=1 then (match getA w.bs x.board with | some _=>(w,6) | none=>({ w with bs:=putA w.bs x.board ⟨1,x.time,steps.headD [],[],0⟩ },0))
 else match getA w.bs x.board with
 | none=>(w,8)
 | some b=>
  if x.kind=2 then (if b.state≠1 then (w,11) else if x.step≠b.step then (w,3) else if (getA w.sites x.site).isSome then (w,12)
   else ({ w with bs:=putA w.bs x.board { b with state:=2,since:=x.time,site:=x.site },sites:=putA w.sites x.site x.board,runs:=w.runs++[⟨x.site,x.time,-1⟩] },0))
  else if x.kind=3∨x.kind=4 then (if b.state≠2 then (w,11) else if b.site≠x.site then (w,13)
   else ({ bs:=putA w.bs x.board (z1D steps tries b x.time (decide (x.kind=3))),sites:=delA w.sites b.site,ends:=w.ends++[⟨x.board,b.step,b.since,x.time,decide (x.kind=3)⟩],runs:=z1P w.runs b.site x.time },0))
  else if x.kind=5 then (if b.state≠3 then (w,11) else ({ w with bs:=putA w.bs x.board { b with state:=1,since:=x.time } },0))
  else if b.state=4∨b.state=5 then (w,11)
  else if b.state=2 then ({ w with bs:=putA w.bs x.board { b with state:=5,since:=x.time,site:=[] },sites:=delA w.sites b.site,runs:=z1P w.runs b.site x.time },0)
  else ({ w with bs:=putA w.bs x.board { b with state:=5,since:=x.time } },0)
end Go.Am
end
section
/- First passes of steps,plainly: counted by ends,counted by boards. -/
set_option linter.all false
namespace Go.Am
end Go.Am
end
section
/- Entries that count,and what is followed of them,plainly. -/
set_option linter.all false
namespace Go.Am
def z5B (y x:Ent):Bool:=decide (y.kind=7)&&decide (y.of=x.site)&&decide (y.other=x.no)
def cntB:List Ent→List Bool
 | []=>[]
 | x::r=>(!((r.zip (cntB r)).any fun y=>y.2&&z5B y.1 x))::cntB r
theorem z0Z:∀ l,(cntB l).length=l.length
 | []=>rfl
 | x::r=>by simp [cntB,z0Z r]
def z1r:List Ent→List (Nm × Int)
 | []=>[]
 | x::r=>if decide ((x.site,x.no)∈z1r r)=false∧x.kind=7 then (x.of,x.other)::z1r r else z1r r
theorem z90:∀ (l:List Ent) (s:Nm) (n:Int),(s,n)∈z1r l↔((l.zip (cntB l)).any fun y=>y.2&&(decide (y.1.kind=7)&&decide (y.1.of=s)&&decide (y.1.other=n)))=true
 | [],s,n=>by simp [z1r,cntB]
 | x::r,s,n=>by
  have ih:=z90 r
  have hb:decide ((x.site,x.no)∈z1r r)=((r.zip (cntB r)).any fun y=>y.2&&z5B y.1 x):=by
   rw[Bool.eq_iff_iff,decide_eq_true_eq,ih x.site x.no];rfl
  unfold z1r
  rw[cntB,List.zip_cons_cons,List.any_cons,← hb]
  cases hd:decide ((x.site,x.no)∈z1r r) with
  | true=>
   rw[if_neg (by simp),ih s n]
   simp
  | false=>
   by_cases h7:x.kind=7
   ·rw[if_pos ⟨rfl,h7⟩,List.mem_cons,ih s n,Bool.or_eq_true]
    have:((s,n)=(x.of,x.other))↔((!false&&(decide (x.kind=7)&&decide (x.of=s)&&decide (x.other=n)))=true):=by
     simp only[Prod.mk.injEq,Bool.not_false,Bool.true_and,h7,decide_true,Bool.and_eq_true,decide_eq_true_eq]
     exact⟨fun h=>⟨h.1.symm,h.2.symm⟩,fun h=>⟨h.1.symm,h.2.symm⟩⟩
    rw[this]
   ·rw[if_neg (fun z=>h7 z.2),ih s n]
    simp [h7]
theorem zja (x:Ent) (r:List Ent):cntB (x::r)=(!decide ((x.site,x.no)∈z1r r))::cntB r:=by
 have hb:decide ((x.site,x.no)∈z1r r)=((r.zip (cntB r)).any fun y=>y.2&&z5B y.1 x):=by
  rw[Bool.eq_iff_iff,decide_eq_true_eq,z90 r x.site x.no];rfl
 rw[hb];rfl
end Go.Am
end
section
/- The floor's memory: what lies where. -/
open Go
set_option linter.all false
set_option maxRecDepth 100000
namespace Go.Am
variable {h:Heap} {K:Post}
def FH (h:Heap) (o0 o1 o2 o3 o4 o5 o6 o7:Obj) (B l:Heap):Heap:=h++o0::o1::o2::o3::o4::o5::o6::o7::(B++l)
section
variable {o0 o1 o2 o3 o4 o5 o6 o7 o o':Obj} {B l l2:Heap} {n:Nat}
theorem z22:(FH h o0 o1 o2 o3 o4 o5 o6 o7 B l).length=h.length+(8+B.length+l.length):=by unfold FH;simp;omega
theorem z4d:FH h o0 o1 o2 o3 o4 o5 o6 o7 B l++l2=FH h o0 o1 o2 o3 o4 o5 o6 o7 B (l++l2):=by unfold FH;simp
theorem z96 (n:Nat):(FH h o0 o1 o2 o3 o4 o5 o6 o7 B l)[h.length+n]?=(o0::o1::o2::o3::o4::o5::o6::o7::(B++l))[n]?:=by unfold FH;rw[List.getElem?_append_right (by omega)];simp
theorem z9E (n:Nat):(FH h o0 o1 o2 o3 o4 o5 o6 o7 B l).set (h.length+n) o=h++(o0::o1::o2::o3::o4::o5::o6::o7::(B++l)).set n o:=by unfold FH;rw[List.set_append_right _ _ (by omega)];simp
theorem z6r:(FH h o0 o1 o2 o3 o4 o5 o6 o7 B l)[h.length+1]?=some o1:=z96 1
theorem z6s:(FH h o0 o1 o2 o3 o4 o5 o6 o7 B l)[h.length+2]?=some o2:=z96 2
theorem z93:(FH h o0 o1 o2 o3 o4 o5 o6 o7 B l)[h.length+3]?=some o3:=z96 3
theorem z94:(FH h o0 o1 o2 o3 o4 o5 o6 o7 B l)[h.length+4]?=some o4:=z96 4
theorem z8s:(FH h o0 o1 o2 o3 o4 o5 o6 o7 B l)[h.length+5]?=some o5:=z96 5
theorem z8t:(FH h o0 o1 o2 o3 o4 o5 o6 o7 B l)[h.length+6]?=some o6:=z96 6
theorem z95:(FH h o0 o1 o2 o3 o4 o5 o6 o7 B l)[h.length+7]?=some o7:=z96 7
theorem z97:(FH h o0 o1 o2 o3 o4 o5 o6 o7 B l).set (h.length+1) o=FH h o0 o o2 o3 o4 o5 o6 o7 B l:=z9E 1
theorem z98:(FH h o0 o1 o2 o3 o4 o5 o6 o7 B l).set (h.length+2) o=FH h o0 o1 o o3 o4 o5 o6 o7 B l:=z9E 2
theorem z99:(FH h o0 o1 o2 o3 o4 o5 o6 o7 B l).set (h.length+3) o=FH h o0 o1 o2 o o4 o5 o6 o7 B l:=z9E 3
theorem z9A:(FH h o0 o1 o2 o3 o4 o5 o6 o7 B l).set (h.length+4) o=FH h o0 o1 o2 o3 o o5 o6 o7 B l:=z9E 4
theorem z9B:(FH h o0 o1 o2 o3 o4 o5 o6 o7 B l).set (h.length+5) o=FH h o0 o1 o2 o3 o4 o o6 o7 B l:=z9E 5
theorem z9C:(FH h o0 o1 o2 o3 o4 o5 o6 o7 B l).set (h.length+6) o=FH h o0 o1 o2 o3 o4 o5 o o7 B l:=z9E 6
theorem z9D:(FH h o0 o1 o2 o3 o4 o5 o6 o7 B l).set (h.length+7) o=FH h o0 o1 o2 o3 o4 o5 o6 o B l:=z9E 7
theorem zsW (n:Nat):(FH h o0 o1 o2 o3 o4 o5 o6 o7 B l)[h.length+(8+B.length+n)]?=l[n]?:=by
 rw[z96,show 8+B.length+n=(B.length+n)+8 by omega]
 show (B++l)[B.length+n]?=_
 rw[List.getElem?_append_right (by omega)]
 simp
theorem FH_st (n:Nat):(FH h o0 o1 o2 o3 o4 o5 o6 o7 B l).set (h.length+(8+B.length+n)) o=FH h o0 o1 o2 o3 o4 o5 o6 o7 B (l.set n o):=by
 rw[z9E,show 8+B.length+n=(B.length+n)+8 by omega]
 unfold FH
 congr 1
 simp only[List.set_cons_succ]
 rw[List.set_append_right _ _ (by omega)]
 simp
theorem zoX (n:Nat):(FH h o0 o1 o2 o3 o4 o5 o6 o7 B l).take (h.length+(8+B.length+n))=FH h o0 o1 o2 o3 o4 o5 o6 o7 B (l.take n):=by
 unfold FH
 rw[show h.length+(8+B.length+n)=h.length+((B.length+n)+8) by omega,List.take_append,List.take_of_length_le (by omega)]
 congr 1
 simp only[Nat.add_sub_cancel_left,List.take_succ_cons]
 rw[List.take_append,List.take_of_length_le (show B.length≤B.length+n by omega)]
 simp
end
def Ent.bx (x:Ent):Obj:=.box [AS x.site,AI x.no,AI x.time,AI x.kind,AS x.board,AS x.step,AS x.of,AI x.other]
def Sta.bx (s:Sta):Obj:=.box [AI s.state,AI s.since,AS s.step,AS s.site,AI s.failed]
def Sta.pv (s:Sta):PV:=.agg [eI s.state,eI s.since,.str s.step,.str s.site,eI s.failed]
abbrev Brds:=List (Ent × Sta)
def boxB:Brds→Heap
 | []=>[]
 | e::r=>e.1.bx::e.1.bx::e.2.bx::boxB r
theorem z0J:∀ bs:Brds,(boxB bs).length=3*bs.length
 | []=>rfl
 | e::r=>by simp [boxB,z0J r];omega
theorem zei:∀ a b:Brds,boxB (a++b)=boxB a++boxB b
 | [],b=>rfl
 | e::r,b=>by simp [boxB,zei r b]
theorem zej:∀ (bs:Brds) (i:Nat) (e:Ent × Sta),bs[i]?=some e→(boxB bs)[3*i+2]?=some e.2.bx
 | [],i,e,h=>by simp at h
 | y::r,0,e,h=>by simp at h;subst h;rfl
 | y::r,i+1,e,h=>by
  have:=zej r i e (by simpa using h)
  rw[show 3*(i+1)+2=(3*i+2)+3 by omega]
  exact this
theorem zek:∀ (bs:Brds) (i:Nat) (e:Ent × Sta) (s:Sta),bs[i]?=some e→(boxB bs).set (3*i+2) s.bx=boxB (bs.set i (e.1,s))
 | [],i,e,s,h=>by simp at h
 | y::r,0,e,s,h=>by simp at h;subst h;rfl
 | y::r,i+1,e,s,h=>by
  have:=zek r i e s (by simpa using h)
  rw[show 3*(i+1)+2=(3*i+2)+3 by omega]
  simp only[boxB,List.set_cons_succ,this]
def qB (h:Heap) (i:Nat):Nat:=h.length+(8+(3*i+2))
section
variable {o0 o1 o2 o3 o4 o5 o6 o7:Obj} {l:Heap} {bs:Brds} {i:Nat} {e:Ent × Sta}
theorem zsV (hi:bs[i]?=some e):(FH h o0 o1 o2 o3 o4 o5 o6 o7 (boxB bs) l)[qB h i]?=some e.2.bx:=by
 unfold qB
 rw[z96,show 8+(3*i+2)=(3*i+2)+8 by omega]
 show (boxB bs++l)[3*i+2]?=_
 have hl:i<bs.length:=by
  rcases Nat.lt_or_ge i bs.length with h | h
  ·exact h
  ·rw[List.getElem?_eq_none h] at hi;cases hi
 rw[List.getElem?_append_left (by rw[z0J];omega)]
 exact zej bs i e hi
theorem FH_sq (hi:bs[i]?=some e) (s:Sta):(FH h o0 o1 o2 o3 o4 o5 o6 o7 (boxB bs) l).set (qB h i) s.bx=FH h o0 o1 o2 o3 o4 o5 o6 o7 (boxB (bs.set i (e.1,s))) l:=by
 unfold qB
 rw[z9E,show 8+(3*i+2)=(3*i+2)+8 by omega]
 unfold FH
 congr 1
 simp only[List.set_cons_succ]
 have hl:i<bs.length:=by
  rcases Nat.lt_or_ge i bs.length with h | h
  ·exact h
  ·rw[List.getElem?_eq_none h] at hi;cases hi
 rw[List.set_append_left _ _ (by rw[z0J];omega),zek bs i e s hi]
end
def refA (q:Nat):AV:=.ref q 0
def mapB:Nat→Brds→List (Nm × Nat)
 | _,[]=>[]
 | q,e::r=>(e.1.board,q+2)::mapB (q+3) r
theorem zcf:∀ (q:Nat) (bs:Brds) (e:Ent × Sta),mapB q (bs++[e])=mapB q bs++[(e.1.board,q+3*bs.length+2)]
 | q,[],e=>by simp [mapB]
 | q,y::r,e=>by
  have:=zcf (q+3) r e
  simp only[List.cons_append,mapB,this,List.length_cons]
  rw[show q+3+3*r.length+2=q+3*(r.length+1)+2 by omega]
theorem z5b:∀ (q:Nat) (bs:Brds) (i:Nat) (e:Ent × Sta) (s:Sta),bs[i]?=some e→mapB q (bs.set i (e.1,s))=mapB q bs
 | q,[],i,e,s,h=>by simp at h
 | q,y::r,0,e,s,h=>by simp at h;subst h;rfl
 | q,y::r,i+1,e,s,h=>by
  have:=z5b (q+3) r i e s (by simpa using h)
  simp only[List.set_cons_succ,mapB,this]
def asA (bs:Brds):List (Nm × Sta):=bs.map fun e=>(e.1.board,e.2)
def ixB (k:Nm):Brds→Option Nat
 | []=>none
 | e::r=>if k=e.1.board then some 0 else (ixB k r).map (· + 1)
theorem z5a (k:Nm):∀ (q:Nat) (bs:Brds),getM k (mapB q bs)=(ixB k bs).map fun i=>q+(3*i+2)
 | q,[]=>rfl
 | q,e::r=>by
  unfold mapB getM ixB
  by_cases h:k=e.1.board
  ·simp [h]
  ·rw[if_neg h,if_neg h,z5a k (q+3) r]
   cases ixB k r with
   | none=>rfl
   | some i=>simp;omega
theorem zaa (k:Nm):∀ (bs:Brds),(ixB k bs=none→getA (asA bs) k=none)∧∀ i,ixB k bs=some i→∃ e,bs[i]?=some e∧e.1.board=k∧getA (asA bs) k=some e.2
 | []=>⟨fun _=>rfl,fun i h=>by cases h⟩
 | e::r=>by
  obtain⟨i1,i2⟩:=zaa k r
  unfold ixB
  by_cases h:k=e.1.board
  ·refine⟨fun z=>by simp [h] at z,fun i hi=>?_⟩
   rw[if_pos h] at hi
   cases hi
   exact⟨e,rfl,h.symm,by unfold asA;rw[List.map_cons,z7A,if_pos h.symm]⟩
  ·have hn:¬ e.1.board=k:=fun z=>h z.symm
   rw[if_neg h]
   refine⟨fun z=>?_,fun i hi=>?_⟩
   ·unfold asA
    rw[List.map_cons,z7A,if_neg hn]
    exact i1 (by simpa using z)
   ·obtain⟨j,hj,e2⟩:=Option.map_eq_some_iff.1 hi
    obtain⟨y,y1,y2,y3⟩:=i2 j hj
    subst e2
    refine⟨y,by simpa using y1,y2,?_⟩
    unfold asA
    rw[List.map_cons,z7A,if_neg hn]
    exact y3
theorem zte {bs:Brds} {k:Nm} {i:Nat} {e:Ent × Sta} (hi:ixB k bs=some i) (he:bs[i]?=some e) (hu:(bs.map fun e=>e.1.board).Nodup) (s:Sta):asA (bs.set i (e.1,s))=putA (asA bs) k s:=by
 induction bs generalizing i with
 | nil=>cases hi
 | cons y r ih=>
  unfold ixB at hi
  rw[List.map_cons,List.nodup_cons] at hu
  by_cases h:k=y.1.board
  ·rw[if_pos h] at hi
   cases hi
   simp at he
   subst he
   unfold putA asA
   rw[if_pos (by simp [h])]
   simp only[List.set_cons_zero,List.map_cons,h,if_true]
   congr 1
   rw[List.map_map]
   apply List.map_congr_left
   intro z hz
   have:¬ z.1.board=y.1.board:=fun q=>hu.1 (q ▸ List.mem_map_of_mem hz)
   simp [this]
  ·rw[if_neg h] at hi
   obtain⟨j,hj,e2⟩:=Option.map_eq_some_iff.1 hi
   subst e2
   have hn:¬ y.1.board=k:=fun z=>h z.symm
   have he':r[j]?=some e:=by simpa using he
   have q:=ih hj he' hu.2
   simp only[List.set_cons_succ]
   unfold putA asA at q ⊢
   simp only[List.map_cons,List.any_cons,decide_eq_false hn,Bool.false_or,if_neg hn]
   rw[q]
   split
   ·rfl
   ·rfl
theorem ztd {bs:Brds} {k:Nm} (hi:ixB k bs=none) (x:Ent) (hx:x.board=k) (s:Sta):asA (bs++[(x,s)])=putA (asA bs) k s:=by
 have:(asA bs).any (fun e=>decide (e.1=k))=false:=by
  induction bs with
  | nil=>rfl
  | cons y r ih=>
   unfold ixB at hi
   by_cases h:k=y.1.board
   ·rw[if_pos h] at hi;cases hi
   ·rw[if_neg h] at hi
    have hn:¬ y.1.board=k:=fun z=>h z.symm
    have q:=ih (by simpa using hi)
    unfold asA at q ⊢
    rw[List.map_cons,List.any_cons,q]
    simp [hn]
 unfold putA
 rw[if_neg (by simp [this])]
 unfold asA
 simp [hx]
abbrev SMap:=List ((Nm × Nm) × Nat)
def dobj (m:SMap) (c:Nat):Obj:=.amap (m.map fun e=>⟨.str e.1.1,AS e.1.2,e.2⟩) c
def asS (m:SMap):List (Nm × Nm):=m.map (·.1)
def z4r (k:Nm):SMap→Option Nat
 | []=>none
 | e::r=>if k=e.1.1 then some 0 else (z4r k r).map (· + 1)
theorem zae (k:Nm):∀ m:SMap,z1N (.str k) (m.map fun e=>(⟨.str e.1.1,AS e.1.2,e.2⟩:ME))=some (z4r k m)
 | []=>rfl
 | e::r=>by
  have hk:PV.eqv (.str k) (.str e.1.1)=some (decide (k=e.1.1)):=rfl
  simp only[List.map_cons,z1N,hk,z4r]
  by_cases h:k=e.1.1
  ·simp [h]
  ·simp [h,zae k r]
theorem z78 (k:Nm):∀ m:SMap,(z4r k m).bind (fun i=>m[i]?)=m.find? (fun e=>decide (e.1.1=k))
 | []=>rfl
 | e::r=>by
  unfold z4r
  rw[List.find?_cons]
  by_cases h:k=e.1.1
  ·simp [h]
  ·have hn:¬ e.1.1=k:=fun z=>h z.symm
   rw[if_neg h,decide_eq_false hn]
   have:=z78 k r
   cases hf:z4r k r with
   | none=>rw[hf] at this;simpa using this
   | some i=>rw[hf] at this;simpa using this
theorem z9X (k:Nm):∀ (m:SMap) (i:Nat),z4r k m=some i→(m[i]?).isSome=true
 | [],i,h=>by cases h
 | e::r,i,h=>by
  unfold z4r at h
  split at h
  ·cases h;rfl
  ·obtain⟨j,hj,e2⟩:=Option.map_eq_some_iff.1 h
   subst e2
   have:=z9X k r j hj
   simpa using this
theorem look_d {id:Nat} {hp:Heap} {m:SMap} {c:Nat} {k:Nm} (hh:hp[id]?=some (dobj m c)) :
 z1o (none,[2]) true (AS []) (.mp id) (AS k) hp=some (.tup [AS ((getA (asS m) k).getD []),AB (getA (asS m) k).isSome]):=by
 have e1:z2f (none,[2]) (AS k)=some (.str k):=z1K
 have e2:mget hp (.mp id)=some (id,m.map fun e=>(⟨.str e.1.1,AS e.1.2,e.2⟩:ME),c):=by simp only[mget,hh,dobj]
 have e3:getA (asS m) k=(m.find? fun e=>decide (e.1.1=k)).map (fun e=>e.1.2):=by
  unfold getA asS
  rw[List.find?_map]
  cases h:m.find? (fun e=>decide (e.1.1=k)) with
  | none=>rw[show (List.find? ((fun e=>decide (e.1=k)) ∘ fun x=>x.1) m)=m.find? (fun e=>decide (e.1.1=k)) from rfl,h];rfl
  | some x=>rw[show (List.find? ((fun e=>decide (e.1=k)) ∘ fun x=>x.1) m)=m.find? (fun e=>decide (e.1.1=k)) from rfl,h];rfl
 simp only[z1o,e1,e2,Option.map_some,zae]
 have e4:=z78 k m
 rw[e3,← e4]
 cases hf:z4r k m with
 | none=>rfl
 | some i=>
  simp only[Option.bind_some,List.getElem?_map]
  have hs:(m[i]?).isSome=true:=z9X k m i hf
  obtain⟨y,hy⟩:=Option.isSome_iff_exists.1 hs
  rw[hy]
  rfl
end Go.Am
end
section
/- A text split at a byte. -/
set_option linter.all false
namespace Go.Am
end Go.Am
end
section
/- A text read line by line. -/
set_option linter.all false
namespace Go.Am
end Go.Am
end
section
/- Numbers in texts. -/
set_option linter.all false
namespace Go.Am
end Go.Am
end
section
/- Faults of nets: what the words mean,in plain Lean. -/
set_option linter.all false
namespace Go.Am
structure Flt where
 kind:Int
 nets:List Int
 deriving DecidableEq
end Go.Am
end
section
/- Faults read: the program's line and the reference's line agree. -/
set_option linter.all false
namespace Go.Am
end Go.Am
end
section
/- What is written is read: numbers,words,lines. -/
set_option linter.all false
namespace Go.Am
end Go.Am
end
section
/- Entries asv texts,plainly: written,read both ways. -/
set_option linter.all false
namespace Go.Am
def ent0:Ent:=⟨[],0,0,0,[],[],[],0⟩
end Go.Am
end
section
/- Records: what is wrong with them,both ways. -/
open Go
set_option linter.unusedSimpArgs false
namespace Go.Am
variable {h:Heap} {K:Post}
def orL:List Int→Int
 | []=>0
 | x::r=>if x≠0 then x else orL r
theorem zuB (l:List Int) (hl:l.length≤1000):z0c X z6i [AL l] h K=K (AI (orL l)) h []:=by
 refine rule ?_
 rw[c_q00u rfl]
 simp only[zeu,go_sem]
 refine z0Y (fun k:Nat=>⟨[(3,AI 0),(6,AL l),(7,AI l.length),(8,AI k)],h,[]⟩) (fun k=>k≤l.length∧orL (l.drop k)=orL l) (fun k=>l.length-k) 0 rfl ⟨by omega,rfl⟩ ?_
 rintro k ⟨hk,hp⟩
 rcases Nat.lt_or_ge k l.length with hlt | hge
 ·have g2:=z1b eI hlt
  have w2:IntKind.i64.wrap ((k:Int)+1)=((k+1:Nat):Int):=z0l _ (by omega) (by omega)
  rw[List.drop_eq_getElem_cons hlt,orL] at hp
  by_cases hz:l[k]=0
  ·rw[if_neg (by simp [hz])] at hp
   simp only[go_sem,hlt,g2,hz,w2]
   exact⟨k+1,rfl,⟨by omega,hp⟩,by omega⟩
  ·rw[if_pos hz] at hp
   simp only[go_sem,hlt,g2,hz]
   rw[hp]
 ·have ek:k=l.length:=by omega
  subst ek
  rw[List.drop_length] at hp
  simp only[go_sem,Nat.lt_irrefl]
  rw[← hp];rfl
end Go.Am
end
section
/- Entries of stations: compared. -/
open Go
set_option linter.all false
set_option maxRecDepth 100000
namespace Go.Am
variable {h:Heap} {K:Post}
abbrev z1m (l:List Ent):AV:=.p (.sl (some 8) (l.map Ent.pv))
theorem zeH {l:List Ent}:shps (some 8) (l.map Ent.pv):=fun x hx=>by obtain⟨n,_,rfl⟩:=List.mem_map.1 hx;rfl
theorem z3c {x:Ent}:cutP (some 8) 0 x.pv=some x.pv:=rfl
structure EntOk (x:Ent):Prop where
 s:x.site.length≤1000000
 b:x.board.length≤1000000
 p:x.step.length≤1000000
 o:x.of.length≤1000000
structure EntB (x:Ent):Prop where
 n:1≤x.no∧x.no≤1000000
 t:0≤x.time∧x.time≤345686399999
theorem zkN {x:Ent} (h:entF x=0):EntB x:=by
 unfold entF at h
 split at h
 ·cases h
 split at h
 ·cases h
 rename_i h2
 rw[not_or] at h2
 have a:noB x.no=true:=by simpa using h2.1
 have b:z2w x.time=true:=by simpa using h2.2
 unfold noB inB at a
 unfold z2w inB at b
 simp at a b
 exact⟨a,b⟩
theorem zon (a b:Ent):z0c X z7x [.p a.pv,.p b.pv] h K=K (AI (z0U a b)) h []:=by
 refine rule ?_
 rw[c_q080 rfl]
 have o:=fun h K=>zuB (h:=h) (K:=K) [cmp3 a.time b.time,cmpL a.site b.site,cmp3 a.no b.no] (by simp)
 simp only[AL,List.map_cons,List.map_nil] at o
 have e:orL [cmp3 a.time b.time,cmpL a.site b.site,cmp3 a.no b.no]=z0U a b:=by
  unfold z0U
  simp only[orL]
  split
  ·rfl
  ·split
   ·rfl
   ·split
    ·rfl
    ·rename_i h;simp only[ne_eq,Decidable.not_not] at h;rw[h]
 rw[e] at o
 simp only[zjz,Ent.pv,go_sem,zcy,z3H,o]
theorem zct (a b:Ent) (ha:EntB a) (hb:EntB b):z0c X z4i [.p a.pv,.p b.pv] h K=K (AI (z0U a b)) h []:=by
 refine rule ?_
 rw[zrC rfl]
 have a1:=ha.t
 have a2:=hb.t
 have a3:=ha.n
 have a4:=hb.n
 have w:IntKind.i64.wrap (a.time-b.time)=a.time-b.time:=z0l _ (by omega) (by omega)
 have w2:IntKind.i64.wrap (a.no-b.no)=a.no-b.no:=z0l _ (by omega) (by omega)
 unfold z0U
 by_cases he:a.time=b.time
 ·have:cmp3 a.time b.time=0:=by rw[he];unfold cmp3;simp
  rw[if_neg (by simp [this])]
  by_cases hs:a.site=b.site
  ·have hc:cmpL a.site b.site=0:=by rw[hs];exact z4C _
   rw[if_neg (by simp [hc]),z4B]
   simp only[z6d,Ent.pv,go_sem,he,hs,w2,zf2]
  ·have hc:cmpL a.site b.site≠0:=fun e=>hs (z5K e)
   rw[if_pos hc]
   simp only[z6d,Ent.pv,go_sem,he,hs,z3H]
 ·have hc:cmp3 a.time b.time≠0:=by unfold cmp3;split <;> (try split) <;> omega
  rw[if_pos hc]
  rw[z4B]
  simp only[z6d,Ent.pv,go_sem,he,w,zf2]
theorem zdu (a b:Ent):z0c X z8V [.p a.pv,.p b.pv] h K=K (AB (z2y a b)) h []:=by
 refine rule ?_
 rw[c_q056 rfl]
 unfold z2y
 by_cases h1:a.site=b.site
 ·simp only[ze1,Ent.pv,go_sem,h1]
 ·simp only[ze1,Ent.pv,go_sem,h1]
end Go.Am
end
section
/- What is wrong with an entry: the reference. -/
open Go
set_option linter.all false
set_option maxRecDepth 100000
namespace Go.Am
variable {h:Heap} {K:Post}
attribute [-go_sem] oEqa
theorem eqa8 (ks:List Nat) (hk:ks=[2,0,0,0,2,2,2,0]) (neg:Bool) (c d:Ent):oEqa ks neg (.p c.pv) (.p d.pv)=some (AB (bif neg then !decide (c=d) else decide (c=d))):=by
 subst hk
 obtain⟨a1,a2,a3,a4,a5,a6,a7,a8⟩:=c
 obtain⟨b1,b2,b3,b4,b5,b6,b7,b8⟩:=d
 have e:decide ((⟨a1,a2,a3,a4,a5,a6,a7,a8⟩:Ent)=⟨b1,b2,b3,b4,b5,b6,b7,b8⟩)=(decide (a1=b1)&&(decide (a2=b2)&&(decide (a3=b3)&&(decide (a4=b4)&&(decide (a5=b5)&&(decide (a6=b6)&&(decide (a7=b7)&&(decide (a8=b8)&&true)))))))):=by
  rw[Bool.eq_iff_iff];simp [Ent.mk.injEq]
 rw[e]
 rfl
theorem eqa8n (c d:Ent):oEqa [2,0,0,0,2,2,2,0] true (.p c.pv) (.p d.pv)=some (AB (!decide (c=d))):=eqa8 _ rfl true c d
def Ent.box (x:Ent):Obj:=.box [AS x.site,AI x.no,AI x.time,AI x.kind,AS x.board,AS x.step,AS x.of,AI x.other]
def refE (x u:Ent) (nm:Bool):Int:=if keyB x.site=false then 5 else if noB x.no=false∨z2w x.time=false then 1 else if inB 1 x.kind 7=false then 4
 else if nm=false then 5 else if x.kind=7∧noB x.other=false then 1 else if x≠u then 3 else 0
theorem refE_F (x:Ent):refE x (zrf x) (zfl x)=entF x:=rfl
theorem ent_k1 (x u:Ent) (nm:Bool) (hs:x.site.length≤1000000) (K':Ex→St→Prop) :
 z0L (z0c X) X.gl (.ref h.length 0) (.ref (h.length+1) 0) (AB nm) (h++[x.box,u.box]) [] K'=K' .ret ⟨[(2,AI (refE x u nm))],h++[x.box,u.box],[]⟩:=by
 have k1:=fun h K=>z65 (h:=h) (K:=K) x.site (by omega)
 have hq:=eqa8n x u
 unfold refE noB
 unfold Ent.box
 simp only[Ent.pv] at hq
 cases h1:keyB x.site with
 | false=>simp only[z0L,go_sem,or_false,false_or,true_or,or_true,true_and,and_true,false_and,and_false,not_true_eq_false,not_false_eq_true,↓k1,k1,h1]
 | true=>
  cases h2:inB 1 x.no 1000000 with
  | false=>simp only[z0L,go_sem,or_false,false_or,true_or,or_true,true_and,and_true,false_and,and_false,not_true_eq_false,not_false_eq_true,↓k1,k1,z81,h1,h2]
  | true=>
   cases h3:z2w x.time with
   | false=>simp only[z0L,go_sem,or_false,false_or,true_or,or_true,true_and,and_true,false_and,and_false,not_true_eq_false,not_false_eq_true,↓k1,k1,z81,z1j,h1,h2,h3]
   | true=>
    cases h4:inB 1 x.kind 7 with
    | false=>simp only[z0L,go_sem,or_false,false_or,true_or,or_true,true_and,and_true,false_and,and_false,not_true_eq_false,not_false_eq_true,↓k1,k1,z81,z1j,h1,h2,h3,h4]
    | true=>
     cases nm with
     | false=>simp only[z0L,go_sem,or_false,false_or,true_or,or_true,true_and,and_true,false_and,and_false,not_true_eq_false,not_false_eq_true,↓k1,k1,z81,z1j,h1,h2,h3,h4]
     | true=>
      by_cases h7:x.kind=7
      ·cases h6:inB 1 x.other 1000000 with
       | false=>simp only[z0L,go_sem,or_false,false_or,true_or,or_true,true_and,and_true,false_and,and_false,not_true_eq_false,not_false_eq_true,↓k1,k1,z81,z1j,h1,h2,h3,h4,eq_true h7,h6]
       | true=>
        by_cases e:x=u
        ·rw[decide_eq_true e] at hq
         simp only[z0L,go_sem,or_false,false_or,true_or,or_true,true_and,and_true,false_and,and_false,not_true_eq_false,not_false_eq_true,↓k1,k1,z81,z1j,h1,h2,h3,h4,eq_true h7,h6,hq,eq_true e]
        ·rw[decide_eq_false e] at hq
         simp only[z0L,go_sem,or_false,false_or,true_or,or_true,true_and,and_true,false_and,and_false,not_true_eq_false,not_false_eq_true,↓k1,k1,z81,z1j,h1,h2,h3,h4,eq_true h7,h6,hq,e]
      ·by_cases e:x=u
       ·rw[decide_eq_true e] at hq
        simp only[z0L,go_sem,or_false,false_or,true_or,or_true,true_and,and_true,false_and,and_false,not_true_eq_false,not_false_eq_true,↓k1,k1,z81,z1j,h1,h2,h3,h4,h7,hq,eq_true e]
       ·rw[decide_eq_false e] at hq
        simp only[z0L,go_sem,or_false,false_or,true_or,or_true,true_and,and_true,false_and,and_false,not_true_eq_false,not_false_eq_true,↓k1,k1,z81,z1j,h1,h2,h3,h4,h7,hq,e]
attribute [-go_sem] z0L
theorem zcs (x:Ent) (hx:EntOk x):z0c X z8T [.p x.pv] h K=K (AI (entF x)) h []:=by
 refine rule ?_
 rw[c_q03z rfl]
 have k2:=fun h K=>z65 (h:=h) (K:=K) x.board (by have:=hx.b;omega)
 have k3:=fun h K=>z65 (h:=h) (K:=K) x.step (by have:=hx.p;omega)
 have k4:=fun h K=>z65 (h:=h) (K:=K) x.of (by have:=hx.o;omega)
 rw[← refE_F]
 have hs:x.site.length≤1000000:=hx.s
 have Q:=fun u nm K'=>ent_k1 (h:=h) x u nm hs K'
 unfold Ent.box at Q
 unfold zrf zfl
 by_cases h7:x.kind=7
 ·have q:=Q ⟨x.site,x.no,x.time,x.kind,[],[],x.of,x.other⟩ (keyB x.of)
  dsimp only at q
  simp only[z6c,Ent.pv,go_sem,↓k4,k4,h7] at q ⊢
  simp only[z6c,Ent.pv,go_sem,↓k4,k4,q,h7]
 ·by_cases h2:x.kind=2
  ·cases hb:keyB x.board with
   | false=>
    have q:=Q ⟨x.site,x.no,x.time,x.kind,x.board,x.step,[],0⟩ false
    simp only[z6c,Ent.pv,go_sem,↓k2,k2,↓k3,k3,h7,eq_true h2,hb,q]
   | true=>
    have q:=Q ⟨x.site,x.no,x.time,x.kind,x.board,x.step,[],0⟩ (keyB x.step)
    simp only[z6c,Ent.pv,go_sem,↓k2,k2,↓k3,k3,h7,eq_true h2,hb,q]
  ·have q:=Q ⟨x.site,x.no,x.time,x.kind,x.board,[],[],0⟩ (keyB x.board)
   simp only[z6c,Ent.pv,go_sem,↓k2,k2,↓k3,k3,h7,h2,q]
end Go.Am
end
section
/- What is wrong with an entry: the program. Printed by gen_ent.py. -/
open Go
set_option linter.all false
set_option maxRecDepth 100000
namespace Go.Am
variable {h:Heap} {K:Post}
set_option maxHeartbeats 4000000 in
theorem zcz (x:Ent) (hx:EntOk x):z0c X z7z [.p x.pv] h K=K (AI (entF x)) h []:=by
 refine rule ?_
 rw[c_q082 rfl]
 have k1:=fun h K=>zgJ (h:=h) (K:=K) x.site (by have:=hx.s;omega)
 have k2:=fun h K=>zgJ (h:=h) (K:=K) x.board (by have:=hx.b;omega)
 have k3:=fun h K=>zgJ (h:=h) (K:=K) x.step (by have:=hx.p;omega)
 have k4:=fun h K=>zgJ (h:=h) (K:=K) x.of (by have:=hx.o;omega)
 obtain⟨site,no,time,kind,board,step,of,other⟩:=x
 dsimp only at k1 k2 k3 k4
 unfold entF zfl zrf noB
 dsimp only
 cases h1:keyB site with
 | false=>
  simp only[Ent.pv,go_sem,Ent.mk.injEq,or_false,false_or,true_or,or_true,true_and,and_true,and_self,false_and,and_false,not_true_eq_false,not_false_eq_true,Bool.not_true,Bool.not_false,z4I,↓k1,k1,z2t,z1W,h1]
 | true=>
  cases h2:inB 1 no 1000000 with
  | false=>
   simp only[Ent.pv,go_sem,Ent.mk.injEq,or_false,false_or,true_or,or_true,true_and,and_true,and_self,false_and,and_false,not_true_eq_false,not_false_eq_true,Bool.not_true,Bool.not_false,z4I,↓k1,k1,z2t,z1W,h1,h2]
  | true=>
   cases h3:z2w time with
   | false=>
    simp only[Ent.pv,go_sem,Ent.mk.injEq,or_false,false_or,true_or,or_true,true_and,and_true,and_self,false_and,and_false,not_true_eq_false,not_false_eq_true,Bool.not_true,Bool.not_false,z4I,↓k1,k1,z2t,z1W,h1,h2,h3]
   | true=>
    cases h4:inB 1 kind 7 with
    | false=>
     simp only[Ent.pv,go_sem,Ent.mk.injEq,or_false,false_or,true_or,or_true,true_and,and_true,and_self,false_and,and_false,not_true_eq_false,not_false_eq_true,Bool.not_true,Bool.not_false,z4I,↓k1,k1,z2t,z1W,h1,h2,h3,h4]
    | true=>
     by_cases h7:kind=7
     ·have h72:¬ kind=2:=by omega
      simp only[Ent.pv,go_sem,Ent.mk.injEq,or_false,false_or,true_or,or_true,true_and,and_true,and_self,false_and,and_false,not_true_eq_false,not_false_eq_true,Bool.not_true,Bool.not_false,z4I,↓k1,k1,z2t,z1W,h1,h2,h3,h4,eq_true h7,h72]
      cases h5:keyB of with
      | false=>
       simp only[Ent.pv,go_sem,Ent.mk.injEq,or_false,false_or,true_or,or_true,true_and,and_true,and_self,false_and,and_false,not_true_eq_false,not_false_eq_true,Bool.not_true,Bool.not_false,↓k4,k4,h5,eq_true h7,h72]
      | true=>
       cases h6:inB 1 other 1000000 with
       | false=>
        simp only[Ent.pv,go_sem,Ent.mk.injEq,or_false,false_or,true_or,or_true,true_and,and_true,and_self,false_and,and_false,not_true_eq_false,not_false_eq_true,Bool.not_true,Bool.not_false,↓k4,k4,z2t,h5,h6,eq_true h7,h72]
       | true=>
        by_cases e1:board=[]
        ·by_cases e2:step=[]
         ·simp only[Ent.pv,go_sem,Ent.mk.injEq,or_false,false_or,true_or,or_true,true_and,and_true,and_self,false_and,and_false,not_true_eq_false,not_false_eq_true,Bool.not_true,Bool.not_false,↓k4,k4,z2t,h5,h6,eq_true e1,eq_true e2,eq_true h7,h72]
         ·simp only[Ent.pv,go_sem,Ent.mk.injEq,or_false,false_or,true_or,or_true,true_and,and_true,and_self,false_and,and_false,not_true_eq_false,not_false_eq_true,Bool.not_true,Bool.not_false,↓k4,k4,z2t,h5,h6,eq_true e1,e2,eq_true h7,h72]
        ·simp only[Ent.pv,go_sem,Ent.mk.injEq,or_false,false_or,true_or,or_true,true_and,and_true,and_self,false_and,and_false,not_true_eq_false,not_false_eq_true,Bool.not_true,Bool.not_false,↓k4,k4,z2t,h5,h6,e1,eq_true h7,h72]
     ·by_cases h2k:kind=2
      ·simp only[Ent.pv,go_sem,Ent.mk.injEq,or_false,false_or,true_or,or_true,true_and,and_true,and_self,false_and,and_false,not_true_eq_false,not_false_eq_true,Bool.not_true,Bool.not_false,z4I,↓k1,k1,z2t,z1W,h1,h2,h3,h4,h7,eq_true h2k]
       cases h5:keyB board with
       | false=>
        simp only[Ent.pv,go_sem,Ent.mk.injEq,or_false,false_or,true_or,or_true,true_and,and_true,and_self,false_and,and_false,not_true_eq_false,not_false_eq_true,Bool.not_true,Bool.not_false,↓k2,k2,h5,h7,eq_true h2k]
       | true=>
        simp only[Ent.pv,go_sem,Ent.mk.injEq,or_false,false_or,true_or,or_true,true_and,and_true,and_self,false_and,and_false,not_true_eq_false,not_false_eq_true,Bool.not_true,Bool.not_false,↓k2,k2,h5,h7,eq_true h2k]
        cases h6:keyB step with
        | false=>
         simp only[Ent.pv,go_sem,Ent.mk.injEq,or_false,false_or,true_or,or_true,true_and,and_true,and_self,false_and,and_false,not_true_eq_false,not_false_eq_true,Bool.not_true,Bool.not_false,↓k3,k3,h6,h7,eq_true h2k]
        | true=>
         by_cases e1:of=[]
         ·by_cases e2:other=0
          ·simp only[Ent.pv,go_sem,Ent.mk.injEq,or_false,false_or,true_or,or_true,true_and,and_true,and_self,false_and,and_false,not_true_eq_false,not_false_eq_true,Bool.not_true,Bool.not_false,↓k3,k3,h6,eq_true e1,eq_true e2,h7,eq_true h2k]
          ·simp only[Ent.pv,go_sem,Ent.mk.injEq,or_false,false_or,true_or,or_true,true_and,and_true,and_self,false_and,and_false,not_true_eq_false,not_false_eq_true,Bool.not_true,Bool.not_false,↓k3,k3,h6,eq_true e1,e2,h7,eq_true h2k]
         ·simp only[Ent.pv,go_sem,Ent.mk.injEq,or_false,false_or,true_or,or_true,true_and,and_true,and_self,false_and,and_false,not_true_eq_false,not_false_eq_true,Bool.not_true,Bool.not_false,↓k3,k3,h6,e1,h7,eq_true h2k]
      ·simp only[Ent.pv,go_sem,Ent.mk.injEq,or_false,false_or,true_or,or_true,true_and,and_true,and_self,false_and,and_false,not_true_eq_false,not_false_eq_true,Bool.not_true,Bool.not_false,z4I,↓k1,k1,z2t,z1W,h1,h2,h3,h4,h7,h2k]
       cases h5:keyB board with
       | false=>
        simp only[Ent.pv,go_sem,Ent.mk.injEq,or_false,false_or,true_or,or_true,true_and,and_true,and_self,false_and,and_false,not_true_eq_false,not_false_eq_true,Bool.not_true,Bool.not_false,↓k2,k2,h5,h7,h2k]
       | true=>
        by_cases e0:step=[]
        ·by_cases e1:of=[]
         ·by_cases e2:other=0
          ·simp only[Ent.pv,go_sem,Ent.mk.injEq,or_false,false_or,true_or,or_true,true_and,and_true,and_self,false_and,and_false,not_true_eq_false,not_false_eq_true,Bool.not_true,Bool.not_false,↓k2,k2,h5,eq_true e0,eq_true e1,eq_true e2,h7,h2k]
          ·simp only[Ent.pv,go_sem,Ent.mk.injEq,or_false,false_or,true_or,or_true,true_and,and_true,and_self,false_and,and_false,not_true_eq_false,not_false_eq_true,Bool.not_true,Bool.not_false,↓k2,k2,h5,eq_true e0,eq_true e1,e2,h7,h2k]
         ·simp only[Ent.pv,go_sem,Ent.mk.injEq,or_false,false_or,true_or,or_true,true_and,and_true,and_self,false_and,and_false,not_true_eq_false,not_false_eq_true,Bool.not_true,Bool.not_false,↓k2,k2,h5,eq_true e0,e1,h7,h2k]
        ·simp only[Ent.pv,go_sem,Ent.mk.injEq,or_false,false_or,true_or,or_true,true_and,and_true,and_self,false_and,and_false,not_true_eq_false,not_false_eq_true,Bool.not_true,Bool.not_false,↓k2,k2,h5,e0,h7,h2k]
end Go.Am
end
section
/- Lists of entries: what is wrong with them,the program. -/
open Go
set_option linter.all false
set_option maxRecDepth 100000
namespace Go.Am
variable {h:Heap} {K:Post}
def srcP (s:List UInt8 × Int):PV:=.agg [.str s.1,.int .i64 s.2]
def z3p (b:Bool):AV:=.p (.bool b)
theorem z61:KeyI srcP:=fun a b=>by
 obtain⟨a1,a2⟩:=a
 obtain⟨b1,b2⟩:=b
 have e:decide ((a1,a2)=(b1,b2))=(decide (a1=b1)&&(decide (a2=b2)&&true)):=by rw[Bool.eq_iff_iff];simp
 rw[e]
 rfl
theorem z4Z {s:List UInt8 × Int}:z2f (some 2,[2,0]) (.p (srcP s))=some (srcP s):=by simp [srcP,z2f,PV.key,PV.shp,PV.sc,PV.cells,PV.kind]
def z6x (l:List Ent):List ((List UInt8 × Int) × Bool):=l.map fun x=>((x.site,x.no),true)
theorem z7B (x:Ent):∀ l:List Ent,getM (x.site,x.no) (z6x l)=if l.any (fun o=>z2y o x) then some true else none
 | []=>rfl
 | y::l=>by
  have ih:=z7B x l
  unfold z6x at ih ⊢
  rw[List.map_cons]
  unfold getM
  rw[ih,List.any_cons]
  have e:((x.site,x.no)=(y.site,y.no))↔z2y y x=true:=by
   unfold z2y
   simp only[Prod.mk.injEq,Bool.and_eq_true,decide_eq_true_eq]
   exact⟨fun h=>⟨h.1.symm,h.2.symm⟩,fun h=>⟨h.1.symm,h.2.symm⟩⟩
  by_cases hc:z2y y x=true
  ·rw[if_pos (e.2 hc),hc];rfl
  ·have hf:z2y y x=false:=by simpa using hc
   rw[if_neg (fun z=>hc (e.1 z)),hf,Bool.false_or]
theorem zoF (l:List Ent) (x:Ent) (h:l.any (fun o=>z2y o x)=false):updM (x.site,x.no) true (z6x l)=z6x (l++[x]):=by
 have:z1l (x.site,x.no) (z6x l)=none:=by
  have e:=z6q (k:=(x.site,x.no)) (l:=z6x l)
  rw[z7B,h] at e
  simpa using e
 rw[z66 this]
 unfold z6x
 simp
attribute [-go_sem] z1o z15
theorem zuE (l:List Ent) (hn:l.length≤1000000):z0c X z74 [z1m l] h K=K (AB (z2j [] l)) h []:=by
 refine rule ?_
 rw[c_q08i rfl]
 simp only[zeC,go_sem]
 refine z0Y (fun k:Nat=>⟨[(3,.mp h.length),(8,z1m l),(9,AI l.length),(10,AI k)],h++[mobj srcP z3p (z6x (l.take k))],[]⟩) (fun k=>k≤l.length∧z2j (l.take k) (l.drop k)=z2j [] l) (fun k=>l.length-k) 0 rfl ⟨by omega,rfl⟩ ?_
 rintro k ⟨hkl,hp⟩
 rcases Nat.lt_or_ge k l.length with hlt | hge
 ·have hg:=z1b Ent.pv hlt
  have w2:IntKind.i64.wrap ((k:Int)+1)=((k+1:Nat):Int):=z0l _ (by omega) (by omega)
  have cx:=z3c (x:=l[k])
  rw[List.drop_eq_getElem_cons hlt,z2j,← List.take_succ_eq_append_getElem hlt] at hp
  have ek:l.take (k+1)=l.take k++[l[k]]:=List.take_succ_eq_append_getElem hlt
  generalize hx:l[k]=x at *
  generalize l.take k=S at *
  have lk:=fun (hp:Heap) (e:hp[h.length]?=some (mobj srcP z3p (z6x S)))=>z3g (kk:=(some 2,[2,0])) (k:=(x.site,x.no)) z61 e z4Z (ok:=false) (z:=z3p false)
  have up:=fun (hp:Heap) (e:hp[h.length]?=some (mobj srcP z3p (z6x S)))=>z5c (kk:=(some 2,[2,0])) (k:=(x.site,x.no)) z61 e z4Z (v:=true) rfl
  have l1:=fun t=>lk (h++mobj srcP z3p (z6x S)::t) (by simp)
  have u1:=fun t=>up (h++mobj srcP z3p (z6x S)::t) (by simp)
  rw[z7B] at l1
  simp only[z3p,srcP,cond_false,z1U,AV.top] at l1 u1
  cases hc:S.any (fun o=>z2y o x) with
  | true=>
   rw[hc,if_pos rfl] at hp
   rw[hc] at l1
   simp only[if_true,Option.map_some,Option.getD_some,z3p] at l1
   simp only[go_sem,hlt,hg,cx,Ent.pv,splice,l1]
   rw[← hp]
  | false=>
   rw[hc,if_neg (by simp)] at hp
   rw[hc] at l1
   have us:=zoF S x hc
   simp only[Bool.false_eq_true,if_false,Option.map_none,Option.getD_none] at l1
   have nl0:¬ h.length<0:=by omega
   simp only[nl0,if_false] at u1
   rw[us] at u1
   simp only[go_sem,hlt,hg,cx,Ent.pv,splice,l1,u1,w2]
   refine⟨k+1,?_,⟨by omega,?_⟩,by omega⟩
   ·rw[ek]
   ·rw[ek];rw[← ek];exact hp
 ·have ek:k=l.length:=by omega
  subst ek
  rw[List.drop_length] at hp
  simp only[go_sem,Nat.lt_irrefl]
  rw[← hp];rfl
theorem z4L {p:Option Ent} {x:Ent} {r:List Ent}:z0B p (x::r)=if entF x≠0 then entF x else if (match p with | some q=>decide (z0U x q≤0) | none=>false)=true then 7 else z0B (some x) r:=rfl
theorem z8z (r:List Ent) (hr:∀ x∈r,EntOk x) (hn:r.length≤1000000):z0c X z7v [z1m r] h K=K (AI (z3s r)) h []:=by
 refine rule ?_
 rw[c_q07q rfl]
 have tw:=fun h K=>zuE (h:=h) (K:=K) r hn
 unfold z3s
 by_cases h1:(2000:Int)<r.length
 ·simp only[zbz,go_sem,h1]
 simp only[zbz,go_sem,h1]
 refine z0Y (fun k:Nat=>⟨[(0,z1m r),(9,z1m r),(10,AI r.length),(11,AI k)],h,[]⟩) (fun k=>k≤r.length∧z0B (r.take k).getLast? (r.drop k)=z0B none r) (fun k=>r.length-k) 0 rfl ⟨by omega,rfl⟩ ?_
 rintro k ⟨hkl,hp⟩
 rcases Nat.lt_or_ge k r.length with hlt | hge
 ·have hg:=z1b Ent.pv hlt
  have w2:IntKind.i64.wrap ((k:Int)+1)=((k+1:Nat):Int):=z0l _ (by omega) (by omega)
  have hx:=hr _ (List.getElem_mem hlt)
  have hlast:(r.take (k+1)).getLast?=some r[k]:=by rw[List.take_succ_eq_append_getElem hlt];exact List.getLast?_concat
  rw[List.drop_eq_getElem_cons hlt,z4L] at hp
  have cx:=z3c (x:=r[k])
  have rf:=fun h K=>zcz (h:=h) (K:=K) r[k] hx
  simp only[Ent.pv] at rf
  by_cases h2:entF r[k]=0
  ·rw[if_neg (by simp [h2])] at hp
   cases k with
   | zero=>
    simp only[List.take_zero,List.getLast?_nil,reduceCtorEq,if_false] at hp
    have hlt0:(0:Int)<r.length:=by omega
    simp only[go_sem,hlt0,hg,cx,Ent.pv,rf,h2,Int.lt_irrefl,splice,show IntKind.i64.wrap 1=1 from rfl]
    exact⟨0+1,rfl,⟨by omega,by rw[hlast];exact hp⟩,by omega⟩
   | succ j=>
    have hj:j<r.length:=by omega
    have hgj:=z1b Ent.pv hj
    have cj:=z3c (x:=r[j])
    have hlj:(r.take (j+1)).getLast?=some r[j]:=by rw[List.take_succ_eq_append_getElem hj];exact List.getLast?_concat
    have w3:IntKind.i64.wrap (((j+1:Nat):Int)-1)=(j:Int):=by rw[z0l _ (by omega) (by omega)];omega
    have p1:(0:Int)<((j+1:Nat):Int):=by omega
    have bt:=fun h K=>zon (h:=h) (K:=K) r[j+1] r[j]
    simp only[Ent.pv] at bt
    rw[hlj] at hp
    by_cases h3:z0U r[j+1] r[j]≤0
    ·simp only[h3,decide_true,if_true] at hp
     simp only[go_sem,hlt,hj,hg,hgj,cx,cj,Ent.pv,rf,h2,p1,w3,bt,h3,splice]
     rw[← hp]
     rfl
    ·simp only[h3,decide_false,reduceCtorEq,if_false] at hp
     simp only[go_sem,hlt,hj,hg,hgj,cx,cj,Ent.pv,rf,h2,p1,w3,bt,h3,w2,splice]
     exact⟨j+1+1,rfl,⟨by omega,by rw[hlast];exact hp⟩,by omega⟩
  ·rw[if_pos h2] at hp
   simp only[go_sem,hlt,hg,cx,Ent.pv,rf,h2,splice]
   rw[← hp,if_pos h2]
 ·have ek:k=r.length:=by omega
  subst ek
  rw[List.drop_length] at hp
  have hz:z0B none r=0:=by rw[← hp];cases (r.take r.length).getLast? <;> rfl
  rw[if_neg (by simp [hz])]
  cases ht:z2j [] r with
  | true=>
   rw[ht] at tw
   simp only[go_sem,Nat.lt_irrefl,tw]
   first | done | rfl
  | false=>
   rw[ht] at tw
   simp only[go_sem,Nat.lt_irrefl,tw]
   first | done | rfl
end Go.Am
end
section
/- Lists of entries: sorted,looked through: printed by program. -/
open Go
set_option linter.unusedSimpArgs false
namespace Go.Am
attribute [-go_sem] PV.cells splice
variable {h:Heap} {K:Post}
theorem z6t (id n:Nat) (l tl:List PV) (hn:n=l.length+tl.length) (hs:shps (some 8) l) (hl:l.length≤1000) (hh:h[id]?=some (.row (some 8) (l++tl) 0)) {g:Nat} {caps:List AV} {c:PV→PV→Int} (hc:Cmps g caps c l id h) :
 z0c X z6m [.own id n 0 l.length,AI 0,AI l.length,.fn g caps] h K=K (.tup []) (h.set id (.row (some 8) (zcc (ltC c) l++tl) 0)) []:=by
 refine rule ?_
 rw[c_q06g]
 have hid:=z7C hh
 have hst:∀ o,(h.set id o)[id]?=some o:=fun o=>z3Z hid
 simp only[ze5,go_sem,show IntKind.i64.wrap 1=1 from rfl]
 refine z0Y (fun i:Nat=>⟨[(0,.own id n 0 l.length),(1,AI 0),(2,AI l.length),(3,.fn g caps),(8,AI i)],h.set id (.row (some 8) ((z4j (ltC c) (l.take i)).reverse++(l.drop i++tl)) 0),[]⟩) (fun i=>1≤i∧(i≤l.length∨i=1)) (fun i=>l.length-i) 1 ?_ (by simp) ?_
 ·have:(z4j (ltC c) (l.take 1)).reverse++(l.drop 1++tl)=l++tl:=by cases l <;> rfl
  rw[this,zf8 hh];rfl
 rintro i ⟨hi1,hi2⟩
 rcases Nat.lt_or_ge i l.length with hlt | hge
 ·simp only[go_sem,hlt]
  have hxl:l[i]∈l:=List.getElem_mem hlt
  generalize hx:l[i]=x at *
  generalize hR:z4j (ltC c) (l.take i)=R
  have hRl:R.length=i:=by rw[← hR,zg3];simp;omega
  have hRm:∀ z∈R,z∈l:=fun z hz=>List.mem_of_mem_take ((z4s (ltC c) (l.take i)).mem_iff.1 (by rw[hR];exact hz))
  have hdrop:l.drop i=x::l.drop (i+1):=by rw[← hx];exact List.drop_eq_getElem_cons hlt
  have hnext:z4j (ltC c) (l.take (i+1))=insR (ltC c) x R:=by rw[z6v _ _ _ hlt,hR,hx]
  refine z0Y (fun t:List PV × List PV=>⟨[(0,.own id n 0 l.length),(1,AI 0),(2,AI l.length),(3,.fn g caps),(8,AI i),(9,AI t.1.length)],h.set id (.row (some 8) (t.1.reverse++x::t.2) 0),[]⟩)
   (fun t=>∃ B,R=B++t.1∧t.2=B.reverse++(l.drop (i+1)++tl)∧∀ b∈B,ltC c x b=true) (fun t=>t.1.length) (R,l.drop (i+1)++tl) (by rw[hdrop,hRl];rfl) ⟨[],rfl,rfl,by simp⟩ ?_
  rintro⟨A,C⟩ ⟨B,q1,q2,q3⟩
  dsimp only at q1 q2 q3
  have hlen:(A.reverse++x::C).length=n:=by
   have:R.length=B.length+A.length:=by rw[q1];simp
   rw[q2];simp;omega
  have hBA:B.length+A.length<l.length:=by
   have:R.length=B.length+A.length:=by rw[q1];simp
   omega
  have hln:l.length≤n:=by omega
  have w1:IntKind.i64.wrap ((i:Int)+1)=((i+1:Nat):Int):=z0l _ (by omega) (by omega)
  cases A with
  | nil=>
   have hd:insR (ltC c) x R=B++[x]:=by rw[q1];exact zff (ltC c) x [] B q3 (fun y r h=>by cases h)
   simp only[go_sem,Int.lt_irrefl,w1]
   refine⟨i+1,?_,by omega,by omega⟩
   simp only[hnext,hd,q2,List.reverse_append,List.reverse_nil,List.nil_append,List.reverse_cons,List.append_assoc,List.cons_append]
  | cons y A=>
   have hyl:y∈l:=hRm y (by rw[q1];simp)
   have g1:=ztP (y::A) C x
   have g2:=zqh A C x y
   have sw:=zqi A C x y
   simp only[List.length_cons] at hBA
   generalize hrow:(y::A).reverse++x::C=row at *
   simp only[List.length_cons] at g1
   have w2:IntKind.i64.wrap (((A.length+1:Nat):Int)-1)=(A.length:Int):=by rw[z0l _ (by omega) (by omega)];omega
   have p1:(0:Int)<((A.length+1:Nat):Int):=by omega
   have b1:A.length+1<l.length:=by omega
   have b2:A.length<l.length:=by omega
   have cx:=zdz (hs x hxl)
   have cy:=zdz (hs y hyl)
   have hcc:=fun o K=>hc o x hxl y hyl K
   by_cases hxy:c x y<0
   ·have g3:(row.set (A.length+1) y)[A.length]?=some y:=by rw[List.getElem?_set_ne (by omega),g2]
    have lx:=zo1 (hs x hxl)
    have ly:=zo1 (hs y hyl)
    have sx:=zo0 (hs x hxl)
    have sy:=zo0 (hs y hyl)
    simp only[z0a] at lx ly
    have t1:=fun i xs h1=>zsG (hs x hxl) (hs y hyl) id i 0 xs h1
    have t2:=fun i xs h1=>zsG (hs y hyl) (hs x hxl) id i 0 xs h1
    simp only[go_sem,hst,p1,hlen,g1,g2,g3,w2,b1,b2,hln,cx,cy,hcc,hxy,lx,ly,sx,sy,t1,t2,sw]
    refine⟨(A,y::C),rfl,⟨B++[y],by simp [q1],by simp [q2],fun b hb=>?_⟩,by simp⟩
    rw[List.mem_append,List.mem_singleton] at hb
    rcases hb with hb | rfl
    ·exact q3 b hb
    ·simpa [ltC] using hxy
   ·have hd:insR (ltC c) x R=B++x::y::A:=by rw[q1];exact zff (ltC c) x (y::A) B q3 (fun z r h=>by cases h;simpa [ltC] using hxy)
    simp only[go_sem,hst,p1,hlen,g1,g2,w2,b1,b2,hln,cx,cy,hcc,hxy,w1]
    refine⟨i+1,?_,by omega,by omega⟩
    simp only[hnext,hd,← hrow,q2,List.reverse_append,List.reverse_cons,List.append_assoc,List.cons_append,List.nil_append]
 ·have hge':¬ i<l.length:=by omega
  have e1:l.take i=l:=List.take_of_length_le hge
  have e2:l.drop i=[]:=List.drop_of_length_le hge
  simp only[go_sem,hge',e1,e2]
  rfl
theorem z6y (id:Nat) (l:List PV) (hs:shps (some 8) l) (hl:l.length≤19) (hh:h[id]?=some (.row (some 8) l 0)) {g:Nat} {caps:List AV} {c:PV→PV→Int} (hc:Cmps g caps c l id h) :
 z0c X z8Z [.own id l.length 0 l.length,.fn g caps] h K=K (.tup []) (h.set id (.row (some 8) (zcc (ltC c) l) 0)) []:=by
 refine rule ?_
 rw[c_q062]
 have key:∀ K:Post,z0c X z9a [.own id l.length 0 l.length,AI l.length,.fn g caps] h K=K (.tup []) (h.set id (.row (some 8) (zcc (ltC c) l) 0)) []:=by
  intro K
  refine rule ?_
  rw[c_q07g]
  have is:=fun K=>z6t (h:=h) (K:=K) id l.length l [] rfl hs (by omega) (by rw[List.append_nil];exact hh) hc
  simp only[List.append_nil] at is
  have b1:¬ ((20:Int)≤(l.length:Int)):=by omega
  have b2:¬ ((20:Int)<(l.length:Int)):=by omega
  simp only[ze6,go_sem]
  refine z0Y (fun _:Unit=>⟨[(0,.own id l.length 0 l.length),(1,AI l.length),(2,.fn g caps),(6,AI 20),(7,AI 0),(8,AI 20)],h,[]⟩) (fun _=>True) (fun _=>0) () rfl trivial ?_
  intro _ _
  simp only[go_sem,b1,is]
  refine z0Y (fun _:Unit=>⟨[(0,.own id l.length 0 l.length),(1,AI l.length),(2,.fn g caps),(6,AI 20)],h.set id (.row (some 8) (zcc (ltC c) l) 0),[]⟩) (fun _=>True) (fun _=>0) () rfl trivial ?_
  intro _ _
  simp only[go_sem,b2]
 simp only[zjy,go_sem,key]
theorem z6B {v:AV} {g:Nat} {caps:List AV} {p:PV→Bool} {xs:List PV} (hv:Shows (some 8) v xs h) (hp:Tells g caps p xs h) (hl:xs.length≤1000000000) :
 z0c X z8Y [v,.fn g caps] h K=K (AI (idxP p xs)) h []:=by
 refine rule ?_
 rw[c_q05u]
 have vl:=hv.len
 simp only[ze2,go_sem,vl]
 refine z0Y (fun k:Nat=>⟨[(0,v),(1,.fn g caps),(7,AI xs.length),(8,AI k)],h,[]⟩) (fun k=>k≤xs.length∧∀ x∈xs.take k,p x=false) (fun k=>xs.length-k) 0 rfl (by simp) ?_
 rintro k ⟨hk,hn⟩
 rcases Nat.lt_or_ge k xs.length with hlt | hge
 ·obtain⟨a,ha,hb⟩:=hv.get k hlt
  have w2:IntKind.i64.wrap ((k:Int)+1)=((k+1:Nat):Int):=z0l _ (by omega) (by omega)
  have ht:=hp _ (List.getElem_mem hlt)
  cases hpk:p xs[k] with
  | true=>
   have hf:xs.findIdx p=k:=by
    rw[List.findIdx_eq hlt]
    refine⟨hpk,fun j hj=>?_⟩
    have:=hn xs[j] (by rw[List.mem_take_iff_getElem];exact⟨j,by omega,rfl⟩)
    simpa using this
   simp only[go_sem,hlt,ha,hb,ht,hpk,w2]
   simp only[idxP,hf,hlt,if_true]
  | false=>
   simp only[go_sem,hlt,ha,hb,ht,hpk,w2]
   refine⟨k+1,rfl,⟨by omega,fun x hx=>?_⟩,by omega⟩
   rw[List.take_succ_eq_append_getElem hlt,List.mem_append,List.mem_singleton] at hx
   rcases hx with hx | hx
   ·exact hn x hx
   ·rw[hx];exact hpk
 ·have e1:k=xs.length:=by omega
  subst e1
  simp only[go_sem,Nat.lt_irrefl]
  rw[List.take_length] at hn
  have:¬ xs.findIdx p<xs.length:=by
   rw[Nat.not_lt,Nat.le_iff_lt_or_eq];right
   exact (List.findIdx_eq_length.2 (fun x hx=>by simp [hn x hx])).symm
  simp [idxP,this]
theorem z43 {g:Nat} {caps:List AV} {p:PV→Bool} {xs:List PV} (hp:Tells g caps p xs h) (hs:shps (some 8) xs) (hl:xs.length≤1000000000) :
 z0c X z8X [.p (.sl (some 8) xs),.fn g caps] h K=K (AB (xs.any p)) h []:=by
 refine rule ?_
 rw[c_q05h]
 have vi:=fun K=>z6B (h:=h) (K:=K) (zao hs) hp hl
 simp only[zjv,go_sem,vi,zqe]
end Go.Am
end
section
/- Lists of entries: what is wrong with them,the reference. -/
open Go
set_option linter.all false
set_option maxRecDepth 100000
namespace Go.Am
variable {h:Heap} {K:Post}
attribute [-go_sem] oEqa
def zd3:PV→Ent
 | .agg [.str a,.int _ b,.int _ c,.int _ d,.str e,.str f,.str g,.int _ i]=>⟨a,b,c,d,e,f,g,i⟩
 | _=>ent0
theorem zaq (x:Ent):zd3 x.pv=x:=rfl
theorem s_EF1 (o x:Ent) (id:Nat) (hx:h[id]?=some x.box):z0c X z7t [.p o.pv,.ref id 0] h K=K (AB (z2y o x)) h []:=by
 refine rule ?_
 rw[c_q03w rfl]
 have q:=fun h K=>zdu (h:=h) (K:=K) o x
 have hl:=z7C hx
 have hx2:∀ t,(h++t)[id]?=some x.box:=fun t=>by rw[List.getElem?_append_left hl];exact hx
 simp only[Ent.pv] at q
 unfold Ent.box at hx hx2
 simp only[zjr,Ent.pv,go_sem,hx,hx2,q]
attribute [-go_sem] z7m
theorem z80 (r:List Ent) (hr:∀ x∈r,EntOk x) (hn:r.length≤1000000):z0c X z8S [z1m r] h K=K (AI (z3s r)) h []:=by
 refine rule ?_
 rw[c_q03v rfl]
 unfold z3s
 by_cases h1:(2000:Int)<r.length
 ·simp only[zbh,go_sem,h1]
 simp only[zbh,go_sem,h1]
 refine z0Y (fun k:Nat=>⟨[(0,z1m r),(11,z1m r),(12,AI r.length),(13,AI k)],h,[]⟩) (fun k=>k≤r.length∧z0B (r.take k).getLast? (r.drop k)=z0B none r∧∀ x∈r.take k,entF x=0) (fun k=>r.length-k) 0 rfl ⟨by omega,rfl,by simp⟩ ?_
 rintro k ⟨hkl,hp,hz⟩
 rcases Nat.lt_or_ge k r.length with hlt | hge
 ·have hg:=z1b Ent.pv hlt
  have w2:IntKind.i64.wrap ((k:Int)+1)=((k+1:Nat):Int):=z0l _ (by omega) (by omega)
  have hx:=hr _ (List.getElem_mem hlt)
  have hlast:(r.take (k+1)).getLast?=some r[k]:=by rw[List.take_succ_eq_append_getElem hlt];exact List.getLast?_concat
  rw[List.drop_eq_getElem_cons hlt,z4L] at hp
  have cx:=z3c (x:=r[k])
  have rf:=fun h K=>zcs (h:=h) (K:=K) r[k] hx
  simp only[Ent.pv] at rf
  by_cases h2:entF r[k]=0
  ·rw[if_neg (by simp [h2])] at hp
   have hz':∀ x∈r.take (k+1),entF x=0:=fun x hx=>by
    rw[List.take_succ_eq_append_getElem hlt,List.mem_append,List.mem_singleton] at hx
    rcases hx with hx | rfl
    ·exact hz x hx
    ·exact h2
   cases k with
   | zero=>
    simp only[List.take_zero,List.getLast?_nil,reduceCtorEq,if_false] at hp
    have hlt0:(0:Int)<r.length:=by omega
    simp only[go_sem,hlt0,hg,cx,Ent.pv,rf,h2,Int.lt_irrefl,splice,show IntKind.i64.wrap 1=1 from rfl]
    exact⟨0+1,rfl,⟨by omega,by rw[hlast];exact hp,hz'⟩,by omega⟩
   | succ j=>
    have hj:j<r.length:=by omega
    have hgj:=z1b Ent.pv hj
    have cj:=z3c (x:=r[j])
    have hlj:(r.take (j+1)).getLast?=some r[j]:=by rw[List.take_succ_eq_append_getElem hj];exact List.getLast?_concat
    have w3:IntKind.i64.wrap (((j+1:Nat):Int)-1)=(j:Int):=by rw[z0l _ (by omega) (by omega)];omega
    have p1:(0:Int)<((j+1:Nat):Int):=by omega
    have t1:=zkN h2
    have t2:=zkN (hz r[j] (by rw[List.mem_take_iff_getElem];exact⟨j,by omega,rfl⟩))
    have bt:=fun h K=>zct (h:=h) (K:=K) r[j] r[j+1] t2 t1
    simp only[Ent.pv] at bt
    rw[hlj] at hp
    have hneg:=zgq r[j+1] r[j]
    by_cases h3:z0U r[j+1] r[j]≤0
    ·have h3':0≤z0U r[j] r[j+1]:=by omega
     simp only[h3,decide_true,if_true] at hp
     simp only[go_sem,hlt,hj,hg,hgj,cx,cj,Ent.pv,rf,h2,p1,w3,bt,h3',splice]
     rw[← hp]
     rfl
    ·have h3':¬ 0≤z0U r[j] r[j+1]:=by omega
     simp only[h3,decide_false,reduceCtorEq,if_false] at hp
     simp only[go_sem,hlt,hj,hg,hgj,cx,cj,Ent.pv,rf,h2,p1,w3,bt,h3',w2,splice]
     exact⟨j+1+1,rfl,⟨by omega,by rw[hlast];exact hp,hz'⟩,by omega⟩
  ·rw[if_pos h2] at hp
   simp only[go_sem,hlt,hg,cx,Ent.pv,rf,h2,splice]
   rw[← hp,if_pos h2]
 ·have ek:k=r.length:=by omega
  subst ek
  rw[List.drop_length] at hp
  have hz0:z0B none r=0:=by rw[← hp];cases (r.take r.length).getLast? <;> rfl
  rw[if_neg (by simp [hz0])]
  simp only[go_sem,Nat.lt_irrefl]
  rw[z7m]
  simp only[z4G,go_sem]
  refine z0Y (fun k:Nat=>⟨[(0,z1m r),(36,z1m r),(37,AI r.length),(38,AI k)],h,[]⟩) (fun k=>k≤r.length∧z2j (r.take k) (r.drop k)=z2j [] r) (fun k=>r.length-k) 0 rfl ⟨by omega,rfl⟩ ?_
  rintro k ⟨hkl2,hp2⟩
  rcases Nat.lt_or_ge k r.length with hlt | hge
  ·have hg:=z1b Ent.pv hlt
   have w2:IntKind.i64.wrap ((k:Int)+1)=((k+1:Nat):Int):=z0l _ (by omega) (by omega)
   have cx:=z3c (x:=r[k])
   rw[List.drop_eq_getElem_cons hlt,z2j,← List.take_succ_eq_append_getElem hlt] at hp2
   have cf:=fun K=>z43 (h:=h++[r[k].box]) (K:=K) (g:=z7t) (caps:=[.ref h.length 0]) (p:=fun v=>z2y (zd3 v) r[k]) (xs:=(r.take k).map Ent.pv)
    (fun v hv K=>by
     obtain⟨o,_,rfl⟩:=List.mem_map.1 hv
     dsimp only
     rw[zaq]
     exact s_EF1 o r[k] h.length (by simp)) zeH (by simp;omega)
   have ea:((r.take k).map Ent.pv).any (fun v=>z2y (zd3 v) r[k])=(r.take k).any (fun o=>z2y o r[k]):=by
    rw[List.any_map];rfl
   rw[ea] at cf
   have hw:win (r.map Ent.pv) 0 k=(r.take k).map Ent.pv:=by simp [win,List.map_take]
   have hkl3:k≤r.length:=by omega
   unfold Ent.box at cf
   cases hc:(r.take k).any (fun o=>z2y o r[k]) with
   | true=>
    rw[hc,if_pos rfl] at hp2
    rw[hc] at cf
    simp only[go_sem,hlt,hg,cx,Ent.pv,splice,hkl3,hw,↓cf,cf]
    rw[← hp2]
    first | done | rfl
   | false=>
    rw[hc,if_neg (by simp)] at hp2
    rw[hc] at cf
    simp only[go_sem,hlt,hg,cx,Ent.pv,splice,hkl3,hw,↓cf,cf,w2]
    exact⟨k+1,rfl,⟨by omega,hp2⟩,by omega⟩
  ·have ek:k=r.length:=by omega
   subst ek
   rw[List.drop_length] at hp2
   have:z2j [] r=false:=by rw[← hp2];rfl
   simp only[go_sem,Nat.lt_irrefl,this]
   first | done | rfl
end Go.Am
end
section
/- Where a byte stands in a text. -/
open Go
set_option linter.all false
namespace Go.Am
variable {h:Heap} {K:Post}
end Go.Am
end
section
/- Lengths of numbers in bits,and comparisons of plain values. -/
open Go
namespace Go.Am
variable {h:Heap} {K:Post}
set_option maxRecDepth 20000
theorem zuI {l:List Int}:shps none (l.map eI):=fun x hx=>by obtain⟨n,_,rfl⟩:=List.mem_map.1 hx;rfl
end Go.Am
end
section
/- Lists of strings sorted,left out: printed by program. -/
open Go
set_option linter.unusedSimpArgs false
namespace Go.Am
attribute [-go_sem] PV.cells splice
variable {h:Heap} {K:Post}
end Go.Am
end
section
/- What is drawn: numbers,measured values. -/
open Go
namespace Go.Am
variable {L:List Int} {a:Int}
theorem ztL (hp:posN 14 a) (u v:Int) (huv:u≤v) (hu : -1000000000000≤u) (hv:v≤1000000000000):∃ k a2:Int,a≤a2∧a2≤a+2 ∧ -1099511627776≤k∧k≤1099511627776 ∧
 Gen z26 [AI u,AI v] L a a2 (AI k):=by
 have w1:IntKind.i64.wrap (u-1)=u-1:=z0l _ (by omega) (by omega)
 have w2:IntKind.i64.wrap (v+1)=v+1:=z0l _ (by omega) (by omega)
 by_cases hf:z12 L a 12=0
 ·have hm:=z7Z (L:=L) (a:=a+1) (l:=[u-1,v+1,u,v,-1099511627776,1099511627776]) (by simp) (by simp)
  simp only[List.mem_cons,List.not_mem_nil,or_false] at hm
  refine⟨z4c [u-1,v+1,u,v,-1099511627776,1099511627776] L (a+1),a+1+1,by omega,by omega,by omega,by omega,Gen.of fun h id hid=>?_⟩
  rw[zel rfl]
  simp only[z8I,go_sem,hid,z55 hp,hf,w1,w2]
 ·have hm:=z2T L (a+1) huv (by omega)
  refine⟨z1i u v L (a+1),a+1+1,by omega,by omega,by omega,by omega,Gen.of fun h id hid=>?_⟩
  rw[zel rfl]
  simp only[z8I,go_sem,hid,z55 hp,hf,w1,w2,huv,show -1152921504606846976≤u by omega,show v≤1152921504606846976 by omega]
end Go.Am
end
section
/- Strings that are drawn. -/
open Go
set_option linter.unusedSimpArgs false
namespace Go.Am
variable {L:List Int} {a:Int} {h l:Heap} {id:Nat} {K:Post}
def isS:PV→Bool
 | .str _=>true
 | _=>false
def unS:PV→List UInt8
 | .str s=>s
 | _=>[]
def z16 (l:List (List UInt8)) (L:List Int) (a:Int):List UInt8:=l.getD (z12 L a l.length).toNat []
theorem z7Y {l:List (List UInt8)} {L:List Int} {a:Int} (hl:0<l.length) (hl2:l.length<4611686018427387904):z16 l L a∈l:=by
 obtain⟨b1,b2⟩:=z5d L a l.length (by omega) (by omega)
 unfold z16
 have:(z12 L a l.length).toNat<l.length:=by omega
 simp only[List.getD,List.getElem?_eq_getElem this,Option.getD_some]
 exact List.getElem_mem _
theorem zvi {xs:List PV} (h:xs.all isS=true):xs=(xs.map unS).map PV.str:=by
 induction xs with
 | nil=>rfl
 | cons x r ih=>
  simp only[List.all_cons,Bool.and_eq_true] at h
  simp only[List.map_cons]
  rw[← ih h.2]
  cases x <;> first | rfl | cases h.1
theorem zls (hp:posN 0 a) (xs:List PV) (hx:xs.all isS=true) (hl:0<xs.length) (hl2:xs.length<4611686018427387904) :
 Gen z1h [.p (.sl none xs)] L a (a+1) (AS (z16 (xs.map unS) L a)):=by
 refine Gen.of fun h id hid=>?_
 rw[c_q03s rfl]
 obtain⟨b1,b2⟩:=z5d L a xs.length (by omega) (by omega)
 have e4:=z7G (k:=.i64) b1
 have e5:xs[(z12 L a xs.length).toNat]?=some (.str (z16 (xs.map unS) L a)):=by
  have hm:=zvi hx
  generalize hq:xs.map unS=q at *
  subst hm
  simp only[List.length_map] at *
  rw[z1b PV.str (show (z12 L a q.length).toNat<q.length by omega)]
  simp [z16,List.getD,show (z12 L a q.length).toNat<q.length by omega]
 simp only[zjq,go_sem,z1X hid hp,e4,e5]
theorem z9v (hid:id<h.length) (hp:posN 0 a) {xs:List PV} (hx:xs.all isS=true) (hl:0<xs.length) (hl2:xs.length<4611686018427387904) :
 z0c X z1h [.ref id 0,.p (.sl none xs)] (h.set id (strm L a)) K=K (AS (z16 (xs.map unS) L a)) (h.set id (strm L (a+1))) []:=(zls hp xs hx hl hl2).set hid
theorem z9u (hid:id<h.length) (hp:posN 0 a) {xs:List PV} (hx:xs.all isS=true) (hl:0<xs.length) (hl2:xs.length<4611686018427387904) :
 z0c X z1h [.ref id 0,.p (.sl none xs)] (h.set id (strm L a)++l) K=K (AS (z16 (xs.map unS) L a)) (h.set id (strm L (a+1))++l) []:=(zls hp xs hx hl hl2).app hid
theorem zcx (hp:posN 0 a) {xs:List PV} (hx:xs.all isS=true) (hl:0<xs.length) (hl2:xs.length<4611686018427387904) :
 z0c X z1h [.ref 0 0,.p (.sl none xs)] (strm L a::l) K=K (AS (z16 (xs.map unS) L a)) (strm L (a+1)::l) []:=(zls hp xs hx hl hl2).hd
attribute [go_sem ↓] z9v z9u zcx
attribute [go_sem] z9v z9u zcx isS unS
end Go.Am
end
section
/- What is drawn: strings,limits. -/
open Go
set_option linter.unusedSimpArgs false
namespace Go.Am
variable {L:List Int} {a:Int} {h l:Heap} {id:Nat} {K:Post}
end Go.Am
end
section
/- Sorting records: printed by program. -/
open Go
set_option linter.unusedSimpArgs false
namespace Go.Am
attribute [-go_sem] PV.cells splice
variable {h:Heap} {K:Post}
end Go.Am
end
section
/- Leaving out what is alike: printed by program. -/
open Go
set_option linter.unusedSimpArgs false
namespace Go.Am
attribute [-go_sem] PV.cells splice
variable {h:Heap} {K:Post}
end Go.Am
end
section
/- What is drawn: records. -/
open Go
set_option linter.unusedSimpArgs false
namespace Go.Am
variable {L:List Int} {a:Int} {h l:Heap} {id:Nat} {K:Post}
theorem ziZ {b:Nat} {x:Esc} (hx:∀ y∈x,b≤y.1):∀ k,z11 k x b=b:=by
 have hb:bump x b=b:=by
  unfold bump
  induction x with
  | nil=>rfl
  | cons y r ih=>
   simp only[List.foldl_cons]
   rw[if_neg (by have:=hx y (by simp);omega)]
   exact ih (fun z hz=>hx z (by simp [hz]))
 intro k
 induction k with
 | zero=>rfl
 | succ k ih=>unfold z11;rw[hb,ih]
theorem zoB {b i t:Nat} {x0:Esc} {e:List (Nat × AV)} {h:Heap} (hi:i<b):z5S b x0 ⟨e,h,[(i,t)]⟩=⟨z8x (max b t) e,h.take (max b t),(i,t)::x0⟩:=by
 unfold z5S
 have hb:z11 [(i,t)].length [(i,t)] b=max b t:=by simp [z11,bump,hi]
 simp only[hb]
 have hc:z0I [(i,t)] (max b t)=true:=by simp [z0I];omega
 have hf:[(i,t)].filter (fun y=>decide (y.1<max b t))=[(i,t)]:=by simp;omega
 rw[if_pos hc,hf];rfl
end Go.Am
end
section
/- Merging two ordered lists: by sorting and leaving out what is alike,and by looking each one up. Plain lists. -/
namespace Go.Am
variable {α:Type}
structure Ordr (c:α→α→Int):Prop where
 neg:∀ a b,c b a = - c a b
 trans:∀ a b d,c a b≤0→c b d≤0→c a d≤0
theorem Ordr.refl {c:α→α→Int} (o:Ordr c) (a:α):c a a=0:=by have:=o.neg a a;omega
variable {c:α→α→Int} {q:α→α→Bool} {a b:List α}
end Go.Am
end
section
/- Records alike;copies;bins. -/
open Go
set_option linter.unusedSimpArgs false
namespace Go.Am
variable {h:Heap} {K:Post}
def zuH (a b:Rec):Bool:=decide (a.unit=b.unit)&&(decide (a.time=b.time)&&(decide (a.site=b.site)&&decide (a.res=b.res)))
theorem zos (a b:Rec):zuH a b=true↔a=b:=by
 cases a;cases b
 simp [zuH]
theorem zaj {b:Nat} {P:Post} {vs:List AV} {h:Heap} {x:Esc} (hx:∀ y∈x,b≤y.1) {v:AV} (h1:reif b h (z0D vs)=some v) (h2:v.top≤b):retK false b P (some vs) h x=P v (h.take b) []:=by
 have e:max b v.top=b:=by omega
 have c:z0I x b=true:=by
  unfold z0I
  rw[List.all_eq_true]
  intro y hy
  simp [hx y hy]
 have f:x.filter (fun y=>decide (y.1<b))=[]:=by
  rw[List.filter_eq_nil_iff]
  intro y hy
  have:=hx y hy
  simp;omega
 simp only[retK,h1,e,ziZ hx,c,if_true,f]
 exact propext ⟨fun h=>h.2,fun h=>⟨h2,h⟩⟩
theorem zuA (l:List Int) (hl:l.length≤1000):z0c X z7q [AL l] h K=K (AI (orL l)) h []:=by
 refine rule ?_
 rw[c_q002 rfl]
 simp only[zet,go_sem]
 refine z0Y (fun k:Nat=>⟨[(5,AL l),(6,AI l.length),(7,AI k)],h,[]⟩) (fun k=>k≤l.length∧orL (l.drop k)=orL l) (fun k=>l.length-k) 0 rfl ⟨by omega,rfl⟩ ?_
 rintro k ⟨hk,hp⟩
 rcases Nat.lt_or_ge k l.length with hlt | hge
 ·have g2:=z1b eI hlt
  have w2:IntKind.i64.wrap ((k:Int)+1)=((k+1:Nat):Int):=z0l _ (by omega) (by omega)
  rw[List.drop_eq_getElem_cons hlt,orL] at hp
  by_cases hz:l[k]=0
  ·rw[if_neg (by simp [hz])] at hp
   simp only[go_sem,hlt,g2,hz,w2]
   exact⟨k+1,rfl,⟨by omega,hp⟩,by omega⟩
  ·rw[if_pos hz] at hp
   simp only[go_sem,hlt,g2,hz]
   rw[hp]
 ·have ek:k=l.length:=by omega
  subst ek
  rw[List.drop_length] at hp
  simp only[go_sem,Nat.lt_irrefl]
  rw[← hp];rfl
end Go.Am
end
section
/- Sorting numbers: printed by program. -/
open Go
set_option linter.unusedSimpArgs false
namespace Go.Am
attribute [-go_sem] PV.cells splice
variable {h:Heap} {K:Post}
end Go.Am
end
section
/- Bins,both ways;lists joined;records sorted. -/
open Go
set_option linter.unusedSimpArgs false
namespace Go.Am
variable {h:Heap} {K:Post}
end Go.Am
end
section
/- Lists of records joined,compared,merged. -/
open Go
set_option linter.unusedSimpArgs false
namespace Go.Am
variable {h:Heap} {K:Post}
instance:DecidableEq Rec:=fun a b=>decidable_of_iff (zuH a b=true) (zos a b)
end Go.Am
end
section
/- Records merged asv the reference does it. -/
open Go
set_option linter.unusedSimpArgs false
namespace Go.Am
variable {h:Heap} {K:Post}
end Go.Am
end
section
/- Retests: which record of a unit counts. Plain lists;both ways yield the same. -/
set_option linter.all false
namespace Go.Am
end Go.Am
end
section
/- Lists of strings. -/
open Go
set_option linter.all false
namespace Go.Am
variable {h:Heap} {K:Post}
abbrev AStr (us:List (List UInt8)):AV:=.p (.sl none (us.map PV.str))
theorem zqU {us:List (List UInt8)}:shps none (us.map PV.str):=fun x hx=>by obtain⟨n,_,rfl⟩:=List.mem_map.1 hx;rfl
end Go.Am
end
section
/- The abstract machine,part L4: strings.Repeat,strings.Trim,math/bits.TrailingZeros64 asv rows. -/
set_option linter.all false
namespace Go.Am
variable {P:Program} {gl:Nat→Option PV}
open Go.Shelf
theorem ziK {w w':World} (h:Go.RowKit.Below w.heap.size w w'):WExt w w':=⟨h.size,fun b hb=>h.block b hb,by unfold zed;rw[h.os,h.tape,h.output]⟩
theorem zqn (s cs:List UInt8):Go.Lib.trimS s cs=trimL s cs:=rfl
theorem trimRow {ρ:Ren} (L:Go.Proofs.Lays.n160 P ρ) (h116:(P.info? (ρ.t 116)).map (fun i=>(i.zero,i.size))=some (some (.agg (Array.replicate 256 (.bool false))),256)) (he:∀ us w,(callFunc (ρ.f 160) us).run P w = .ok (.enter (ρ.f 160) us) w):PureRow P gl (ρ.f 160) trimS where
 enter:=he
 run M w vs r us hc hb hG hl hr hs:=by
  unfold trimS at hs
  split at hs
  ·rename_i s cs
   split at hs
   ·rename_i hbd
    match us,hl with
    | [u,v],_=>
     have q:=hr 0 _ u rfl rfl
     cases q
     have q2:=hr 1 _ v rfl rfl
     cases q2
     simp only[Option.some.injEq] at hs
     subst hs
     have hsz:∀ l:List UInt8,(⟨l.toArray⟩:ByteArray).size=l.length:=fun l=>by simp [ByteArray.size]
     refine (Go.Proofs.Any.strings_Trim_laid L h116 ⟨s.toArray⟩ ⟨cs.toArray⟩ w (by rw[hsz];omega) (by rw[hsz];omega) (Go.Proofs.ascii_of_all hbd.2.2)).mono fun e w' h=>?_
     obtain⟨rfl,h⟩:=h
     exact⟨_,rfl,ziK h,by rw[← zqn];exact .p _ _ (.str _)⟩
   ·cases hs
  ·cases hs
end Go.Am
end
section
/- The abstract machine,part L5: strings.Count at one byte,strings.Join asv rows. -/
set_option linter.all false
namespace Go.Am
variable {P:Program} {gl:Nat→Option PV}
open Go.Shelf
end Go.Am
end
section
/- Texts split at a byte. -/
open Go
set_option linter.all false
namespace Go.Am
variable {h:Heap} {K:Post}
end Go.Am
end
section
/- Lines of a text. -/
open Go
set_option linter.all false
namespace Go.Am
variable {h:Heap} {K:Post}
end Go.Am
end
section
/- Numbers read. -/
open Go
set_option linter.all false
namespace Go.Am
variable {h:Heap} {K:Post}
end Go.Am
end
section
/- Several numbers read. -/
open Go
set_option linter.all false
namespace Go.Am
variable {h:Heap} {K:Post}
end Go.Am
end
section
/- Numbers read,the reference's way. -/
open Go
set_option linter.all false
namespace Go.Am
variable {h:Heap} {K:Post}
end Go.Am
end
section
/- Tests and faults: what is wrong with them,both ways. -/
open Go
set_option linter.all false
namespace Go.Am
variable {h:Heap} {K:Post}
end Go.Am
end
section
/- Faults: what is wrong with them,both ways. -/
open Go
set_option linter.all false
namespace Go.Am
variable {h:Heap} {K:Post}
def Flt.pv (f:Flt):PV:=.agg [eI f.kind,.sl none (f.nets.map eI)]
theorem IndexI {v:AV} (l:List Int) (hv:Shows none v (l.map eI) h) (x:Int) (hl:l.length≤1000000):z0c X z7u [v,AI x] h K=K (AI (if l.findIdx (fun y=>decide (y=x))<l.length then (l.findIdx (fun y=>decide (y=x)):Int) else -1)) h []:=by
 refine rule ?_
 rw[c_q05y]
 have vl:=hv.len
 rw[List.length_map] at vl
 simp only[ze3,go_sem,vl]
 refine z0Y (fun k:Nat=>⟨[(0,v),(1,AI x),(7,AI l.length),(8,AI k)],h,[]⟩) (fun k=>k≤l.length∧∀ y∈l.take k,decide (y=x)=false) (fun k=>l.length-k) 0 rfl (by simp) ?_
 rintro k ⟨hk,hn⟩
 rcases Nat.lt_or_ge k l.length with hlt | hge
 ·obtain⟨a,ha,hb⟩:=hv.get k (by simpa using hlt)
  rw[List.getElem_map] at hb
  have w2:IntKind.i64.wrap ((k:Int)+1)=((k+1:Nat):Int):=z0l _ (by omega) (by omega)
  by_cases hpk:x=l[k]
  ·have hf:l.findIdx (fun y=>decide (y=x))=k:=by
    rw[List.findIdx_eq hlt]
    refine⟨by simp [hpk],fun j hj=>?_⟩
    have:=hn l[j] (by rw[List.mem_take_iff_getElem];exact⟨j,by omega,rfl⟩)
    simpa using this
   simp only[go_sem,hlt,ha,hb,hpk.symm,w2]
   simp only[hf,hlt,if_true]
  ·simp only[go_sem,hlt,ha,hb,hpk,w2]
   refine⟨k+1,rfl,⟨by omega,fun y hy=>?_⟩,by omega⟩
   rw[List.take_succ_eq_append_getElem hlt,List.mem_append,List.mem_singleton] at hy
   rcases hy with hy | hy
   ·exact hn y hy
   ·rw[hy];simp;exact fun e=>hpk e.symm
 ·have e1:k=l.length:=by omega
  subst e1
  simp only[go_sem,Nat.lt_irrefl]
  rw[List.take_length] at hn
  have:¬ l.findIdx (fun y=>decide (y=x))<l.length:=by
   rw[Nat.not_lt,Nat.le_iff_lt_or_eq];right
   exact (List.findIdx_eq_length.2 (fun y hy=>by simp [hn y hy])).symm
  rw[if_neg this]
theorem zhv {v:AV} (l:List Int) (hv:∀ h':Heap,h'=h→Shows none v (l.map eI) h') (x:Int) (hl:l.length≤1000000):z0c X z4R [v,AI x] h K=K (AB (l.contains x)) h []:=by
 refine rule ?_
 rw[c_q05j]
 have e:=fun K=>IndexI (h:=h) (K:=K) l (hv h rfl) x hl
 have hd:decide (0≤(if l.findIdx (fun y=>decide (y=x))<l.length then (l.findIdx (fun y=>decide (y=x)):Int) else -1))=l.contains x:=by
  rw[Bool.eq_iff_iff,decide_eq_true_eq,List.contains_iff_mem]
  constructor
  ·intro hq
   split at hq
   ·rename_i hlt
    have:=List.findIdx_getElem (w:=hlt)
    simp only[decide_eq_true_eq] at this
    exact this ▸ List.getElem_mem hlt
   ·omega
  ·intro hm
   rw[if_pos (List.findIdx_lt_length_of_exists ⟨x,hm,by simp⟩)];omega
 simp only[zjw,go_sem,e,hd]
theorem zds (l:List Int) (x:Int) (hl:l.length≤1000000):z0c X z4R [AL l,AI x] h K=K (AB (l.contains x)) h []:=zhv l (fun h' _=>zao zuI) x hl
end Go.Am
end
section
/- Where a string stands among strings;words. -/
open Go
set_option linter.all false
namespace Go.Am
variable {h:Heap} {K:Post}
theorem zri {v:AV} (l:List (List UInt8)) (hv:Shows none v (l.map PV.str) h) (x:List UInt8) (hl:l.length≤1000000):z0c X z4S [v,AS x] h K=K (AI (if l.findIdx (fun y=>decide (y=x))<l.length then (l.findIdx (fun y=>decide (y=x)):Int) else -1)) h []:=by
 refine rule ?_
 rw[c_q05z]
 have vl:=hv.len
 rw[List.length_map] at vl
 simp only[ze4,go_sem,vl]
 refine z0Y (fun k:Nat=>⟨[(0,v),(1,AS x),(7,AI l.length),(8,AI k)],h,[]⟩) (fun k=>k≤l.length∧∀ y∈l.take k,decide (y=x)=false) (fun k=>l.length-k) 0 rfl (by simp) ?_
 rintro k ⟨hk,hn⟩
 rcases Nat.lt_or_ge k l.length with hlt | hge
 ·obtain⟨a,ha,hb⟩:=hv.get k (by simpa using hlt)
  rw[List.getElem_map] at hb
  have w2:IntKind.i64.wrap ((k:Int)+1)=((k+1:Nat):Int):=z0l _ (by omega) (by omega)
  by_cases hpk:x=l[k]
  ·have hf:l.findIdx (fun y=>decide (y=x))=k:=by
    rw[List.findIdx_eq hlt]
    refine⟨by simp [hpk],fun j hj=>?_⟩
    have:=hn l[j] (by rw[List.mem_take_iff_getElem];exact⟨j,by omega,rfl⟩)
    simpa using this
   simp only[go_sem,hlt,ha,hb,hpk.symm,w2]
   simp only[hf,hlt,if_true]
  ·simp only[go_sem,hlt,ha,hb,hpk,w2]
   refine⟨k+1,rfl,⟨by omega,fun y hy=>?_⟩,by omega⟩
   rw[List.take_succ_eq_append_getElem hlt,List.mem_append,List.mem_singleton] at hy
   rcases hy with hy | hy
   ·exact hn y hy
   ·rw[hy];simp;exact fun e=>hpk e.symm
 ·have e1:k=l.length:=by omega
  subst e1
  simp only[go_sem,Nat.lt_irrefl]
  rw[List.take_length] at hn
  have:¬ l.findIdx (fun y=>decide (y=x))<l.length:=by
   rw[Nat.not_lt,Nat.le_iff_lt_or_eq];right
   exact (List.findIdx_eq_length.2 (fun y hy=>by simp [hn y hy])).symm
  rw[if_neg this]
theorem zhw {v:AV} (l:List (List UInt8)) (hv:∀ h':Heap,h'=h→Shows none v (l.map PV.str) h') (x:List UInt8) (hl:l.length≤1000000):z0c X z6l [v,AS x] h K=K (AB (l.contains x)) h []:=by
 refine rule ?_
 rw[c_q05k]
 have e:=fun K=>zri (h:=h) (K:=K) l (hv h rfl) x hl
 have hd:decide (0≤(if l.findIdx (fun y=>decide (y=x))<l.length then (l.findIdx (fun y=>decide (y=x)):Int) else -1))=l.contains x:=by
  rw[Bool.eq_iff_iff,decide_eq_true_eq,List.contains_iff_mem]
  constructor
  ·intro hq
   split at hq
   ·rename_i hlt
    have:=List.findIdx_getElem (w:=hlt)
    simp only[decide_eq_true_eq] at this
    exact this ▸ List.getElem_mem hlt
   ·omega
  ·intro hm
   rw[if_pos (List.findIdx_lt_length_of_exists ⟨x,hm,by simp⟩)];omega
 simp only[zjx,go_sem,e,hd]
theorem strS (ws:List (List UInt8)) {h:Heap}:Shows none (AStr ws) (ws.map PV.str) h:=zao zqU
end Go.Am
end
section
/- Numbers written,joined. -/
open Go
set_option linter.all false
namespace Go.Am
variable {h:Heap} {K:Post}
end Go.Am
end
section
/- A builder of strings. -/
open Go
set_option linter.all false
namespace Go.Am
variable {h:Heap} {K:Post}
theorem znY {b:Nat}:reif b h .nili=some .nili:=by simp only[reif]
attribute [local go_sem] znY
theorem set_id {o:Obj} {id:Nat} (hh:h[id]?=some o):h.set id o=h:=by
 apply List.ext_getElem?
 intro j
 by_cases e:id=j
 ·subst e;rw[List.getElem?_set_self (z7C hh),hh]
 ·rw[List.getElem?_set_ne e]
end Go.Am
end
section
/- Numbers asv sets of bits;rows of a test asv numbers. -/
set_option linter.all false
namespace Go.Am
end Go.Am
end
section
/- Lists of faults: what is wrong with them,both ways. -/
open Go
set_option linter.all false
namespace Go.Am
variable {h:Heap} {K:Post}
end Go.Am
end
section
/- Rows of a test asv numbers. -/
open Go
set_option linter.all false
namespace Go.Am
variable {h:Heap} {K:Post}
end Go.Am
end
section
/- Faults on rows: what the program makes of them. -/
open Go
set_option linter.all false
namespace Go.Am
variable {h:Heap} {K:Post}
end Go.Am
end
section
/- Rows that are handed tov a function: it sees their values. -/
open Go
namespace Go.Am
theorem ztc {X:Ctx} {f:Nat} {F:AFun} {a:List AV} {vs:List PV} {h h1:Heap} {P:Post} (hf:X.fn f=some F) (hr:F.byref=false) (hp:z0u h a=some (vs.map .p,h1)) (hq:z0u h1 (vs.map .p)=some (vs.map .p,h1)) (hl:vs.length=F.nparams) (hlen:h1.length=h.length):z0c X f a h P=z0c X f (vs.map .p) h1 P:=by
 cases hd:F.isDet with
 | false=>rw[z0j hf hr hp (by simpa using hl) hd,z0j hf hr hq (by simpa using hl) hd,hlen]
 | true=>rw[z2o hf hr hp (by simpa using hl) hd,z2o hf hr hq (by simpa using hl) hd,hlen]
theorem ztJ {h:Heap} {id k:Nat}:(frz h id k).length=h.length:=by
 unfold frz
 split <;> simp
end Go.Am
end
section
/- Responses,asv the program computes them. -/
open Go
set_option linter.all false
namespace Go.Am
variable {h:Heap} {K:Post}
end Go.Am
end
section
/- Faults written. -/
open Go
set_option linter.all false
namespace Go.Am
variable {h:Heap} {K:Post}
end Go.Am
end
section
/- Sorting the middle of a row: printed by program. -/
open Go
set_option linter.unusedSimpArgs false
namespace Go.Am
attribute [-go_sem] PV.cells splice
variable {h:Heap} {K:Post}
end Go.Am
end
section
/- What is drawn: orders,tests. -/
open Go
set_option linter.all false
namespace Go.Am
variable {L:List Int} {a:Int} {h l:Heap} {id:Nat} {K:Post}
def GenK (f:Nat) (args:List AV) (L:List Int) (a:Int) (sh:Sh) (Q:List PV→Int→Prop):Prop:=∀ (h:Heap) (id:Nat),h[id]?=some (strm L a)→∃ xs a2,Q xs a2∧∀ K:Post,z0c X f (.ref id 0::args) h K=K (.own h.length xs.length 0 xs.length) (h.set id (strm L a2)++[.row sh xs 0]) []
theorem GenK.of {f:Nat} {args:List AV} {L:List Int} {a:Int} {sh:Sh} {Q:List PV→Int→Prop} (H:∀ (h:Heap) (id:Nat),id<h.length→z0c X f (.ref id 0::args) (h.set id (strm L a)) fun v1 h1 x1=>∃ xs a2,Q xs a2∧v1 = .own h.length xs.length 0 xs.length∧h1=h.set id (strm L a2)++[.row sh xs 0]∧x1=[]):GenK f args L a sh Q:=by
 intro h id hh
 have hid:=z7C hh
 have k:=H h id hid
 rw[zf8 hh] at k
 obtain⟨v,h',x,⟨xs,a2,q,e0,e1,e2⟩,r⟩:=z0c.one zdB k
 subst e0;subst e1;subst e2
 exact⟨xs,a2,q,r⟩
end Go.Am
end
section
/- A text changed at random. -/
open Go
set_option linter.all false
namespace Go.Am
variable {L:List Int} {a:Int} {h l:Heap} {id:Nat} {K:Post}
end Go.Am
end
section
/- Entries written. -/
open Go
set_option linter.all false
set_option maxRecDepth 100000
namespace Go.Am
variable {h:Heap} {K:Post}
theorem z6g:∀ {rs:List Ent} {p:Option Ent},z0B p rs=0→∀ r∈rs,entF r=0
 | [],p,_,r,hr=>by cases hr
 | x::rs,p,hf,r,hr=>by
  have e:z0B p (x::rs)=(if entF x≠0 then entF x else if (p.elim false fun q=>decide (z0U x q≤0))=true then 7 else z0B (some x) rs):=by cases p <;> rfl
  have hf':=hf
  rw[e] at hf'
  by_cases h1:entF x=0
  ·rw[if_neg (by simp [h1])] at hf'
   by_cases h2:(p.elim false fun q=>decide (z0U x q≤0))=true
   ·rw[if_pos h2] at hf';exact absurd hf' (by decide)
   ·rw[if_neg h2] at hf'
    rcases List.mem_cons.1 hr with e | e
    ·rw[e];exact h1
    ·exact z6g hf' r e
  ·rw[if_pos h1] at hf';exact absurd hf' h1
theorem zkR {rs:List Ent} (hf:z3s rs=0):∀ r∈rs,entF r=0:=by
 unfold z3s at hf
 split at hf
 ·cases hf
 split at hf
 ·rename_i h;exact absurd hf h
 ·rename_i h
  exact z6g (by simpa using h)
end Go.Am
end
section
/- A text taken line by line: base.Each,scanref2.Lines. -/
open Go
set_option linter.all false
namespace Go.Am
variable {h:Heap} {K:Post}
end Go.Am
end
section
/- Faults read. -/
open Go
set_option linter.all false
namespace Go.Am
variable {h:Heap} {K:Post}
end Go.Am
end
section
/- Lists of faults read. -/
open Go
set_option linter.all false
namespace Go.Am
variable {h:Heap} {K:Post}
end Go.Am
end
section
/- fault.Read,scanref2.FaultsRead. -/
open Go
set_option linter.all false
namespace Go.Am
variable {h:Heap} {K:Post}
end Go.Am
end
section
/- What is drawn: faults. -/
open Go
set_option linter.all false
namespace Go.Am
variable {L:List Int} {a:Int} {h l:Heap} {id:Nat} {K:Post}
end Go.Am
end
section
/- Deleting faults: printed by program. -/
open Go
set_option linter.unusedSimpArgs false
namespace Go.Am
attribute [-go_sem] PV.cells splice
variable {h:Heap} {K:Post}
attribute [-go_sem] AV.cells cut
attribute [go_sem] AV.cells cut
end Go.Am
end
section
/- What is drawn: lists of faults. -/
open Go
set_option linter.all false
namespace Go.Am
variable {L:List Int} {a:Int} {h l:Heap} {id:Nat} {K:Post}
end Go.Am
end
section
/- Stable sorts of numbers: printed by program. -/
open Go
set_option linter.unusedSimpArgs false
namespace Go.Am
attribute [-go_sem] PV.cells splice
variable {h:Heap} {K:Post}
end Go.Am
end
section
/- Faults compared;texts of faults drawn. -/
open Go
set_option linter.all false
namespace Go.Am
variable {L:List Int} {a:Int} {h:Heap} {K:Post}
end Go.Am
end
section
/- Entries written,the reference;kinds read. -/
open Go
set_option linter.all false
set_option maxRecDepth 100000
namespace Go.Am
variable {h:Heap} {K:Post}
end Go.Am
end
section
/- A line of an entry read: the program. -/
open Go
set_option linter.all false
set_option maxRecDepth 100000
namespace Go.Am
variable {h:Heap} {K:Post}
end Go.Am
end
section
/- A line of an entry read: the reference. -/
open Go
set_option linter.all false
set_option maxRecDepth 100000
namespace Go.Am
variable {h:Heap} {K:Post}
end Go.Am
end
section
/- Records asv texts,plainly: read both ways. -/
set_option linter.all false
namespace Go.Am
end Go.Am
end
section
/- Records read: a line,both ways. -/
open Go
set_option linter.all false
set_option maxRecDepth 100000
namespace Go.Am
variable {h:Heap} {K:Post}
end Go.Am
end
section
/- Records read: the program's line. -/
open Go
set_option linter.all false
set_option maxRecDepth 100000
namespace Go.Am
variable {h:Heap} {K:Post}
end Go.Am
end
section
/- Records read: all lines. -/
open Go
set_option linter.all false
set_option maxRecDepth 100000
namespace Go.Am
variable {h:Heap} {K:Post}
end Go.Am
end
section
/- lot.Read,scanref2.RecordsRead. -/
open Go
set_option linter.all false
set_option maxRecDepth 100000
namespace Go.Am
variable {h:Heap} {K:Post}
end Go.Am
end
section
/- scanref2.RecordsRead. -/
open Go
set_option linter.all false
set_option maxRecDepth 100000
namespace Go.Am
variable {h:Heap} {K:Post}
end Go.Am
end
section
/- Entries read,both ways. -/
open Go
set_option linter.all false
set_option maxRecDepth 100000
namespace Go.Am
variable {h:Heap} {K:Post}
end Go.Am
end
section
/- Entries drawn: their pieces. -/
open Go
set_option linter.all false
set_option maxRecDepth 100000
namespace Go.Am
variable {L:List Int} {a:Int} {h l:Heap} {id:Nat} {K:Post}
attribute [-go_sem] oEqa
structure EntV (x:Ent):Prop where
 s:x.site.length≤1000
 b:x.board.length≤1000
 p:x.step.length≤1000
 o:x.of.length≤1000
 n : -100000000000000000≤x.no∧x.no≤100000000000000000
 t : -100000000000000000≤x.time∧x.time≤100000000000000000
 z:x.site≠[122,122]∧(x.time≤1000∨345686399999<x.time)
theorem g_OddZ (hp:posN 14 a) (u v:Int) (huv:u≤v) (hu : -1000000000000≤u) (hv:v≤1000000000000):∃ k a2:Int,a≤a2∧a2≤a+2 ∧ -1099511627776≤k∧k≤1099511627776∧(k≤v+1∨k=1099511627776) ∧
 Gen z26 [AI u,AI v] L a a2 (AI k):=by
 have w1:IntKind.i64.wrap (u-1)=u-1:=z0l _ (by omega) (by omega)
 have w2:IntKind.i64.wrap (v+1)=v+1:=z0l _ (by omega) (by omega)
 by_cases hf:z12 L a 12=0
 ·have hm:=z7Z (L:=L) (a:=a+1) (l:=[u-1,v+1,u,v,-1099511627776,1099511627776]) (by simp) (by simp)
  simp only[List.mem_cons,List.not_mem_nil,or_false] at hm
  refine⟨z4c [u-1,v+1,u,v,-1099511627776,1099511627776] L (a+1),a+1+1,by omega,by omega,by omega,by omega,by omega,Gen.of fun h id hid=>?_⟩
  rw[zel rfl]
  simp only[z8I,go_sem,hid,z55 hp,hf,w1,w2]
 ·have hm:=z2T L (a+1) huv (by omega)
  refine⟨z1i u v L (a+1),a+1+1,by omega,by omega,by omega,by omega,by omega,Gen.of fun h id hid=>?_⟩
  rw[zel rfl]
  simp only[z8I,go_sem,hid,z55 hp,hf,w1,w2,huv,show -1152921504606846976≤u by omega,show v≤1152921504606846976 by omega]
theorem EntV.ok {x:Ent} (v:EntV x):EntOk x:=⟨by have:=v.s;omega,by have:=v.b;omega,by have:=v.p;omega,by have:=v.o;omega⟩
theorem zal (a b:Ent) (ha:EntV a) (hb:EntV b):z0c X z4i [.p a.pv,.p b.pv] h K=K (AI (z0U a b)) h []:=by
 refine rule ?_
 rw[zrC rfl]
 have a1:=ha.t
 have a2:=hb.t
 have a3:=ha.n
 have a4:=hb.n
 have w:IntKind.i64.wrap (a.time-b.time)=a.time-b.time:=z0l _ (by omega) (by omega)
 have w2:IntKind.i64.wrap (a.no-b.no)=a.no-b.no:=z0l _ (by omega) (by omega)
 unfold z0U
 by_cases he:a.time=b.time
 ·have:cmp3 a.time b.time=0:=by rw[he];unfold cmp3;simp
  rw[if_neg (by simp [this])]
  by_cases hs:a.site=b.site
  ·have hc:cmpL a.site b.site=0:=by rw[hs];exact z4C _
   rw[if_neg (by simp [hc]),z4B]
   simp only[z6d,Ent.pv,go_sem,he,hs,w2,zf2]
  ·have hc:cmpL a.site b.site≠0:=fun e=>hs (z5K e)
   rw[if_pos hc]
   simp only[z6d,Ent.pv,go_sem,he,hs,z3H]
 ·have hc:cmp3 a.time b.time≠0:=by unfold cmp3;split <;> (try split) <;> omega
  rw[if_pos hc]
  rw[z4B]
  simp only[z6d,Ent.pv,go_sem,he,w,zf2]
theorem z1z {l:List (List UInt8)} (hl:0<l.length) (hl2:l.length<100) (m:Nat) (h:∀ s∈l,s.length≤m):(z16 l L a).length≤m:=h _ (z7Y hl (by omega))
set_option maxHeartbeats 4000000 in
theorem zkO (hid:id<h.length) (hp:posN 60 a) (es:List Ent) (hes:es.length≤1000) (x:Ent) (hx:EntV x) (M:Obj) (v6 v11 v12:AV) (K:Ex→St→Prop)
 (hK:∀ (x':Ent) (a':Int) (J:Heap),EntV x'→a≤a'→a'≤a+10 →
  K .normal ⟨[(0,.ref id 0),(5,.own h.length (es.length+1) 0 (es.length+1)),(6,v6),(7,.mp (h.length+1)),(11,v11),(12,v12)],h.set id (strm L a') ++ .row (some 8) (es.map Ent.pv++[x'.pv]) 0::M::J,[]⟩) :
 z1t (z0c X) X.gl z5i (.ref id 0) (.own h.length es.length 0 es.length) v6 (.mp (h.length+1)) (.ref (h.length+2) 0) v11 v12
  (h.set id (strm L a)++[.row (some 8) (es.map Ent.pv) 0,M,x.box]) [] K:=by
 have P:=z55 (z0Q hp (Int.le_refl a) (by omega))
 have hmx:es.length+1≤z0V:=by unfold z0V;omega
 have e1:h.length+1<h.length+3+1:=by omega
 obtain⟨site,no,time,kind,board,step,of,other⟩:=x
 obtain⟨xs,xb,xp,xo,xn,xt,xz⟩:=hx
 dsimp only at xs xb xp xo xn xt xz
 unfold Ent.box
 dsimp only
 by_cases hf:z12 L a 100=0
 ·by_cases h0:z12 L (a+1) 3=0
  ·obtain⟨kv,a3,c1,c2,c3,c4,O⟩:=ztL (L:=L) (a:=a+1+1+1) (z0Q hp (by omega) (by omega)) 1 9 (by omega) (by omega) (by omega)
   have O':=fun l K=>O.app (h:=h) (id:=id) (l:=l) (K:=K) hid
   obtain⟨kv2,a4,d1,d2,d3,d4,d5,O2⟩:=g_OddZ (L:=L) (a:=a3) (z0Q hp (by omega) (by omega)) 0 100 (by omega) (by omega) (by omega)
   have O2':=fun l K=>O2.app (h:=h) (id:=id) (l:=l) (K:=K) hid
   have p1:(z16 [[],site] L (a+1+1)).length≤1000:=z1z (by simp) (by simp) 1000 (fun s hs=>by simp only[List.mem_cons,List.not_mem_nil,or_false] at hs;rcases hs with e | e <;> rw[e] <;> first | omega | simp)
   have p9:z16 [[],site] L (a+1+1)≠[122,122]:=fun e=>by
    have:=z7Y (l:=[[],site]) (L:=L) (a:=a+1+1) (by simp) (by simp)
    simp only[List.mem_cons,List.not_mem_nil,or_false] at this
    rw[e] at this
    rcases this with h | h
    ·cases h
    ·exact xz.1 h.symm
   simp only[z1t,go_sem,hid,P,hf,h0,↓O',O',↓O2',O2',hmx]
   exact hK ⟨z16 [[],site] L (a+1+1),kv,kv2,kind,board,step,of,other⟩ a4 _ ⟨p1,xb,xp,xo,by dsimp only;omega,by dsimp only;omega,p9,by dsimp only;omega⟩ (by omega) (by omega)
  ·by_cases h1:z12 L (a+1) 3=1
   ·obtain⟨kv,a3,c1,c2,c3,c4,O⟩:=ztL (L:=L) (a:=a+1+1) (z0Q hp (by omega) (by omega)) 1 7 (by omega) (by omega) (by omega)
    have O':=fun l K=>O.app (h:=h) (id:=id) (l:=l) (K:=K) hid
    have P2:=z55 (z0Q hp (show a≤a3 by omega) (show a3+14≤a+60 by omega))
    have p1:(z16 [[],[65],board] L a3).length≤1000:=z1z (by simp) (by simp) 1000 (fun s hs=>by simp only[List.mem_cons,List.not_mem_nil,or_false] at hs;rcases hs with e | e | e <;> rw[e] <;> first | omega | simp)
    have p2:(z16 [[],[115,99,97,110]] L (a3+1)).length≤1000:=z1z (by simp) (by simp) 1000 (fun s hs=>by simp only[List.mem_cons,List.not_mem_nil,or_false] at hs;rcases hs with e | e <;> rw[e] <;> simp)
    simp only[z1t,go_sem,hid,P,P2,hf,h0,h1,↓O',O',hmx]
    exact hK ⟨site,no,time,kv,z16 [[],[65],board] L a3,z16 [[],[115,99,97,110]] L (a3+1),of,other⟩ (a3+1+1) _ ⟨xs,p1,p2,xo,xn,xt,xz⟩ (by omega) (by omega)
   ·obtain⟨kv,a3,c1,c2,c3,c4,O⟩:=ztL (L:=L) (a:=a+1+1+1) (z0Q hp (by omega) (by omega)) 0 5 (by omega) (by omega) (by omega)
    have O':=fun l K=>O.app (h:=h) (id:=id) (l:=l) (K:=K) hid
    have p1:(z16 [[],[115,97]] L (a+1+1)).length≤1000:=z1z (by simp) (by simp) 1000 (fun s hs=>by simp only[List.mem_cons,List.not_mem_nil,or_false] at hs;rcases hs with e | e <;> rw[e] <;> simp)
    simp only[z1t,go_sem,hid,P,hf,h0,h1,↓O',O',hmx]
    exact hK ⟨site,no,time,kind,board,step,z16 [[],[115,97]] L (a+1+1),kv⟩ a3 _ ⟨xs,xb,xp,p1,xn,xt,xz⟩ (by omega) (by omega)
 ·simp only[z1t,go_sem,hid,P,hf,hmx]
  exact hK ⟨site,no,time,kind,board,step,of,other⟩ (a+1) _ ⟨xs,xb,xp,xo,xn,xt,xz⟩ (by omega) (by omega)
end Go.Am
end
