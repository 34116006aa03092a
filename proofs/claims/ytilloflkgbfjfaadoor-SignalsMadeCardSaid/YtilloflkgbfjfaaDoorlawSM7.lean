/- Texts of the proof, laid together: Ctx, SpStream, SpMap, SpPath, PSort, PFlt, PBits, PWalk, PVec, PVec2, PVec3, PVec4, MathFrac, SpBase, SpList, SpShp, SpStr, SpWalk, SpLen, SpStrs, SpFind, SpLimD, SpLim, SpLotA, SpRecD, SpGenA, SpSome, SpGenL, SpRec, SpSortRec, SpCompact, SpGenR, PMerge, SpMrgA, SpSort, SpMrgB, SpMrgC, SpMrgD, PFin, SpTxt, SpFlt1, SpFlt2, SpVec1. -/
import Derived.Test.YtilloflkgbfjfaaDoorlawSM6
set_option linter.all false
section
/- The functions together. -/
set_option linter.unusedVariables false
set_option maxRecDepth 100000
namespace Go.Am
def fns : List (Nat × AFun):=[(f_q00a,a_q00a),(f_q00e,a_q00e),(f_q00j,a_q00j),(f_q025,a_q025),(f_q026,a_q026),(f_q027,a_q027),(f_q023,a_q023),(f_q00q,a_q00q),(f_q00s,a_q00s),(f_q00t,a_q00t),(f_q00r,a_q00r),(f_q024,a_q024),(f_q016,a_q016),(f_q00b,a_q00b),(f_q00d,a_q00d),(f_q00f,a_q00f),(f_q00i,a_q00i),(f_q00g,a_q00g),(f_q02b,a_q02b),(f_q02i,a_q02i),(f_q00u,a_q00u),(f_q00z,a_q00z),(f_q01b,a_q01b),(f_q01a,a_q01a),(f_q00n,a_q00n),(f_q001,a_q001),(f_q02a,a_q02a),(f_q00l,a_q00l),(f_q00h,a_q00h),(f_q00k,a_q00k),(f_q00c,a_q00c),(f_q02k,a_q02k),(f_q02e,a_q02e),(f_q012,a_q012),(f_q00w,a_q00w),(f_q00p,a_q00p),(f_q010,a_q010),(f_q00y,a_q00y),(f_q01c,a_q01c),(f_q00o,a_q00o),(f_q02j,a_q02j),(f_q028,a_q028),(f_q02g,a_q02g),(f_q000,a_q000),(f_q029,a_q029),(f_q02h,a_q02h),(f_q02d,a_q02d),(f_q02f,a_q02f),(f_q02c,a_q02c),(f_q015,a_q015),(f_q00x,a_q00x),(f_q00m,a_q00m),(f_q00v,a_q00v),(f_q01s,a_q01s),(f_q017,a_q017),(f_q01g,a_q01g),(f_q01t,a_q01t),(f_q01v,a_q01v),(f_q006,a_q006),(f_q01u,a_q01u)]
def GRL : List (Nat × Sh):=[]
def PRL : PureT:=[(f_q011,settingS),(f_q01i,repeatS),(f_q01j,trimS)]
def GLL : List (Nat × PV):=[]
def fnOf : List (Nat × AFun) → Nat → Option AFun
  | [],_=>none
  | (k,F) :: r,n=>bif Nat.beq k n then some F else fnOf r n
def X : Ctx:=⟨fnOf fns,glOf GLL,extF f_internal_bytealg_IndexByteString f_internal_bytealg_abigen_runtime_cmpstring,libF GRL PRL⟩
theorem fnOf_all {p : Nat → AFun → Bool} : ∀ (l : List (Nat × AFun)),(l.all fun y=>p y.1 y.2) = true → ∀ n F,fnOf l n = some F → p n F = true
  | [],_,n,F,h=>by cases h
  | (k,G) :: r,ha,n,F,h=>by
    simp only [List.all_cons,Bool.and_eq_true] at ha
    simp only [fnOf] at h
    cases hk : Nat.beq k n with
    | true=>
      rw [hk] at h
      have:=Nat.eq_of_beq_eq_true hk
      simp only [cond_true,Option.some.injEq] at h
      subst this; subst h; exact ha.1
    | false=>
      rw [hk] at h
      exact fnOf_all r ha.2 n F h
theorem X_noNext : X.NoNext:=fun f F h=>fnOf_all (p:=fun _ F=>F.isDet || F.body.noNext) fns (by kernel_rfl) f F h
theorem x_q00a : X.fn f_q00a = some a_q00a:=by kernel_rfl
theorem c_q00a {u0 v0 : AV} {h h1 : Heap} {P : Post} (hp : puras h [u0] = some ([v0],h1)) : ACall X f_q00a [u0] h P = d_q00a (ACall X) X.gl p_q00a_k1 v0 h1 [] (finR [.t 2] false h.length P):=by rw [call_val x_q00a rfl hp rfl]; exact e_q00a
theorem x_q00e : X.fn f_q00e = some a_q00e:=by kernel_rfl
theorem c_q00e {u0 u1 v0 v1 : AV} {h h1 : Heap} {P : Post} (hp : puras h [u0,u1] = some ([v0,v1],h1)) : ACall X f_q00e [u0,u1] h P = d_q00e (ACall X) X.gl p_q00e_k1 p_q00e_k4 v0 v1 h1 [] (finR [.t 4] false h.length P):=by rw [call_val x_q00e rfl hp rfl]; exact e_q00e
theorem x_q00j : X.fn f_q00j = some a_q00j:=by kernel_rfl
theorem c_q00j {u0 u1 u2 v0 v1 v2 : AV} {h h1 : Heap} {P : Post} (hp : puras h [u0,u1,u2] = some ([v0,v1,v2],h1)) : ACall X f_q00j [u0,u1,u2] h P = d_q00j (ACall X) X.gl v0 v1 v2 h1 [] (finR [.t 6] false h.length P):=by rw [call_val x_q00j rfl hp rfl]; exact e_q00j
theorem x_q025 : X.fn f_q025 = some a_q025:=by kernel_rfl
theorem c_q025 {u0 v0 : AV} {h h1 : Heap} {P : Post} (hp : puras h [u0] = some ([v0],h1)) : ACall X f_q025 [u0] h P = d_q025 (ACall X) X.gl v0 h1 [] (finR [.t 2,.t 3] false h.length P):=by rw [call_val x_q025 rfl hp rfl]; exact e_q025
theorem x_q026 : X.fn f_q026 = some a_q026:=by kernel_rfl
theorem c_q026 {u0 v0 : AV} {h h1 : Heap} {P : Post} (hp : puras h [u0] = some ([v0],h1)) : ACall X f_q026 [u0] h P = d_q026 (ACall X) X.gl v0 h1 [] (finR [.t 2,.t 3,.t 4,.t 5] false h.length P):=by rw [call_val x_q026 rfl hp rfl]; exact e_q026
theorem x_q027 : X.fn f_q027 = some a_q027:=by kernel_rfl
theorem c_q027 {u0 v0 : AV} {h h1 : Heap} {P : Post} (hp : puras h [u0] = some ([v0],h1)) : ACall X f_q027 [u0] h P = d_q027 (ACall X) X.gl v0 h1 [] (finR [.t 2,.t 3] false h.length P):=by rw [call_val x_q027 rfl hp rfl]; exact e_q027
theorem x_q023 : X.fn f_q023 = some a_q023:=by kernel_rfl
theorem c_q023 {u0 v0 : AV} {h h1 : Heap} {P : Post} (hp : puras h [u0] = some ([v0],h1)) : ACall X f_q023 [u0] h P = d_q023 (ACall X) X.gl v0 h1 [] (finR [.t 2,.t 3,.t 4] false h.length P):=by rw [call_val x_q023 rfl hp rfl]; exact e_q023
theorem x_q00q : X.fn f_q00q = some a_q00q:=by kernel_rfl
theorem c_q00q {u0 v0 : AV} {h h1 : Heap} {P : Post} (hp : puras h [u0] = some ([v0],h1)) : ACall X f_q00q [u0] h P = d_q00q (ACall X) X.gl p_q00q_k1 p_q00q_k2 v0 h1 [] (finR [.t 2] false h.length P):=by rw [call_val x_q00q rfl hp rfl]; exact e_q00q
theorem x_q00s : X.fn f_q00s = some a_q00s:=by kernel_rfl
theorem c_q00s {u0 v0 : AV} {h h1 : Heap} {P : Post} (hp : puras h [u0] = some ([v0],h1)) : ACall X f_q00s [u0] h P = d_q00s (ACall X) X.gl p_q00s_k1 p_q00s_k2 v0 h1 [] (finR [.t 2,.t 3,.t 4] false h.length P):=by rw [call_val x_q00s rfl hp rfl]; exact e_q00s
theorem x_q00t : X.fn f_q00t = some a_q00t:=by kernel_rfl
theorem c_q00t {u0 v0 : AV} {h h1 : Heap} {P : Post} (hp : puras h [u0] = some ([v0],h1)) : ACall X f_q00t [u0] h P = d_q00t (ACall X) X.gl p_q00t_k3 p_q00t_k4 v0 h1 [] (finR [.t 2] false h.length P):=by rw [call_val x_q00t rfl hp rfl]; exact e_q00t
theorem x_q00r : X.fn f_q00r = some a_q00r:=by kernel_rfl
theorem c_q00r {u0 v0 : AV} {h h1 : Heap} {P : Post} (hp : puras h [u0] = some ([v0],h1)) : ACall X f_q00r [u0] h P = d_q00r (ACall X) X.gl p_q00r_k1 p_q00r_k2 v0 h1 [] (finR [.t 2,.t 3] false h.length P):=by rw [call_val x_q00r rfl hp rfl]; exact e_q00r
theorem x_q024 : X.fn f_q024 = some a_q024:=by kernel_rfl
theorem c_q024 {u0 v0 : AV} {h h1 : Heap} {P : Post} (hp : puras h [u0] = some ([v0],h1)) : ACall X f_q024 [u0] h P = d_q024 (ACall X) X.gl p_q024_k1 p_q024_k2 v0 h1 [] (finR [.t 2] false h.length P):=by rw [call_val x_q024 rfl hp rfl]; exact e_q024
theorem x_q016 : X.fn f_q016 = some a_q016:=by kernel_rfl
theorem c_q016 {u0 u1 v0 v1 : AV} {h h1 : Heap} {P : Post} (hp : puras h [u0,u1] = some ([v0,v1],h1)) : ACall X f_q016 [u0,u1] h P = d_q016 (ACall X) X.gl p_q016_k1 p_q016_k2 v0 v1 h1 [] (finR [.t 4] false h.length P):=by rw [call_val x_q016 rfl hp rfl]; exact e_q016
theorem x_q00b : X.fn f_q00b = some a_q00b:=by kernel_rfl
theorem c_q00b {h h1 : Heap} {P : Post} (hp : puras h [] = some ([],h1)) : ACall X f_q00b [] h P = d_q00b (ACall X) X.gl  h1 [] (finR [.t 0] false h.length P):=by rw [call_val x_q00b rfl hp rfl]; exact e_q00b
theorem x_q00d : X.fn f_q00d = some a_q00d:=by kernel_rfl
theorem c_q00d {u0 v0 : AV} {h h1 : Heap} {P : Post} (hp : puras h [u0] = some ([v0],h1)) : ACall X f_q00d [u0] h P = d_q00d (ACall X) X.gl p_q00d_k2 p_q00d_k4 v0 h1 [] (finR [.cell 2 (some 6)] false h.length P):=by rw [call_val x_q00d rfl hp rfl]; exact e_q00d
theorem x_q00f : X.fn f_q00f = some a_q00f:=by kernel_rfl
theorem c_q00f {u0 u1 v0 v1 : AV} {h h1 : Heap} {P : Post} (hp : puras h [u0,u1] = some ([v0,v1],h1)) : ACall X f_q00f [u0,u1] h P = d_q00f (ACall X) X.gl v0 v1 h1 [] (finR [.t 4] false h.length P):=by rw [call_val x_q00f rfl hp rfl]; exact e_q00f
theorem x_q00i : X.fn f_q00i = some a_q00i:=by kernel_rfl
theorem c_q00i {u0 u1 v0 v1 : AV} {h h1 : Heap} {P : Post} (hp : puras h [u0,u1] = some ([v0,v1],h1)) : ACall X f_q00i [u0,u1] h P = d_q00i (ACall X) X.gl v0 v1 h1 [] (finR [.t 4] false h.length P):=by rw [call_val x_q00i rfl hp rfl]; exact e_q00i
theorem x_q00g : X.fn f_q00g = some a_q00g:=by kernel_rfl
theorem c_q00g {u0 u1 v0 v1 : AV} {h h1 : Heap} {P : Post} (hp : puras h [u0,u1] = some ([v0,v1],h1)) : ACall X f_q00g [u0,u1] h P = d_q00g (ACall X) X.gl v0 v1 h1 [] (finR [.t 4] false h.length P):=by rw [call_val x_q00g rfl hp rfl]; exact e_q00g
theorem x_q02b : X.fn f_q02b = some a_q02b:=by kernel_rfl
theorem c_q02b {u0 u1 v0 v1 : AV} {h h1 : Heap} {P : Post} (hp : puras h [u0,u1] = some ([v0,v1],h1)) : ACall X f_q02b [u0,u1] h P = d_q02b (ACall X) X.gl p_q02b_k1 p_q02b_k2 v0 v1 h1 [] (finR [.t 4] false h.length P):=by rw [call_val x_q02b rfl hp rfl]; exact e_q02b
theorem x_q02i : X.fn f_q02i = some a_q02i:=by kernel_rfl
theorem c_q02i {u0 v0 : AV} {h h1 : Heap} {P : Post} (hp : puras h [u0] = some ([v0],h1)) : ACall X f_q02i [u0] h P = d_q02i (ACall X) X.gl v0 h1 [] (finR [.t 2] false h.length P):=by rw [call_val x_q02i rfl hp rfl]; exact e_q02i
theorem x_q00u : X.fn f_q00u = some a_q00u:=by kernel_rfl
theorem c_q00u {u0 v0 : AV} {h h1 : Heap} {P : Post} (hp : puras h [u0] = some ([v0],h1)) : ACall X f_q00u [u0] h P = d_q00u (ACall X) X.gl p_q00u_k3 p_q00u_k4 v0 h1 [] (finR [.t 2] false h.length P):=by rw [call_val x_q00u rfl hp rfl]; exact e_q00u
theorem x_q00z : X.fn f_q00z = some a_q00z:=by kernel_rfl
theorem c_q00z {u0 v0 : AV} {h h1 : Heap} {P : Post} (hp : puras h [u0] = some ([v0],h1)) : ACall X f_q00z [u0] h P = d_q00z (ACall X) X.gl p_q00z_k1 p_q00z_k2 v0 h1 [] (finR [.t 2] false h.length P):=by rw [call_val x_q00z rfl hp rfl]; exact e_q00z
theorem x_q01b : X.fn f_q01b = some a_q01b:=by kernel_rfl
theorem c_q01b {u0 u1 v0 v1 : AV} {h h1 : Heap} {P : Post} (hp : puras h [u0,u1] = some ([v0,v1],h1)) : ACall X f_q01b [u0,u1] h P = d_q01b (ACall X) X.gl v0 v1 h1 [] (finR [.t 4,.t 5] false h.length P):=by rw [call_val x_q01b rfl hp rfl]; exact e_q01b
theorem x_q01a : X.fn f_q01a = some a_q01a:=by kernel_rfl
theorem c_q01a {u0 v0 : AV} {h h1 : Heap} {P : Post} (hp : puras h [u0] = some ([v0],h1)) : ACall X f_q01a [u0] h P = d_q01a (ACall X) X.gl v0 h1 [] (finR [.t 2] false h.length P):=by rw [call_val x_q01a rfl hp rfl]; exact e_q01a
theorem x_q00n : X.fn f_q00n = some a_q00n:=by kernel_rfl
theorem c_q00n {u0 u1 v0 v1 : AV} {h h1 : Heap} {P : Post} (hp : puras h [u0,u1] = some ([v0,v1],h1)) : ACall X f_q00n [u0,u1] h P = d_q00n (ACall X) X.gl p_q00n_k1 p_q00n_k2 v0 v1 h1 [] (finR [.t 4] false h.length P):=by rw [call_val x_q00n rfl hp rfl]; exact e_q00n
theorem x_q001 : X.fn f_q001 = some a_q001:=by kernel_rfl
theorem c_q001 {u0 u1 u2 v0 v1 v2 : AV} {h h1 : Heap} {P : Post} (hp : puras h [u0,u1,u2] = some ([v0,v1,v2],h1)) : ACall X f_q001 [u0,u1,u2] h P = d_q001 (ACall X) X.gl v0 v1 v2 h1 [] (finR [.t 6] false h.length P):=by rw [call_val x_q001 rfl hp rfl]; exact e_q001
theorem x_q02a : X.fn f_q02a = some a_q02a:=by kernel_rfl
theorem c_q02a {u0 v0 : AV} {h h1 : Heap} {P : Post} (hp : puras h [u0] = some ([v0],h1)) : ACall X f_q02a [u0] h P = d_q02a (ACall X) X.gl p_q02a_k1 v0 h1 [] (finR [.cell 2 (some 6),.t 3] false h.length P):=by rw [call_val x_q02a rfl hp rfl]; exact e_q02a
theorem x_q00l : X.fn f_q00l = some a_q00l:=by kernel_rfl
theorem c_q00l {u0 u1 v0 v1 : AV} {h h1 : Heap} {P : Post} (hp : puras h [u0,u1] = some ([v0,v1],h1)) : ACall X f_q00l [u0,u1] h P = d_q00l (ACall X) X.gl p_q00l_k1 p_q00l_k2 v0 v1 h1 [] (finR [.t 4] false h.length P):=by rw [call_val x_q00l rfl hp rfl]; exact e_q00l
theorem x_q00h : X.fn f_q00h = some a_q00h:=by kernel_rfl
theorem c_q00h {u0 u1 u2 v0 v1 v2 : AV} {h h1 : Heap} {P : Post} (hp : puras h [u0,u1,u2] = some ([v0,v1,v2],h1)) : ACall X f_q00h [u0,u1,u2] h P = d_q00h (ACall X) X.gl v0 v1 v2 h1 [] (finR [.t 6] false h.length P):=by rw [call_val x_q00h rfl hp rfl]; exact e_q00h
theorem x_q00k : X.fn f_q00k = some a_q00k:=by kernel_rfl
theorem c_q00k {u0 u1 v0 v1 : AV} {h h1 : Heap} {P : Post} (hp : puras h [u0,u1] = some ([v0,v1],h1)) : ACall X f_q00k [u0,u1] h P = d_q00k (ACall X) X.gl v0 v1 h1 [] (finR [.t 4] false h.length P):=by rw [call_val x_q00k rfl hp rfl]; exact e_q00k
theorem x_q00c : X.fn f_q00c = some a_q00c:=by kernel_rfl
theorem c_q00c {u0 u1 v0 v1 : AV} {h h1 : Heap} {P : Post} (hp : puras h [u0,u1] = some ([v0,v1],h1)) : ACall X f_q00c [u0,u1] h P = d_q00c (ACall X) X.gl p_q00c_k1 v0 v1 h1 [] (finR [.t 4] false h.length P):=by rw [call_val x_q00c rfl hp rfl]; exact e_q00c
theorem x_q02k : X.fn f_q02k = some a_q02k:=by kernel_rfl
theorem c_q02k {h h1 : Heap} {P : Post} (hp : puras h [] = some ([],h1)) : ACall X f_q02k [] h P = d_q02k (ACall X) X.gl  h1 [] (finR [.cell 0 (some 36)] false h.length P):=by rw [call_val x_q02k rfl hp rfl]; exact e_q02k
theorem x_q02e : X.fn f_q02e = some a_q02e:=by kernel_rfl
theorem c_q02e {u0 u1 v0 v1 : AV} {h h1 : Heap} {P : Post} (hp : puras h [u0,u1] = some ([v0,v1],h1)) : ACall X f_q02e [u0,u1] h P = d_q02e (ACall X) X.gl p_q02e_k1 p_q02e_k2 v0 v1 h1 [] (finR [] false h.length P):=by rw [call_val x_q02e rfl hp rfl]; exact e_q02e
theorem x_q012 : X.fn f_q012 = some a_q012:=by kernel_rfl
theorem c_q012 {u0 v0 : AV} {h h1 : Heap} {P : Post} (hp : puras h [u0] = some ([v0],h1)) : ACall X f_q012 [u0] h P = d_q012 (ACall X) X.gl v0 h1 [] (finR [.t 2] false h.length P):=by rw [call_val x_q012 rfl hp rfl]; exact e_q012
theorem x_q00w : X.fn f_q00w = some a_q00w:=by kernel_rfl
theorem c_q00w {u0 u1 u2 v0 v1 v2 : AV} {h h1 : Heap} {P : Post} (hp : puras h [u0,u1,u2] = some ([v0,v1,v2],h1)) : ACall X f_q00w [u0,u1,u2] h P = d_q00w (ACall X) X.gl v0 v1 v2 h1 [] (finR [.t 6] false h.length P):=by rw [call_val x_q00w rfl hp rfl]; exact e_q00w
theorem x_q00p : X.fn f_q00p = some a_q00p:=by kernel_rfl
theorem c_q00p {u0 v0 : AV} {h h1 : Heap} {P : Post} (hp : puras h [u0] = some ([v0],h1)) : ACall X f_q00p [u0] h P = d_q00p (ACall X) X.gl v0 h1 [] (finR [.t 2] false h.length P):=by rw [call_val x_q00p rfl hp rfl]; exact e_q00p
theorem x_q010 : X.fn f_q010 = some a_q010:=by kernel_rfl
theorem c_q010 {u0 v0 : AV} {h h1 : Heap} {P : Post} (hp : puras h [u0] = some ([v0],h1)) : ACall X f_q010 [u0] h P = d_q010 (ACall X) X.gl v0 h1 [] (finR [.t 2] false h.length P):=by rw [call_val x_q010 rfl hp rfl]; exact e_q010
theorem x_q00y : X.fn f_q00y = some a_q00y:=by kernel_rfl
theorem c_q00y {u0 u1 u2 v0 v1 v2 : AV} {h h1 : Heap} {P : Post} (hp : puras h [u0,u1,u2] = some ([v0,v1,v2],h1)) : ACall X f_q00y [u0,u1,u2] h P = d_q00y (ACall X) X.gl p_q00y_k2 p_q00y_k3 v0 v1 v2 h1 [] (finR [.cell 6 (some 5)] false h.length P):=by rw [call_val x_q00y rfl hp rfl]; exact e_q00y
theorem x_q01c : X.fn f_q01c = some a_q01c:=by kernel_rfl
theorem c_q01c {u0 v0 : AV} {h h1 : Heap} {P : Post} (hp : puras h [u0] = some ([v0],h1)) : ACall X f_q01c [u0] h P = d_q01c (ACall X) X.gl v0 h1 [] (finR [] false h.length P):=by rw [call_val x_q01c rfl hp rfl]; exact e_q01c
theorem x_q00o : X.fn f_q00o = some a_q00o:=by kernel_rfl
theorem c_q00o {u0 u1 v0 v1 : AV} {h h1 : Heap} {P : Post} (hp : puras h [u0,u1] = some ([v0,v1],h1)) : ACall X f_q00o [u0,u1] h P = d_q00o (ACall X) X.gl v0 v1 h1 [] (finR [.t 4] false h.length P):=by rw [call_val x_q00o rfl hp rfl]; exact e_q00o
theorem x_q02j : X.fn f_q02j = some a_q02j:=by kernel_rfl
theorem c_q02j {u0 v0 : AV} {h h1 : Heap} {P : Post} (hp : puras h [u0] = some ([v0],h1)) : ACall X f_q02j [u0] h P = d_q02j (ACall X) X.gl v0 h1 [] (finR [.t 2] false h.length P):=by rw [call_val x_q02j rfl hp rfl]; exact e_q02j
theorem x_q028 : X.fn f_q028 = some a_q028:=by kernel_rfl
theorem c_q028 {u0 v0 : AV} {h h1 : Heap} {P : Post} (hp : puras h [u0] = some ([v0],h1)) : ACall X f_q028 [u0] h P = d_q028 (ACall X) X.gl v0 h1 [] (finR [.t 2] false h.length P):=by rw [call_val x_q028 rfl hp rfl]; exact e_q028
theorem x_q02g : X.fn f_q02g = some a_q02g:=by kernel_rfl
theorem c_q02g {u0 v0 : AV} {h h1 : Heap} {P : Post} (hp : puras h [u0] = some ([v0],h1)) : ACall X f_q02g [u0] h P = d_q02g (ACall X) X.gl v0 h1 [] (finR [.t 2] false h.length P):=by rw [call_val x_q02g rfl hp rfl]; exact e_q02g
theorem x_q000 : X.fn f_q000 = some a_q000:=by kernel_rfl
theorem c_q000 {u0 v0 : AV} {h h1 : Heap} {P : Post} (hp : puras h [u0] = some ([v0],h1)) : ACall X f_q000 [u0] h P = d_q000 (ACall X) X.gl v0 h1 [] (finR [.t 2] false h.length P):=by rw [call_val x_q000 rfl hp rfl]; exact e_q000
theorem x_q029 : X.fn f_q029 = some a_q029:=by kernel_rfl
theorem c_q029 {u0 v0 : AV} {h h1 : Heap} {P : Post} (hp : puras h [u0] = some ([v0],h1)) : ACall X f_q029 [u0] h P = d_q029 (ACall X) X.gl v0 h1 [] (finR [.t 2] false h.length P):=by rw [call_val x_q029 rfl hp rfl]; exact e_q029
theorem x_q02h : X.fn f_q02h = some a_q02h:=by kernel_rfl
theorem c_q02h {u0 u1 v0 v1 : AV} {h h1 : Heap} {P : Post} (hp : puras h [u0,u1] = some ([v0,v1],h1)) : ACall X f_q02h [u0,u1] h P = d_q02h (ACall X) X.gl v0 v1 h1 [] (finR [.t 4] false h.length P):=by rw [call_val x_q02h rfl hp rfl]; exact e_q02h
theorem x_q02d : X.fn f_q02d = some a_q02d:=by kernel_rfl
theorem c_q02d {u0 u1 v0 v1 : AV} {h h1 : Heap} {P : Post} (hp : puras h [u0,u1] = some ([v0,v1],h1)) : ACall X f_q02d [u0,u1] h P = d_q02d (ACall X) X.gl p_q02d_k7 v0 v1 h1 [] (finR [.t 4] false h.length P):=by rw [call_val x_q02d rfl hp rfl]; exact e_q02d
theorem x_q02f : X.fn f_q02f = some a_q02f:=by kernel_rfl
theorem c_q02f {u0 u1 v0 v1 : AV} {h h1 : Heap} {P : Post} (hp : puras h [u0,u1] = some ([v0,v1],h1)) : ACall X f_q02f [u0,u1] h P = d_q02f (ACall X) X.gl p_q02f_k1 p_q02f_k2 v0 v1 h1 [] (finR [] false h.length P):=by rw [call_val x_q02f rfl hp rfl]; exact e_q02f
theorem x_q02c : X.fn f_q02c = some a_q02c:=by kernel_rfl
theorem c_q02c {u0 u1 u2 u3 v0 v1 v2 v3 : AV} {h h1 : Heap} {P : Post} (hp : puras h [u0,u1,u2,u3] = some ([v0,v1,v2,v3],h1)) : ACall X f_q02c [u0,u1,u2,u3] h P = d_q02c (ACall X) X.gl v0 v1 v2 v3 h1 [] (finR [] false h.length P):=by rw [call_val x_q02c rfl hp rfl]; exact e_q02c
theorem x_q015 : X.fn f_q015 = some a_q015:=by kernel_rfl
theorem c_q015 {u0 u1 h P} : ACall X f_q015 [u0,u1] h P = d_q015 (ACall X) X.gl u0 u1 h [] (finR [.t 4] false h.length P):=by rw [call_ref x_q015 rfl rfl]; exact e_q015
theorem x_q00x : X.fn f_q00x = some a_q00x:=by kernel_rfl
theorem c_q00x {u0 u1 v0 v1 : AV} {h h1 : Heap} {P : Post} (hp : puras h [u0,u1] = some ([v0,v1],h1)) : ACall X f_q00x [u0,u1] h P = d_q00x (ACall X) X.gl p_q00x_k1 p_q00x_k2 v0 v1 h1 [] (finR [.t 4] false h.length P):=by rw [call_val x_q00x rfl hp rfl]; exact e_q00x
theorem x_q00m : X.fn f_q00m = some a_q00m:=by kernel_rfl
theorem c_q00m {u0 u1 v0 v1 : AV} {h h1 : Heap} {P : Post} (hp : puras h [u0,u1] = some ([v0,v1],h1)) : ACall X f_q00m [u0,u1] h P = d_q00m (ACall X) X.gl p_q00m_k5 v0 v1 h1 [] (finR [.t 4] false h.length P):=by rw [call_val x_q00m rfl hp rfl]; exact e_q00m
theorem x_q00v : X.fn f_q00v = some a_q00v:=by kernel_rfl
theorem c_q00v {u0 v0 : AV} {h h1 : Heap} {P : Post} (hp : puras h [u0] = some ([v0],h1)) : ACall X f_q00v [u0] h P = d_q00v (ACall X) X.gl p_q00v_k2 p_q00v_k3 v0 h1 [] (finR [.t 2] false h.length P):=by rw [call_val x_q00v rfl hp rfl]; exact e_q00v
theorem x_q01s : X.fn f_q01s = some a_q01s:=by kernel_rfl
theorem c_q01s {u0 u1 v0 v1 : AV} {h h1 : Heap} {P : Post} (hp : puras h [u0,u1] = some ([v0,v1],h1)) : ACall X f_q01s [u0,u1] h P = d_q01s (ACall X) X.gl v0 v1 h1 [] (finR [.t 4,.t 5] false h.length P):=by rw [call_val x_q01s rfl hp rfl]; exact e_q01s
theorem x_q017 : X.fn f_q017 = some a_q017:=by kernel_rfl
theorem c_q017 {u0 u1 h P} : ACall X f_q017 [u0,u1] h P = d_q017 (ACall X) X.gl p_q017_k1 p_q017_k2 u0 u1 h [] (finR [.t 4] false h.length P):=by rw [call_ref x_q017 rfl rfl]; exact e_q017
theorem x_q01g : X.fn f_q01g = some a_q01g:=by kernel_rfl
theorem c_q01g {u0 u1 v0 v1 : AV} {h h1 : Heap} {P : Post} (hp : puras h [u0,u1] = some ([v0,v1],h1)) : ACall X f_q01g [u0,u1] h P = d_q01g (ACall X) X.gl v0 v1 h1 [] (finR [.t 4] false h.length P):=by rw [call_val x_q01g rfl hp rfl]; exact e_q01g
theorem x_q01t : X.fn f_q01t = some a_q01t:=by kernel_rfl
theorem c_q01t {u0 v0 : AV} {h h1 : Heap} {P : Post} (hp : puras h [u0] = some ([v0],h1)) : ACall X f_q01t [u0] h P = d_q01t (ACall X) X.gl v0 h1 [] (finR [.t 2] false h.length P):=by rw [call_val x_q01t rfl hp rfl]; exact e_q01t
theorem x_q01v : X.fn f_q01v = some a_q01v:=by kernel_rfl
theorem c_q01v {u0 u1 v0 v1 : AV} {h h1 : Heap} {P : Post} (hp : puras h [u0,u1] = some ([v0,v1],h1)) : ACall X f_q01v [u0,u1] h P = ∃ v h' x,P v h' x ∧ d_q01v (ACall X) X.gl p_q01v_k3 p_q01v_k4 v0 v1 h1 [] (finR [.t 4] false h.length fun v1 h1 x1=>v1 = v ∧ h1 = h' ∧ x1 = x):=by rw [call_val_det x_q01v rfl hp rfl]; exact ex3_congr fun v h' x=>congrArg (And (P v h' x)) e_q01v
theorem x_q006 : X.fn f_q006 = some a_q006:=by kernel_rfl
theorem c_q006 {u0 u1 v0 v1 : AV} {h h1 : Heap} {P : Post} (hp : puras h [u0,u1] = some ([v0,v1],h1)) : ACall X f_q006 [u0,u1] h P = d_q006 (ACall X) X.gl v0 v1 h1 [] (finR [.t 4] false h.length P):=by rw [call_val x_q006 rfl hp rfl]; exact e_q006
theorem x_q01u : X.fn f_q01u = some a_q01u:=by kernel_rfl
theorem c_q01u {u0 u1 v0 v1 : AV} {h h1 : Heap} {P : Post} (hp : puras h [u0,u1] = some ([v0,v1],h1)) : ACall X f_q01u [u0,u1] h P = d_q01u (ACall X) X.gl v0 v1 h1 [] (finR [.t 4] false h.length P):=by rw [call_val x_q01u rfl hp rfl]; exact e_q01u
attribute [go_sem] e_q00a_k1 d_q00a_k1 e_q00e_k1 e_q00e_k2 e_q00e_k3 e_q00e_k4 l_q00e_k1 l_q00e_k2 d_q00e_k1 d_q00e_k2 d_q00e_k3 d_q00e_k4 e_q00q_k1 e_q00q_k2 l_q00q_k1 d_q00q_k1 d_q00q_k2 e_q00s_k1 e_q00s_k2 l_q00s_k1 d_q00s_k1 d_q00s_k2 e_q00t_k1 e_q00t_k2 e_q00t_k3 e_q00t_k4 l_q00t_k3 d_q00t_k1 d_q00t_k2 d_q00t_k3 d_q00t_k4 e_q00r_k1 e_q00r_k2 l_q00r_k1 d_q00r_k1 d_q00r_k2 e_q024_k1 e_q024_k2 l_q024_k1 d_q024_k1
attribute [go_sem] d_q024_k2 e_q016_k1 e_q016_k2 l_q016_k1 d_q016_k1 d_q016_k2 e_q00d_k1 e_q00d_k2 e_q00d_k3 e_q00d_k4 d_q00d_k1 d_q00d_k2 d_q00d_k3 d_q00d_k4 e_q02b_k1 e_q02b_k2 l_q02b_k1 d_q02b_k1 d_q02b_k2 e_q00u_k1 e_q00u_k2 e_q00u_k3 e_q00u_k4 d_q00u_k1 d_q00u_k2 d_q00u_k3 d_q00u_k4 e_q00z_k1 e_q00z_k2 l_q00z_k1 d_q00z_k1 d_q00z_k2 e_q00n_k1 e_q00n_k2 l_q00n_k1 d_q00n_k1 d_q00n_k2 e_q02a_k1 d_q02a_k1 e_q00l_k1
attribute [go_sem] e_q00l_k2 l_q00l_k1 d_q00l_k1 d_q00l_k2 e_q00c_k1 d_q00c_k1 e_q02e_k1 e_q02e_k2 l_q02e_k1 d_q02e_k1 d_q02e_k2 e_q00y_k1 e_q00y_k2 e_q00y_k3 d_q00y_k1 d_q00y_k2 d_q00y_k3 e_q02d_k1 e_q02d_k2 e_q02d_k3 e_q02d_k4 e_q02d_k5 e_q02d_k6 e_q02d_k7 l_q02d_k4 d_q02d_k1 d_q02d_k2 d_q02d_k3 d_q02d_k4 d_q02d_k5 d_q02d_k6 d_q02d_k7 e_q02f_k1 e_q02f_k2 l_q02f_k1 d_q02f_k1 d_q02f_k2 e_q00x_k1 e_q00x_k2 l_q00x_k1
attribute [go_sem] d_q00x_k1 d_q00x_k2 e_q00m_k1 e_q00m_k2 e_q00m_k3 e_q00m_k4 e_q00m_k5 l_q00m_k3 l_q00m_k5 d_q00m_k1 d_q00m_k2 d_q00m_k3 d_q00m_k4 d_q00m_k5 e_q00v_k1 e_q00v_k2 e_q00v_k3 l_q00v_k2 d_q00v_k1 d_q00v_k2 d_q00v_k3 e_q017_k1 e_q017_k2 l_q017_k1 d_q017_k1 d_q017_k2 e_q01v_k1 e_q01v_k2 e_q01v_k3 e_q01v_k4 l_q01v_k2 l_q01v_k3 d_q01v_k1 d_q01v_k2 d_q01v_k3 d_q01v_k4
end Go.Am
end
section
/- The stream of numbers out of which the laws draw. -/
open Go
namespace Go.Am
abbrev eI (n : Int) : PV:=.int .i64 n
abbrev AL (l : List Int) : AV:=.p (.sl none (l.map eI))
abbrev strm (L : List Int) (a : Int) : Obj:=.box [AL L,AI a]
def below (x n : Int) : Int:=if n < 1 then 0 else if x.tmod n < 0 then IntKind.i64.wrap (x.tmod n + n) else x.tmod n
theorem s_Below (x n : Int) (h : Heap) (K : Post) : ACall X f_q00c [AI x,AI n] h K = K (AI (below x n)) h []:=by
  refine rule ?_
  rw [c_q00c rfl]
  simp only [d_q00c,go_sem]
  unfold below
  by_cases h1 : n < 1
  · simp only [h1,if_true]
  · simp only [h1, if_false, show ¬ n = 0 by omega]
    split <;> rfl
theorem below_bd (x n : Int) (h1 : 1 ≤ n) (h2 : n ≤ 4611686018427387904) : 0 ≤ below x n ∧ below x n < n:=by
  unfold below
  rw [if_neg (by omega)]
  have:=Int.tmod_lt_of_pos x (show 0 < n by omega)
  have h3 : -n < x.tmod n:=by
    have:=Int.lt_tmod_of_pos x (show 0 < n by omega)
    exact this
  split
  · rw [i64_wrap _ (by omega) (by omega)]; omega
  · omega
def nextV (L : List Int) (a n : Int) : Int:=
  if L.length = 0 then below (IntKind.i64.wrap ((a + 1) * 7919)) n
  else below (IntKind.i64.wrap (below (L.getD (a.tmod L.length).toNat 0) 1073741824 + IntKind.i64.wrap (IntKind.i64.wrap (a.tdiv L.length) * IntKind.i64.wrap (7919 + a.tmod L.length)))) n
theorem nextV_bd (L : List Int) (a n : Int) (h1 : 1 ≤ n) (h2 : n ≤ 4611686018427387904) : 0 ≤ nextV L a n ∧ nextV L a n < n:=by
  unfold nextV
  split <;> exact below_bd _ _ h1 h2
theorem set_get' {h : Heap} {id : Nat} {o' : Obj} (hid : id < h.length) : (h.set id o')[id]? = some o':=by simp [hid]
theorem get_lt {h : Heap} {id : Nat} {o : Obj} (hh : h[id]? = some o) : id < h.length:=(List.getElem?_eq_some_iff.1 hh).1
def posN (n : Nat) (a : Int) : Prop:=0 ≤ a ∧ a + n < 4611686018427387904
theorem posN_le {n m : Nat} {a b : Int} (H : posN m a) (h : a ≤ b) (hn : b + n ≤ a + m) : posN n b:=by unfold posN at *; omega
theorem posAll {a : Int} (H : posN 14 a) : posN 0 (a) ∧ posN 0 (a + 1) ∧ posN 0 (a + 1 + 1) ∧ posN 0 (a + 1 + 1 + 1) ∧ posN 0 (a + 1 + 1 + 1 + 1) ∧ posN 0 (a + 1 + 1 + 1 + 1 + 1) ∧ posN 0 (a + 1 + 1 + 1 + 1 + 1 + 1) ∧ posN 0 (a + 1 + 1 + 1 + 1 + 1 + 1 + 1) ∧ posN 0 (a + 1 + 1 + 1 + 1 + 1 + 1 + 1 + 1) ∧ posN 0 (a + 1 + 1 + 1 + 1 + 1 + 1 + 1 + 1 + 1) ∧ posN 0 (a + 1 + 1 + 1 + 1 + 1 + 1 + 1 + 1 + 1 + 1) ∧ posN 0 (a + 1 + 1 + 1 + 1 + 1 + 1 + 1 + 1 + 1 + 1 + 1) ∧ posN 0 (a + 1 + 1 + 1 + 1 + 1 + 1 + 1 + 1 + 1 + 1 + 1 + 1) ∧ posN 0 (a + 1 + 1 + 1 + 1 + 1 + 1 + 1 + 1 + 1 + 1 + 1 + 1 + 1) ∧ posN 0 (a + 1 + 1 + 1 + 1 + 1 + 1 + 1 + 1 + 1 + 1 + 1 + 1 + 1 + 1):=by
  unfold posN at *; omega
def Gen (f : Nat) (args : List AV) (L : List Int) (a a2 : Int) (v : AV) : Prop:=∀ (h : Heap) (id : Nat) (K : Post),h[id]? = some (strm L a) → ACall X f (.ref id 0 :: args) h K = K v (h.set id (strm L a2)) []
section
variable {f : Nat} {args : List AV} {L : List Int} {a a2 : Int} {v : AV} {h l : Heap} {id : Nat} {K : Post}
theorem Gen.set (g : Gen f args L a a2 v) (hid : id < h.length) : ACall X f (.ref id 0 :: args) (h.set id (strm L a)) K = K v (h.set id (strm L a2)) []:=by
  rw [g _ _ _ (set_get' hid),List.set_set]
theorem Gen.app (g : Gen f args L a a2 v) (hid : id < h.length) : ACall X f (.ref id 0 :: args) (h.set id (strm L a) ++ l) K = K v (h.set id (strm L a2) ++ l) []:=by
  rw [g _ _ _ (by rw [get_app (by simpa using hid)]; exact set_get' hid),set_app (by simpa using hid),List.set_set]
theorem Gen.hd (g : Gen f args L a a2 v) : ACall X f (.ref 0 0 :: args) (strm L a :: l) K = K v (strm L a2 :: l) []:=by
  rw [g _ _ _ rfl]; rfl
theorem Gen.of (H : ∀ (h : Heap) (id : Nat),id < h.length → ACall X f (.ref id 0 :: args) (h.set id (strm L a)) fun v1 h1 x1=>v1 = v ∧ h1 = h.set id (strm L a2) ∧ x1 = []) : Gen f args L a a2 v:=by
  intro h id K hh
  have hid:=get_lt hh
  have : h.set id (strm L a) = h:=by
    apply List.ext_getElem?
    intro i
    rw [List.getElem?_set]
    split
    · rename_i e; subst e; rw [hh]
    · rfl
  have k:=H h id hid
  rw [this] at k
  exact rule k
end
def GenE (f : Nat) (args : List AV) (L : List Int) (a : Int) (Q : AV → Int → Prop) : Prop:=∀ (h : Heap) (id : Nat),h[id]? = some (strm L a) → ∃ v a2,Q v a2 ∧ ∀ K : Post,ACall X f (.ref id 0 :: args) h K = K v (h.set id (strm L a2)) []
section
variable {f : Nat} {args : List AV} {L : List Int} {a : Int} {Q : AV → Int → Prop}
theorem GenE.set (g : GenE f args L a Q) {h : Heap} {id : Nat} (hid : id < h.length) : ∃ v a2,Q v a2 ∧ ∀ K : Post,ACall X f (.ref id 0 :: args) (h.set id (strm L a)) K = K v (h.set id (strm L a2)) []:=by
  obtain ⟨v,a2,q,r⟩:=g _ _ (set_get' hid)
  exact ⟨v,a2,q,fun K=>by rw [r,List.set_set]⟩
theorem GenE.app (g : GenE f args L a Q) {h l : Heap} {id : Nat} (hid : id < h.length) : ∃ v a2,Q v a2 ∧ ∀ K : Post,ACall X f (.ref id 0 :: args) (h.set id (strm L a) ++ l) K = K v (h.set id (strm L a2) ++ l) []:=by
  obtain ⟨v,a2,q,r⟩:=g (h.set id (strm L a) ++ l) id (by rw [get_app (by simpa using hid)]; exact set_get' hid)
  exact ⟨v,a2,q,fun K=>by rw [r,set_app (by simpa using hid),List.set_set]⟩
theorem GenE.hd (g : GenE f args L a Q) {l : Heap} : ∃ v a2,Q v a2 ∧ ∀ K : Post,ACall X f (.ref 0 0 :: args) (strm L a :: l) K = K v (strm L a2 :: l) []:=g (strm L a :: l) 0 rfl
theorem GenE.of (H : ∀ (h : Heap) (id : Nat),id < h.length → ACall X f (.ref id 0 :: args) (h.set id (strm L a)) fun v1 h1 x1=>∃ a2,Q v1 a2 ∧ h1 = h.set id (strm L a2) ∧ x1 = []) : GenE f args L a Q:=by
  intro h id hh
  have hid:=get_lt hh
  have : h.set id (strm L a) = h:=by
    apply List.ext_getElem?
    intro i
    rw [List.getElem?_set]
    split
    · rename_i e; subst e; rw [hh]
    · rfl
  have k:=H h id hid
  rw [this] at k
  obtain ⟨v,h',x,⟨a2,q,e1,e2⟩,r⟩:=ACall.one X_noNext k
  subst e1; subst e2
  exact ⟨v,a2,q,r⟩
end
def pickV (l : List Int) (L : List Int) (a : Int) : Int:=l.getD (nextV L a l.length).toNat 0
theorem pickV_mem {l L : List Int} {a : Int} (hl : 0 < l.length) (hl2 : l.length < 4611686018427387904) : pickV l L a ∈ l:=by
  obtain ⟨b1,b2⟩:=nextV_bd L a l.length (by omega) (by omega)
  unfold pickV
  have : (nextV L a l.length).toNat < l.length:=by omega
  simp only [List.getD,List.getElem?_eq_getElem this,Option.getD_some]
  exact List.getElem_mem _
def isI : PV → Bool
  | .int .i64 _=>true
  | _=>false
def unI : PV → Int
  | .int _ n=>n
  | _=>0
theorem unI_map {xs : List PV} (h : xs.all isI = true) : xs = (xs.map unI).map eI:=by
  induction xs with
  | nil=>rfl
  | cons x r ih=>
    simp only [List.all_cons,Bool.and_eq_true] at h
    simp only [List.map_cons]
    rw [← ih h.2]
    cases x with
    | int k n=>cases k <;> first | rfl | cases h.1
    | _=>cases h.1
set_option maxHeartbeats 400000 in
theorem g_Next (L : List Int) (a n : Int) (hp : posN 0 a) : Gen f_q00g [AI n] L a (a + 1) (AI (nextV L a n)):=by
  refine Gen.of fun h id hid=>?_
  rw [c_q00g rfl]
  obtain ⟨h0,h1⟩:=hp
  have w1 : IntKind.i64.wrap (a + 1) = a + 1:=i64_wrap _ (by omega) (by omega)
  have w2 : IntKind.i64.wrap (a + 1 - 1) = a:=by rw [i64_wrap _ (by omega) (by omega)]; omega
  have hs : ∀ o',(h.set id o')[id]? = some o':=fun o'=>set_get' hid
  rcases Nat.eq_zero_or_pos L.length with hl | hl
  · simp only [d_q00g, go_sem, hs, s_Below, hl, w1]
    simp only [nextV,hl,if_true]
  · have e1 : ((L.length : Int) = 0) = False := by simp only [eq_iff_iff, iff_false]; omega
    have e2 : 0 ≤ a.tmod L.length:=Int.tmod_nonneg _ h0
    have e3 : a.tmod L.length < L.length:=Int.tmod_lt_of_pos _ (by omega)
    have e4:=natOf_int (k:=.i64) e2
    have e5 : (L.map eI)[(a.tmod L.length).toNat]? = some (eI (L.getD (a.tmod L.length).toNat 0)):=by
      rw [map_get eI (show (a.tmod L.length).toNat < L.length by omega)]
      simp [List.getD,show (a.tmod L.length).toNat < L.length by omega]
    simp only [d_q00g,go_sem,hs,s_Below,e1,w1,w2,e4,e5]
    simp only [nextV,show ¬ L.length = 0 by omega,if_false]
section
variable {L : List Int} {a : Int} {h l : Heap} {id : Nat} {K : Post}
theorem s_Next_set (hid : id < h.length) (hp : posN 0 a) (n : Int) : ACall X f_q00g [.ref id 0,AI n] (h.set id (strm L a)) K = K (AI (nextV L a n)) (h.set id (strm L (a + 1))) []:=(g_Next L a n hp).set hid
theorem s_Next_app (hid : id < h.length) (hp : posN 0 a) (n : Int) : ACall X f_q00g [.ref id 0,AI n] (h.set id (strm L a) ++ l) K = K (AI (nextV L a n)) (h.set id (strm L (a + 1)) ++ l) []:=(g_Next L a n hp).app hid
theorem s_Next_hd (hp : posN 0 a) (n : Int) : ACall X f_q00g [.ref 0 0,AI n] (strm L a :: l) K = K (AI (nextV L a n)) (strm L (a + 1) :: l) []:=(g_Next L a n hp).hd
theorem g_Flip (hp : posN 0 a) (n : Int) : Gen f_q00f [AI n] L a (a + 1) (AB (decide (nextV L a n = 0))):=by
  refine Gen.of fun h id hid=>?_
  rw [c_q00f rfl]
  simp only [d_q00f,go_sem,s_Next_set hid hp]
theorem s_Flip_set (hid : id < h.length) (hp : posN 0 a) (n : Int) : ACall X f_q00f [.ref id 0,AI n] (h.set id (strm L a)) K = K (AB (decide (nextV L a n = 0))) (h.set id (strm L (a + 1))) []:=(g_Flip hp n).set hid
theorem s_Flip_app (hid : id < h.length) (hp : posN 0 a) (n : Int) : ACall X f_q00f [.ref id 0,AI n] (h.set id (strm L a) ++ l) K = K (AB (decide (nextV L a n = 0))) (h.set id (strm L (a + 1)) ++ l) []:=(g_Flip hp n).app hid
theorem s_Flip_hd (hp : posN 0 a) (n : Int) : ACall X f_q00f [.ref 0 0,AI n] (strm L a :: l) K = K (AB (decide (nextV L a n = 0))) (strm L (a + 1) :: l) []:=(g_Flip hp n).hd
theorem g_Pick (hp : posN 0 a) (xs : List PV) (hx : xs.all isI = true) (hl : 0 < xs.length) (hl2 : xs.length < 4611686018427387904) :
    Gen f_q00i [.p (.sl none xs)] L a (a + 1) (AI (pickV (xs.map unI) L a)):=by
  refine Gen.of fun h id hid=>?_
  rw [c_q00i rfl]
  obtain ⟨b1,b2⟩:=nextV_bd L a xs.length (by omega) (by omega)
  have e4:=natOf_int (k:=.i64) b1
  have e5 : xs[(nextV L a xs.length).toNat]? = some (eI (pickV (xs.map unI) L a)):=by
      have hm:=unI_map hx
      generalize hq : xs.map unI = q at *
      subst hm
      simp only [List.length_map] at *
      rw [map_get eI (show (nextV L a q.length).toNat < q.length by omega)]
      simp [pickV,List.getD,show (nextV L a q.length).toNat < q.length by omega]
  simp only [d_q00i,go_sem,s_Next_set hid hp,e4,e5]
theorem s_Pick_set (hid : id < h.length) (hp : posN 0 a) {xs : List PV} (hx : xs.all isI = true) (hl : 0 < xs.length) (hl2 : xs.length < 4611686018427387904) :
    ACall X f_q00i [.ref id 0,.p (.sl none xs)] (h.set id (strm L a)) K = K (AI (pickV (xs.map unI) L a)) (h.set id (strm L (a + 1))) []:=(g_Pick hp xs hx hl hl2).set hid
theorem s_Pick_app (hid : id < h.length) (hp : posN 0 a) {xs : List PV} (hx : xs.all isI = true) (hl : 0 < xs.length) (hl2 : xs.length < 4611686018427387904) :
    ACall X f_q00i [.ref id 0,.p (.sl none xs)] (h.set id (strm L a) ++ l) K = K (AI (pickV (xs.map unI) L a)) (h.set id (strm L (a + 1)) ++ l) []:=(g_Pick hp xs hx hl hl2).app hid
theorem s_Pick_hd (hp : posN 0 a) {xs : List PV} (hx : xs.all isI = true) (hl : 0 < xs.length) (hl2 : xs.length < 4611686018427387904) :
    ACall X f_q00i [.ref 0 0,.p (.sl none xs)] (strm L a :: l) K = K (AI (pickV (xs.map unI) L a)) (strm L (a + 1) :: l) []:=(g_Pick hp xs hx hl hl2).hd
def rangeV (u v : Int) (L : List Int) (a : Int) : Int:=u + nextV L a (v - u + 1)
theorem rangeV_bd {u v : Int} (L : List Int) (a : Int) (h1 : u ≤ v) (h2 : v ≤ u + 4611686018427387900) : u ≤ rangeV u v L a ∧ rangeV u v L a ≤ v:=by
  have:=nextV_bd L a (v - u + 1) (by omega) (by omega)
  unfold rangeV; omega
theorem g_Range (hp : posN 0 a) (u v : Int) (huv : u ≤ v) (hu : -1152921504606846976 ≤ u) (hv : v ≤ 1152921504606846976) :
    Gen f_q00j [AI u,AI v] L a (a + 1) (AI (rangeV u v L a)):=by
  refine Gen.of fun h id hid=>?_
  rw [c_q00j rfl]
  obtain ⟨b1,b2⟩:=rangeV_bd L a huv (by omega)
  have w1 : IntKind.i64.wrap (v - u) = v - u:=i64_wrap _ (by omega) (by omega)
  have w2 : IntKind.i64.wrap (v - u + 1) = v - u + 1:=i64_wrap _ (by omega) (by omega)
  have w3 : IntKind.i64.wrap (u + nextV L a (v - u + 1)) = rangeV u v L a:=i64_wrap (rangeV u v L a) (by omega) (by omega)
  simp only [d_q00j,go_sem,show ¬ v < u by omega,w1,w2,s_Next_set hid hp,w3]
theorem s_Range_set (hid : id < h.length) (hp : posN 0 a) {u v : Int} (huv : u ≤ v) (hu : -1152921504606846976 ≤ u) (hv : v ≤ 1152921504606846976) :
    ACall X f_q00j [.ref id 0,AI u,AI v] (h.set id (strm L a)) K = K (AI (rangeV u v L a)) (h.set id (strm L (a + 1))) []:=(g_Range hp u v huv hu hv).set hid
theorem s_Range_app (hid : id < h.length) (hp : posN 0 a) {u v : Int} (huv : u ≤ v) (hu : -1152921504606846976 ≤ u) (hv : v ≤ 1152921504606846976) :
    ACall X f_q00j [.ref id 0,AI u,AI v] (h.set id (strm L a) ++ l) K = K (AI (rangeV u v L a)) (h.set id (strm L (a + 1)) ++ l) []:=(g_Range hp u v huv hu hv).app hid
theorem s_Range_hd (hp : posN 0 a) {u v : Int} (huv : u ≤ v) (hu : -1152921504606846976 ≤ u) (hv : v ≤ 1152921504606846976) :
    ACall X f_q00j [.ref 0 0,AI u,AI v] (strm L a :: l) K = K (AI (rangeV u v L a)) (strm L (a + 1) :: l) []:=(g_Range hp u v huv hu hv).hd
end
attribute [go_sem ↓] s_Next_set s_Next_app s_Next_hd s_Flip_set s_Flip_app s_Flip_hd s_Pick_set s_Pick_app s_Pick_hd s_Range_set s_Range_app s_Range_hd
attribute [go_sem] s_Next_set s_Next_app s_Next_hd s_Flip_set s_Flip_app s_Flip_hd s_Pick_set s_Pick_app s_Pick_hd s_Range_set s_Range_app s_Range_hd isI unI
end Go.Am
end
section
/- Maps,asv lists of keys with values. -/
open Go
set_option linter.all false
namespace Go.Am
section
variable {α β : Type} [DecidableEq α]
def mesF (key : α → PV) (val : β → AV) : Nat → List (α × β) → List ME
  | _,[]=>[]
  | n,e :: r=>⟨key e.1,val e.2,n⟩ :: mesF key val (n + 1) r
def mobj (key : α → PV) (val : β → AV) (l : List (α × β)) : Obj:=.amap (mesF key val 0 l) l.length
def whereM (k : α) : List (α × β) → Option Nat
  | []=>none
  | e :: r=>if k = e.1 then some 0 else (whereM k r).map (· + 1)
def getM (k : α) : List (α × β) → Option β
  | []=>none
  | e :: r=>if k = e.1 then some e.2 else getM k r
def updM (k : α) (v : β) : List (α × β) → List (α × β)
  | []=>[(k,v)]
  | e :: r=>if k = e.1 then (k,v) :: r else e :: updM k v r
def KeyI (key : α → PV) : Prop:=∀ a b,PV.eqv (key a) (key b) = some (decide (a = b))
theorem keyI_int : KeyI (fun n : Int=>PV.int .i64 n):=fun a b=>by simp [PV.eqv,PV.eq1]
theorem keyOf_int {n : Int} {k : IntKind} : keyOf (none,[0]) (.p (.int k n)) = some (.int k n):=by simp [keyOf,PV.key,PV.shp,PV.sc,PV.cells,PV.kind]
variable {key : α → PV} {val : β → AV}
theorem mfind_mes (hk : KeyI key) (k : α) : ∀ (l : List (α × β)) (n : Nat),mfind (key k) (mesF key val n l) = some (whereM k l)
  | [],n=>rfl
  | e :: r,n=>by
    simp only [mesF,mfind,hk k e.1,whereM]
    by_cases h : k = e.1
    · simp [h]
    · simp [h,mfind_mes hk k r (n + 1)]
theorem mes_get : ∀ (l : List (α × β)) (n i : Nat),(mesF key val n l)[i]? = (l[i]?).map fun e=>⟨key e.1,val e.2,n + i⟩
  | [],n,i=>rfl
  | e :: r,n,0=>rfl
  | e :: r,n,i + 1=>by simp only [mesF,List.getElem?_cons_succ,mes_get r (n + 1) i]; rw [show n + 1 + i = n + (i + 1) by omega]
theorem where_lt {k : α} : ∀ {l : List (α × β)} {i : Nat},whereM k l = some i → i < l.length
  | [],i,h=>by cases h
  | e :: r,i,h=>by
    unfold whereM at h
    split at h
    · cases h; simp
    · obtain ⟨j, hj, e2⟩ := Option.map_eq_some_iff.1 h
      have:=where_lt hj
      simp; omega
theorem where_get {k : α} : ∀ {l : List (α × β)} {i : Nat},whereM k l = some i → l[i]? = (getM k l).map fun v=>(k,v)
  | [],i,h=>by cases h
  | e :: r,i,h=>by
    unfold whereM at h
    unfold getM
    split at h
    · rename_i hk; cases h; simp [hk]
    · rename_i hk
      obtain ⟨j,hj,e2⟩:=Option.map_eq_some_iff.1 h
      subst e2
      rw [if_neg hk,List.getElem?_cons_succ]
      exact where_get hj
theorem where_none {k : α} : ∀ {l : List (α × β)},whereM k l = none → getM k l = none
  | [],h=>rfl
  | e :: r,h=>by
    unfold whereM at h
    unfold getM
    split at h
    · cases h
    · rename_i hk
      rw [if_neg hk]
      exact where_none (by simpa using h)
theorem where_some {k : α} : ∀ {l : List (α × β)} {i : Nat},whereM k l = some i → (getM k l).isSome = true
  | [],i,h=>by cases h
  | e :: r,i,h=>by
    unfold whereM at h
    unfold getM
    split at h
    · rename_i hk; simp [hk]
    · rename_i hk
      obtain ⟨j,hj,e2⟩:=Option.map_eq_some_iff.1 h
      rw [if_neg hk]
      exact where_some hj
theorem look_val {k : α} {l : List (α × β)} {n : Nat} : ((whereM k l).bind fun i=>(mesF key val n l)[i]?).map ME.val = (getM k l).map val:=by
  cases h : whereM k l with
  | none=>rw [where_none h]; rfl
  | some i=>
    simp only [Option.bind_some,mes_get,where_get h]
    cases getM k l <;> rfl
theorem upd_none {k : α} {v : β} : ∀ {l : List (α × β)},whereM k l = none → updM k v l = l ++ [(k,v)]
  | [],h=>rfl
  | e :: r,h=>by
    unfold whereM at h
    unfold updM
    split at h
    · cases h
    · rename_i hk
      rw [if_neg hk,upd_none (by simpa using h)]; rfl
theorem upd_some {k : α} {v : β} : ∀ {l : List (α × β)} {i : Nat},whereM k l = some i → updM k v l = l.set i (k,v)
  | [],i,h=>by cases h
  | e :: r,i,h=>by
    unfold whereM at h
    unfold updM
    split at h
    · rename_i hk; cases h; simp [hk]
    · rename_i hk
      obtain ⟨j,hj,e2⟩:=Option.map_eq_some_iff.1 h
      subst e2
      rw [if_neg hk,upd_some hj]; rfl
theorem mes_snoc (k : α) (v : β) : ∀ (l : List (α × β)) (n : Nat),mesF key val n (l ++ [(k,v)]) = mesF key val n l ++ [⟨key k,val v,n + l.length⟩]
  | [],n=>rfl
  | e :: r,n=>by simp only [List.cons_append,mesF,mes_snoc k v r (n + 1),List.length_cons]; rw [show n + 1 + r.length = n + (r.length + 1) by omega]
theorem mes_modify {k : α} {v : β} {l : List (α × β)} {i n : Nat} (h : whereM k l = some i) : (mesF key val n l).modify i (fun e=>{ e with val:=val v }) = mesF key val n (l.set i (k,v)):=by
  apply List.ext_getElem?
  intro j
  rw [List.getElem?_modify,mes_get,mes_get,List.getElem?_set]
  have hi:=where_lt h
  have hg:=where_get h
  by_cases hij : i = j
  · subst hij
    rw [hg]
    simp only [if_true,hi]
    obtain ⟨w,hw⟩:=Option.isSome_iff_exists.1 (where_some h)
    rw [hw]; rfl
  · simp [hij]
variable {h : Heap} {id : Nat} {l : List (α × β)} {kk : Sh × List Nat} {k : α}
theorem mget_mes (hh : h[id]? = some (mobj key val l)) : mget h (.mp id) = some (id,mesF key val 0 l,l.length):=by
  simp only [mget,hh,mobj]
theorem look_mes (hk : KeyI key) (hh : h[id]? = some (mobj key val l)) (hq : keyOf kk (.p (key k)) = some (key k)) {ok : Bool} {z : AV} :
    oLook kk ok z (.mp id) (.p (key k)) h = some (bif ok then .tup [((getM k l).map val).getD z,AV.p (.bool (getM k l).isSome)] else ((getM k l).map val).getD z):=by
  simp only [oLook,hq,mget_mes hh,Option.map_some,mfind_mes hk,look_val,Option.isSome_map]
  rfl
theorem mupd_mes (hk : KeyI key) (hh : h[id]? = some (mobj key val l)) (hq : keyOf kk (.p (key k)) = some (key k)) {v : β} (hv : okIn (val v) = true) :
    oMupd kk (.mp id) (.p (key k)) (val v) h = some (.und,h.set id (mobj key val (updM k v l)),escOf id (val v)):=by
  simp only [oMupd,hq,mget_mes hh,hv,mfind_mes hk]
  cases hw : whereM k l with
  | none=>
    simp only [mobj,upd_none hw,mes_snoc,List.length_append,List.length_cons,List.length_nil,Nat.zero_add]
  | some i=>
    simp only [mobj,upd_some hw,mes_modify hw,List.length_set]
end
end Go.Am
end
section
/- The shortest way between two states of a test access port: a search over a queue. -/
open Go
set_option linter.all false
namespace Go.Am
variable {h : Heap} {K : Post}
attribute [-go_sem] oLook oMupd oMentry oMrange
def nxtT : List (List Nat):=[[1,0],[1,2],[3,9],[4,5],[4,5],[6,8],[6,7],[4,8],[1,2],[10,0],[11,12],[11,12],[13,15],[13,14],[11,15],[1,2]]
def nxt (s t : Nat) : Nat:=(nxtT.getD s []).getD t 0
theorem nxt_get {s t : Nat} (hs : s < 16) (ht : t < 2) : ([AI 1,AI 0,AI 1,AI 2,AI 3,AI 9,AI 4,AI 5,AI 4,AI 5,AI 6,AI 8,AI 6,AI 7,AI 4,AI 8,AI 1,AI 2,AI 10,AI 0,AI 11,AI 12,AI 11,AI 12,AI 13,AI 15,AI 13,AI 14,AI 11,AI 15,AI 1,AI 2] : List AV)[s * 2 + t * 1]? = some (AI (nxt s t)):=by
  have hs' : s = 0 ∨ s = 1 ∨ s = 2 ∨ s = 3 ∨ s = 4 ∨ s = 5 ∨ s = 6 ∨ s = 7 ∨ s = 8 ∨ s = 9 ∨ s = 10 ∨ s = 11 ∨ s = 12 ∨ s = 13 ∨ s = 14 ∨ s = 15:=by omega
  have ht' : t = 0 ∨ t = 1:=by omega
  rcases hs' with rfl | rfl | rfl | rfl | rfl | rfl | rfl | rfl | rfl | rfl | rfl | rfl | rfl | rfl | rfl | rfl <;> rcases ht' with rfl | rfl <;> rfl
theorem g_tapnext {Y : Ctx} (hY : Y.fn f_q01u = some a_q01u) (s t : Nat) (hs : s < 16) (ht : t < 2) : ACall Y f_q01u [AI s,AI t] h K = K (AI (nxt s t)) h []:=by
  refine rule ?_
  rw [call_val hY rfl (show puras h [AI s,AI t] = some ([AI s,AI t],h) from rfl) rfl,e_q01u]
  show d_q01u _ _ _ _ _ _ (finR [.t 4] false _ _)
  have g:=nxt_get hs ht
  simp only [d_q01u,go_sem,hs,ht,g]
abbrev Ways:=List (Int × List UInt8)
def keyP (n : Int) : PV:=.int .i64 n
def valP (s : List UInt8) : AV:=.p (.str s)
def bit1 (t : Nat) : List UInt8:=[UInt8.ofNat (48 + t)]
def visit (at_ t : Nat) (s : Ways × List Nat) : Ways × List Nat:=
  if (getM (nxt at_ t : Int) s.1).isSome then s else (updM (nxt at_ t : Int) ((getM (at_ : Int) s.1).getD [] ++ bit1 t) s.1,s.2 ++ [nxt at_ t])
def visits (at_ : Nat) : Nat → Ways × List Nat → Ways × List Nat
  | 0,s=>s
  | t + 1,s=>visit at_ t (visits at_ t s)
def popS (s : Ways × List Nat) : Ways × List Nat:=match s.2 with
  | []=>s
  | a :: r=>visits a 2 (s.1,r)
def bfs (a : Nat) : Nat → Ways × List Nat
  | 0=>([((a : Int),[])],[a])
  | k + 1=>popS (bfs a k)
def pathV (a b : Nat) : List UInt8:=(getM (b : Int) (bfs a 16).1).getD []
def fineS (s : Ways × List Nat) : Bool:=decide (s.1.length ≤ 16) && decide (s.2.length ≤ 16) && s.2.all (fun x=>decide (x < 16)) && s.1.all (fun e=>decide (e.2.length ≤ 16))
theorem bfs_all : (List.range 16).all (fun a=>(List.range 16).all (fun k=>fineS (bfs a k) && !(bfs a k).2.isEmpty) && fineS (bfs a 16) && (bfs a 16).2.isEmpty) = true:=by kernel_rfl
theorem bfs_fine {a k : Nat} (ha : a < 16) (hk : k < 16) : fineS (bfs a k) = true ∧ (bfs a k).2 ≠ []:=by
  have h1:=List.all_eq_true.1 bfs_all a (List.mem_range.2 ha)
  simp only [Bool.and_eq_true] at h1
  have h2:=List.all_eq_true.1 h1.1.1 k (List.mem_range.2 hk)
  simp only [Bool.and_eq_true,Bool.not_eq_true',List.isEmpty_eq_false_iff] at h2
  exact h2
theorem bfs_end {a : Nat} (ha : a < 16) : fineS (bfs a 16) = true ∧ (bfs a 16).2 = []:=by
  have h1:=List.all_eq_true.1 bfs_all a (List.mem_range.2 ha)
  simp only [Bool.and_eq_true,List.isEmpty_iff] at h1
  exact ⟨h1.1.2,h1.2⟩
theorem fine_inv {s : Ways × List Nat} (hf : fineS s = true) : s.1.length ≤ 16 ∧ s.2.length ≤ 16 ∧ (∀ x ∈ s.2,x < 16) ∧ ∀ e ∈ s.1,e.2.length ≤ 16:=by
  unfold fineS at hf
  simp only [Bool.and_eq_true,decide_eq_true_eq,List.all_eq_true] at hf
  exact ⟨hf.1.1.1,hf.1.1.2,hf.1.2,hf.2⟩
theorem lookP {hp : Heap} {id : Nat} {m : Ways} {b : Int} (hh : hp[id]? = some (mobj keyP valP m)) : oLook (none,[0]) false (.p (.str [])) (.mp id) (AI b) hp = some (.p (.str ((getM b m).getD []))):=by
  have:=look_mes (key:=keyP) (val:=valP) (fun a b=>keyI_int a b) hh (kk:=(none,[0])) (k:=b) keyOf_int (ok:=false) (z:=.p (.str []))
  rw [cond_false] at this
  refine this.trans ?_
  cases getM b m <;> rfl
theorem lookQ {hp : Heap} {id : Nat} {m : Ways} {b : Int} (hh : hp[id]? = some (mobj keyP valP m)) : oLook (none,[0]) true (.p (.str [])) (.mp id) (AI b) hp = some (.tup [.p (.str ((getM b m).getD [])),AB (getM b m).isSome]):=by
  have:=look_mes (key:=keyP) (val:=valP) (fun a b=>keyI_int a b) hh (kk:=(none,[0])) (k:=b) keyOf_int (ok:=true) (z:=.p (.str []))
  rw [cond_true] at this
  refine this.trans ?_
  cases getM b m <;> rfl
theorem updP {hp : Heap} {id : Nat} {m : Ways} {b : Int} {v : List UInt8} (hh : hp[id]? = some (mobj keyP valP m)) : oMupd (none,[0]) (.mp id) (AI b) (.p (.str v)) hp = some (.und,hp.set id (mobj keyP valP (updM b v m)),[]):=
  mupd_mes (key:=keyP) (val:=valP) (fun a b=>keyI_int a b) hh (kk:=(none,[0])) (k:=b) keyOf_int (v:=v) rfl
structure Que (R : Heap) (i : Nat) (xs : List Nat) (off : Nat) (q : List Nat) : Prop where
  get : R[i]? = some (.row none (xs.map fun n : Nat=>eI n) 0)
  le : off ≤ xs.length
  eq : xs.drop off = q
theorem nq_one {hp : Heap} {id : Nat} {xs : List Nat} {off : Nat} {n : Int} {k : AV → Heap → Esc → Prop} (hh : hp[id]? = some (.row none (xs.map fun n : Nat=>eI n) 0)) (ho : off ≤ xs.length) (hm : xs.length ≤ 1000000)
    (k1 : k (.own id (xs.length + 1) off (xs.length - off + 1)) (hp.set id (.row none (xs.map (fun n : Nat=>eI n) ++ [eI n]) 0)) [])
    (k2 : k (.own hp.length (xs.length - off + 1) 0 (xs.length - off + 1)) (hp ++ [.row none ((xs.drop off).map (fun n : Nat=>eI n) ++ [eI n]) 0]) []) :
    nqK (some none) [.own id xs.length off (xs.length - off),.p (.sl none [eI n])] hp k:=by
  have hx : xs.length - off + 1 ≤ maxSl:=by unfold maxSl; omega
  have hr : rds hp (.p (.sl none [eI n])) = some (none,[eI n]):=rfl
  have hw : win (xs.map fun n : Nat=>eI n) off (xs.length - off) = (xs.drop off).map fun n : Nat=>eI n:=by
    unfold win
    rw [← List.map_drop]
    exact List.take_of_length_le (by simp)
  unfold nqK choices appq
  simp only [hr,if_true,hh,List.length_map,List.length_cons,List.length_nil,Nat.zero_add]
  rw [if_pos ⟨trivial,trivial,by omega,hx,Nat.zero_le _⟩,hw]
  refine ⟨by simp,fun y hy=>?_⟩
  simp only [List.mem_cons,List.not_mem_nil,or_false] at hy
  rcases hy with rfl | rfl
  · exact k1
  · exact k2
theorem mem_updM {α β : Type} [DecidableEq α] {k : α} {v : β} : ∀ {l : List (α × β)} {e : α × β},e ∈ updM k v l → e ∈ l ∨ e = (k,v)
  | [],e,h=>by simp [updM] at h; exact .inr h
  | x :: r,e,h=>by
    unfold updM at h
    split at h
    · rcases List.mem_cons.1 h with h | h
      · exact .inr h
      · exact .inl (List.mem_cons_of_mem _ h)
    · rcases List.mem_cons.1 h with h | h
      · exact .inl (h ▸ List.mem_cons_self)
      · rcases mem_updM h with h | h
        · exact .inl (List.mem_cons_of_mem _ h)
        · exact .inr h
theorem getM_mem {α β : Type} [DecidableEq α] {k : α} {v : β} : ∀ {l : List (α × β)},getM k l = some v → (k,v) ∈ l
  | [],h=>by cases h
  | x :: r,h=>by
    unfold getM at h
    split at h
    · rename_i he; cases h; subst he; simp
    · exact List.mem_cons_of_mem _ (getM_mem h)
theorem ways_len {n : Nat} {w : Ways} (hw : ∀ e ∈ w,e.2.length ≤ n) (k : Int) : ((getM k w).getD []).length ≤ n:=by
  cases hg : getM k w with
  | none=>simp
  | some v=>exact hw _ (getM_mem hg)
theorem visit_len {n at_ t : Nat} {s : Ways × List Nat} (hw : ∀ e ∈ s.1,e.2.length ≤ n) : ∀ e ∈ (visit at_ t s).1,e.2.length ≤ n + 1:=by
  unfold visit
  split
  · intro e he; have:=hw e he; omega
  · intro e he
    rcases mem_updM he with h | h
    · have:=hw e h; omega
    · subst h
      have:=ways_len hw (at_ : Int)
      simp [bit1]; omega
theorem visits_len {n at_ : Nat} {s : Ways × List Nat} (hw : ∀ e ∈ s.1,e.2.length ≤ n) : ∀ (t : Nat),∀ e ∈ (visits at_ t s).1,e.2.length ≤ n + t
  | 0=>hw
  | t + 1=>visit_len (visits_len hw t)
set_option maxHeartbeats 1000000 in
theorem g_path {Y : Ctx} (hY1 : Y.fn f_q01v = some a_q01v) (hY2 : Y.fn f_q01u = some a_q01u) (a b : Nat) (ha : a < 16) (hb : b < 16) : ACall Y f_q01v [AI a,AI b] h K = K (.p (.str (pathV a b))) h []:=by
  refine rule ?_
  rw [call_val_det hY1 rfl (show puras h [AI a,AI b] = some ([AI a,AI b],h) from rfl) rfl]
  simp only [e_q01v]
  show ∃ v h' x,_ ∧ d_q01v _ _ _ _ _ _ _ _ (finR [.t 4] false _ _)
  simp only [d_q01v]
  refine ⟨_,_,_,⟨rfl,rfl,rfl⟩,?_⟩
  have em : mobj keyP valP [((a : Int),([] : List UInt8))] = .amap [⟨.int .i64 a,.p (.str []),0⟩] 1:=rfl
  have u0:=fun (hp : Heap) (hh : hp[h.length]? = some (mobj keyP valP []))=>updP (b:=(a : Int)) (v:=[]) hh
  have e0 : updM (a : Int) [] ([] : Ways) = [((a : Int),[])]:=rfl
  have em0 : mobj keyP valP ([] : Ways) = .amap [] 0:=rfl
  rw [e0] at u0
  simp only [em0] at u0
  simp only [go_sem,u0]
  refine N_loop (fun t : Nat × Heap × Nat × List Nat × Nat × Option Nat=>⟨[(1,AI b),(5,.mp h.length),(6,.own (h.length + (t.2.2.1 + 1)) t.2.2.2.1.length t.2.2.2.2.1 (t.2.2.2.1.length - t.2.2.2.2.1))] ++ (match t.2.2.2.2.2 with | none=>[] | some q=>[(7,AI q),(25,AI 2),(26,AB false)]),h ++ mobj keyP valP (bfs a t.1).1 :: t.2.1,[]⟩)
    (fun t=>t.1 ≤ 16 ∧ Que t.2.1 t.2.2.1 t.2.2.2.1 t.2.2.2.2.1 (bfs a t.1).2 ∧ t.2.2.2.1.length ≤ 1 + 2 * t.1) (fun t=>16 - t.1) (0,[.row none [eI a] 0],0,[a],0,none) (by simp [bfs]) ⟨by simp,⟨rfl,by simp,rfl⟩,by simp⟩ ?_
  rintro ⟨k,R,i,xs,off,oq⟩ ⟨h1,hq,h2⟩
  dsimp only at h1 hq h2 ⊢
  have hqg:=hq.get
  have hle:=hq.le
  have heq:=hq.eq
  have hln : xs.length - off = (bfs a k).2.length:=by rw [← heq]; simp
  by_cases hk : k < 16
  · obtain ⟨hf, hne⟩ := bfs_fine ha hk
    obtain ⟨f1,f2,f3,f4⟩:=fine_inv hf
    have hpos : 0 < xs.length - off:=by rw [hln]; exact List.length_pos_iff.2 hne
    have hoff : off < xs.length:=by omega
    obtain ⟨q0,qr,hqe⟩ : ∃ q0 qr,(bfs a k).2 = q0 :: qr:=by
      cases hb2 : (bfs a k).2 with
      | nil=>exact absurd hb2 hne
      | cons x y=>exact ⟨x,y,rfl⟩
    have hx0 : xs[off]? = some q0:=by
      have : (xs.drop off)[0]? = some q0:=by rw [heq,hqe]; rfl
      rwa [List.getElem?_drop,Nat.add_zero] at this
    have hdr : xs.drop (off + 1) = qr:=by
      rw [← List.drop_drop,heq,hqe]; rfl
    have hq0 : q0 < 16:=f3 q0 (by rw [hqe]; simp)
    have hgq : (xs.map fun n : Nat=>eI n)[off]? = some (eI q0):=by rw [List.getElem?_map,hx0]; rfl
    have hpi : (0 : Int) < ((xs.length - off : Nat) : Int):=by omega
    have hl1 : 1 ≤ xs.length - off:=by omega
    have hbn : bfs a (k + 1) = visits q0 2 ((bfs a k).1,qr):=by show popS _ = _; unfold popS; rw [hqe]
    have e3 : xs.length - off - 1 = xs.length - (off + 1):=by omega
    have hcond : off + (xs.length - off) ≤ xs.length:=by omega
    have hNL : ∀ (e : List (Nat × AV)),prune (some [1,5,6,7,25]) e = prune (some [1,5,6,7,25]) e:=fun _=>rfl
    rcases oq with _ | oq
    all_goals
    simp only [List.append_nil,List.cons_append,List.nil_append,go_sem,List.getElem?_cons_succ,hqg,hpi,hpos,hgq,hl1,hcond]
    all_goals
    clear u0 em em0 e0
    generalize hw0 : ((bfs a k).1,qr) = s0 at *
    have es1 : (bfs a k).1 = s0.1:=by rw [← hw0]
    have es2 : qr = s0.2:=by rw [← hw0]
    rw [es1,e3]
    refine N_loop (fun t : Nat × Heap × Nat × List Nat × Nat=>⟨[(1,AI b),(5,.mp h.length),(6,.own (h.length + (t.2.2.1 + 1)) t.2.2.2.1.length t.2.2.2.2 (t.2.2.2.1.length - t.2.2.2.2)),(7,AI q0),(25,AI t.1)],h ++ mobj keyP valP (visits q0 t.1 s0).1 :: t.2.1,[]⟩)
      (fun t=>t.1 ≤ 2 ∧ Que t.2.1 t.2.2.1 t.2.2.2.1 t.2.2.2.2 (visits q0 t.1 s0).2 ∧ t.2.2.2.1.length ≤ 1 + 2 * k + t.1) (fun t=>2 - t.1) (0,R,i,xs,off + 1) rfl ⟨by simp,⟨hqg,hoff,by rw [hdr,es2]; rfl⟩,by simp; omega⟩ ?_
    rintro ⟨j,R',i',ys,of'⟩ ⟨j1,jq,j2⟩
    dsimp only at j1 jq j2 ⊢
    have jg:=jq.get
    have jle:=jq.le
    have jeq:=jq.eq
    by_cases hj : j < 2
    · have hji : (j : Int) < 2 := by omega
      have qn:=fun h K=>g_tapnext (h:=h) (K:=K) hY2 q0 j hq0 hj
      have hvis : visits q0 (j + 1) s0 = visit q0 j (visits q0 j s0):=rfl
      generalize hsj : visits q0 j s0 = s at *
      have lq:=fun (hp : Heap) (hh : hp[h.length]? = some (mobj keyP valP s.1))=>lookQ (b:=(nxt q0 j : Int)) hh
      have lp:=fun (hp : Heap) (hh : hp[h.length]? = some (mobj keyP valP s.1))=>lookP (b:=(q0 : Int)) hh
      have up:=fun (hp : Heap) (v : List UInt8) (hh : hp[h.length]? = some (mobj keyP valP s.1))=>updP (b:=(nxt q0 j : Int)) (v:=v) hh
      have w1 : IntKind.i64.wrap ((j : Int) + 1) = ((j + 1 : Nat) : Int):=i64_wrap _ (by omega) (by omega)
      cases hs : (getM (nxt q0 j : Int) s.1).isSome with
      | true=>
        have hv : visit q0 j s = s:=by unfold visit; rw [if_pos hs]
        rw [hv] at hvis
        simp only [go_sem,hji,↓qn,qn,lq,hs,w1]
        exact ⟨(j + 1,R',i',ys,of'),by dsimp only; rw [hvis],⟨by dsimp only; omega,by dsimp only; rw [hvis]; exact jq,by dsimp only; omega⟩,by dsimp only; omega⟩
      | false=>
        have hv : visit q0 j s = (updM (nxt q0 j : Int) ((getM (q0 : Int) s.1).getD [] ++ bit1 j) s.1,s.2 ++ [nxt q0 j]):=by unfold visit; rw [hs]; rfl
        rw [hv] at hvis
        have w2 : IntKind.i64.wrap (48 + (j : Int)) = ((48 + j : Nat) : Int):=i64_wrap _ (by omega) (by omega)
        have w3 : IntKind.i32.wrap ((48 + j : Nat) : Int) = ((48 + j : Nat) : Int):=by
          have : j = 0 ∨ j = 1:=by omega
          rcases this with rfl | rfl <;> rfl
        have w4 : (0 : Int) ≤ ((48 + j : Nat) : Int) ∧ ((48 + j : Nat) : Int) < 128:=by omega
        have hln2:=ways_len (visits_len (n:=16) (at_:=q0) (s:=s0) (by rw [← es1]; exact f4) j) (q0 : Int)
        rw [hsj] at hln2
        have w5 : ((getM (q0 : Int) s.1).getD []).length + (bit1 j).length ≤ maxStr:=by have : (bit1 j).length = 1:=rfl; unfold maxStr; omega
        have w6 : [UInt8.ofNat ((48 + j : Nat) : Int).toNat] = bit1 j:=rfl
        simp only [go_sem,hji,↓qn,qn,lq,hs,lp,up,w1,w2,w3,w4,w5,w6]
        have hh1 : (h ++ mobj keyP valP (updM (nxt q0 j : Int) ((getM (q0 : Int) s.1).getD [] ++ bit1 j) s.1) :: R')[h.length + (i' + 1)]? = some (.row none (ys.map fun n : Nat=>eI n) 0):=by
          rw [List.getElem?_append_right (by omega)]; simpa using jg
        have hi' : i' < R'.length:=lt_of_get jg
        refine nq_one hh1 jle (by omega) ?_ ?_
        · refine ⟨(j + 1, R'.set i' (.row none (ys.map (fun n : Nat => eI n) ++ [eI (nxt q0 j)]) 0), i', ys ++ [nxt q0 j], of'), ?_, ⟨by dsimp only; omega, ⟨?_, ?_, ?_⟩, ?_⟩, by dsimp only; omega⟩
          · dsimp only
            rw [hvis,List.set_append_right _ _ (by omega)]
            simp only [List.length_append,List.length_cons,List.length_nil,Nat.add_sub_cancel_left,List.set_cons_succ]
            rw [show ys.length + 1 - of' = ys.length - of' + 1 by omega]
          · dsimp only
            rw [List.getElem?_set_self hi']; simp
          · simp; omega
          · dsimp only
            rw [hvis,List.drop_append_of_le_length jle,jeq]
          · simp; omega
        · refine ⟨(j + 1, R' ++ [.row none ((ys.drop of').map (fun n : Nat => eI n) ++ [eI (nxt q0 j)]) 0], R'.length, ys.drop of' ++ [nxt q0 j], 0), ?_, ⟨by dsimp only; omega, ⟨?_, ?_, ?_⟩, ?_⟩, by dsimp only; omega⟩
          · dsimp only
            rw [hvis]
            simp
          · simp
          · simp
          · dsimp only
            rw [hvis,jeq,List.drop_zero]
          · simp; omega
    · have hj2 : j = 2 := by omega
      subst hj2
      simp only [go_sem]
      refine ⟨(k + 1,R',i',ys,of',some q0),?_,⟨by dsimp only; omega,by dsimp only; rw [hbn]; exact jq,by dsimp only; omega⟩,by dsimp only; omega⟩
      dsimp only
      rw [hbn]
  · have hk16 : k = 16 := by omega
    subst hk16
    obtain ⟨_,hne⟩:=bfs_end ha
    have hz : xs.length - off = 0:=by rw [hln,hne]; rfl
    have lk:=fun (hp : Heap) (hh : hp[h.length]? = some (mobj keyP valP (bfs a 16).1))=>lookP (b:=(b : Int)) hh
    have hpv : (getM (b : Int) (bfs a 16).1).getD [] = pathV a b:=rfl
    rcases oq with _ | oq <;> simp only [List.append_nil,List.cons_append,List.nil_append,go_sem,hz,lk,hpv]
end Go.Am
end
section
/- Plain lists: insertion sort asv Go's package slices does it on short lists; deleting; compacting. -/
namespace Go.Am
variable {α : Type}
end Go.Am
namespace Go.Am
variable {α : Type}
end Go.Am
end
section
/- Faults of nets: what the words mean,in plain Lean. -/
set_option linter.all false
namespace Go.Am
def isBit (c : UInt8) : Bool:=[48,49].contains c
def bitsB (s : List UInt8) : Bool:=s.all isBit
theorem dropW_nil (p : UInt8 → Bool) : ∀ l : List UInt8,l.dropWhile p = [] ↔ l.all p = true
  | []=>by simp
  | c :: r=>by
    rw [List.dropWhile_cons,List.all_cons]
    cases hp : p c with
    | true=>simp only [if_true,Bool.true_and]; exact dropW_nil p r
    | false=>simp
theorem trim_bits (s : List UInt8) : decide ((s.reverse.dropWhile ([48,49].contains ·)).reverse.dropWhile ([48,49].contains ·) = []) = bitsB s:=by
  rw [Bool.eq_iff_iff,decide_eq_true_eq,dropW_nil,List.all_reverse]
  have hb : bitsB s = s.all ([48,49].contains ·):=rfl
  rw [hb]
  constructor
  · intro h
    rw [← dropW_nil] at h
    have key : ∀ l : List UInt8,(l.dropWhile ([48,49].contains ·)).all ([48,49].contains ·) = true → l.all ([48,49].contains ·) = true:=by
      intro l
      induction l with
      | nil=>intro _; rfl
      | cons c r ih=>
        rw [List.dropWhile_cons]
        split
        · rename_i hp; intro h; rw [List.all_cons,hp,ih h]; rfl
        · exact id
    have:=key s.reverse ((dropW_nil _ _).1 h)
    rwa [List.all_reverse] at this
  · intro h
    have key : ∀ l : List UInt8,l.all ([48,49].contains ·) = true → (l.dropWhile ([48,49].contains ·)).all ([48,49].contains ·) = true:=by
      intro l hl
      rw [(dropW_nil _ l).2 hl]; rfl
    exact key _ (by rwa [List.all_reverse])
end Go.Am
end
section
/- Numbers asv sets of bits; rows of a test asv numbers. -/
set_option linter.all false
namespace Go.Am
theorem bitsB_take {s : List UInt8} (k : Nat) (h : bitsB s = true) : bitsB (s.take k) = true:=by
  unfold bitsB at *
  rw [List.all_eq_true] at *
  exact fun x hx=>h x (List.mem_of_mem_take hx)
theorem bit_at {s : List UInt8} {k : Nat} (hk : k < s.length) (h : bitsB s = true) : s[k] = 48 ∨ s[k] = 49:=by
  unfold bitsB at h
  have:=List.all_eq_true.1 h _ (List.getElem_mem hk)
  unfold isBit at this
  simpa [List.contains_cons] using this
end Go.Am
end
section
/- Walks over the states of a test access port,plainly. -/
namespace Go.Am
def nxtU : List (List Nat):=[[1,0],[1,2],[3,9],[4,5],[4,5],[6,8],[6,7],[4,8],[1,2],[10,0],[11,12],[11,12],[13,15],[13,14],[11,15],[1,2]]
def stp (s t : Nat) : Nat:=(nxtU.getD s []).getD t 0
theorem stp_lt {s t : Nat} (hs : s < 16) (ht : t < 2) : stp s t < 16:=by
  have key : (List.range 16).all (fun s=>(List.range 2).all fun t=>decide (stp s t < 16)) = true:=by decide
  have:=List.all_eq_true.1 key s (List.mem_range.2 hs)
  exact of_decide_eq_true (List.all_eq_true.1 this t (List.mem_range.2 ht))
def stW (s : Nat) (c : UInt8) : Nat:=stp s (c.toNat - 48)
def walkL (s : Nat) : List UInt8 → List Nat
  | []=>[]
  | c :: r=>stW s c :: walkL (stW s c) r
def endL (s : Nat) (l : List UInt8) : Nat:=l.foldl stW s
theorem walkL_length : ∀ (l : List UInt8) (s : Nat),(walkL s l).length = l.length
  | [],s=>rfl
  | c :: r,s=>by simp [walkL,walkL_length r]
theorem walkL_snoc (c : UInt8) : ∀ (l : List UInt8) (s : Nat),walkL s (l ++ [c]) = walkL s l ++ [stW (endL s l) c]
  | [],s=>rfl
  | d :: r,s=>by simp only [List.cons_append,walkL,walkL_snoc c r]; rfl
theorem endL_snoc (s : Nat) (l : List UInt8) (c : UInt8) : endL s (l ++ [c]) = stW (endL s l) c:=by simp [endL]
theorem endL_append (s : Nat) (l r : List UInt8) : endL s (l ++ r) = endL (endL s l) r:=by simp [endL]
theorem stW_lt {s : Nat} {c : UInt8} (hs : s < 16) (hc : c = 48 ∨ c = 49) : stW s c < 16:=by
  rcases hc with rfl | rfl
  · exact stp_lt hs (by decide)
  · exact stp_lt hs (by decide)
theorem bits_cases {c : UInt8} {l : List UInt8} (h : bitsB l = true) (hc : c ∈ l) : c = 48 ∨ c = 49:=by
  have:=List.all_eq_true.1 h c hc
  simpa [isBit] using this
theorem endL_lt : ∀ {l : List UInt8} {s : Nat},s < 16 → bitsB l = true → endL s l < 16
  | [],s,hs,_=>hs
  | c :: r,s,hs,h=>by
    have h1:=bits_cases h (List.mem_cons_self ..)
    exact endL_lt (l:=r) (stW_lt hs h1) (List.all_eq_true.2 fun x hx=>List.all_eq_true.1 h x (List.mem_cons_of_mem _ hx))
theorem walkL_last (s : Nat) (l : List UInt8) (h : 0 < l.length) : (walkL s l)[l.length - 1]? = some (endL s l):=by
  obtain ⟨i,c,rfl⟩ : ∃ i c,l = i ++ [c]:=⟨l.dropLast,l.getLast (by intro e; subst e; simp at h),(List.dropLast_concat_getLast _).symm⟩
  rw [walkL_snoc,endL_snoc]
  have : (walkL s i).length = i.length:=walkL_length i s
  simp [← this]
def rowS : Nat → List (List UInt8)
  | 0=>[[]]
  | k + 1=>(rowS k).flatMap fun s=>[s ++ [48],s ++ [49]]
theorem rowS_length : ∀ k,(rowS k).length = 2 ^ k
  | 0=>rfl
  | k + 1=>by
    have : ∀ l : List (List UInt8),(l.flatMap fun s=>[s ++ [48],s ++ [49]]).length = 2 * l.length:=by
      intro l
      induction l with
      | nil=>rfl
      | cons a r ih=>simp [ih]; omega
    simp only [rowS,this,rowS_length k,Nat.pow_succ]
    omega
theorem rowS_mem : ∀ {k : Nat} {s : List UInt8},s ∈ rowS k → bitsB s = true ∧ s.length = k
  | 0,s,h=>by simp [rowS] at h; subst h; exact ⟨rfl,rfl⟩
  | k + 1,s,h=>by
    simp only [rowS,List.mem_flatMap] at h
    obtain ⟨t,ht,hs⟩:=h
    obtain ⟨h1,h2⟩:=rowS_mem ht
    have : ∀ c : UInt8,c = 48 ∨ c = 49 → bitsB (t ++ [c]) = true:=fun c hc=>by
      unfold bitsB at h1 ⊢
      rw [List.all_append,h1]
      rcases hc with rfl | rfl <;> rfl
    simp only [List.mem_cons,List.not_mem_nil,or_false] at hs
    rcases hs with rfl | rfl
    · exact ⟨this _ (.inl rfl),by simp [h2]⟩
    · exact ⟨this _ (.inr rfl),by simp [h2]⟩
def wayF (a b : Nat) : Nat → Nat → Option (List UInt8)
  | 0,_=>none
  | n + 1,k=>match (rowS k).find? fun s=>endL a s == b with
    | some s=>some s
    | none=>wayF a b n (k + 1)
theorem wayF_spec' {a b : Nat} {w : List UInt8} : ∀ {n k : Nat},wayF a b n k = some w → ∃ kw,k ≤ kw ∧ kw < k + n ∧ (rowS kw).find? (fun s=>endL a s == b) = some w ∧ ∀ j,k ≤ j → j < kw → (rowS j).find? (fun s=>endL a s == b) = none
  | 0,k,h=>by cases h
  | n + 1,k,h=>by
    unfold wayF at h
    split at h
    · rename_i s hs
      cases h
      exact ⟨k,by omega,by omega,hs,fun j h1 h2=>by omega⟩
    · rename_i hs
      obtain ⟨kw,h1,h2,h3,h4⟩:=wayF_spec' h
      refine ⟨kw,by omega,by omega,h3,fun j h5 h6=>?_⟩
      rcases Nat.lt_or_ge k j with h7 | h7
      · exact h4 j h7 h6
      · rw [show j = k by omega]; exact hs
theorem wayF_spec {a b : Nat} {w : List UInt8} {n : Nat} (h : wayF a b n 0 = some w) : ∃ kw,kw < n ∧ (rowS kw).find? (fun s=>endL a s == b) = some w ∧ ∀ j,j < kw → (rowS j).find? (fun s=>endL a s == b) = none:=by
  obtain ⟨kw,_,h2,h3,h4⟩:=wayF_spec' h
  exact ⟨kw,by omega,h3,fun j hj=>h4 j (by omega) hj⟩
theorem find_first {α : Type} {p : α → Bool} : ∀ {l : List α} {i : Nat} {s : α},(∀ x ∈ l.take i,p x = false) → l[i]? = some s → p s = true → l.find? p = some s
  | [],i,s,_,h,_=>by simp at h
  | a :: r,0,s,_,h,hp=>by
    simp only [List.getElem?_cons_zero,Option.some.injEq] at h
    subst h
    simp [hp]
  | a :: r,i + 1,s,hn,h,hp=>by
    have h1 : p a = false:=hn a (by simp)
    have:=find_first (l:=r) (i:=i) (s:=s) (fun x hx=>hn x (by simp [hx])) (by simpa using h) hp
    simp [h1,this]
theorem find_nothing {α : Type} {p : α → Bool} {l : List α} (h : ∀ x ∈ l,p x = false) : l.find? p = none:=List.find?_eq_none.2 fun x hx=>by simp [h x hx]
def frS : List Nat:=[0,1,6,13,5,12]
def toS : List Nat:=[0,1,6,13,4,11]
end Go.Am
end
section
/- Programs of vectors,plainly: what is wrong with commands; what the reference makes of them,and what the program does. -/
namespace Go.Am
structure Cmd where
  k : Int
  s : Int
  cl : Int
  b : List UInt8
  w : List UInt8
  m : List UInt8
  deriving DecidableEq
def stableB (n : Int) : Bool:=n == 0 || n == 1 || n == 6 || n == 13
def scanF (c : Cmd) : Nat:=
  if c.b = [] then 8 else if !bitsB c.b then 9 else if 2000 < c.b.length then 2
  else if c.w ≠ [] ∧ (c.w.length ≠ c.b.length ∨ c.m.length ≠ c.b.length) then 3
  else if !bitsB c.w || !bitsB c.m then 9 else if c.w = [] ∧ c.m ≠ [] then 3 else 0
def cmdF (c : Cmd) : Nat:=
  if c.k = 1 ∨ c.k = 2 ∨ c.k = 10 then (if !stableB c.s then 1 else if c = ⟨c.k,c.s,0,[],[],[]⟩ then 0 else 3)
  else if c.k = 9 then (if c.cl < 0 ∨ 20000 < c.cl then 1 else if c = ⟨c.k,0,c.cl,[],[],[]⟩ then 0 else 3)
  else if c.k = 7 ∨ c.k = 8 then (if scanF c ≠ 0 then scanF c else if c = ⟨c.k,0,0,c.b,c.w,c.m⟩ then 0 else 3)
  else if 3 ≤ c.k ∧ c.k ≤ 6 then (if !bitsB c.b then 9 else if 2000 < c.b.length then 2 else if c = ⟨c.k,0,0,c.b,[],[]⟩ then 0 else 3)
  else 4
def cmdsF : List Cmd → Nat
  | []=>0
  | c :: r=>if cmdF c ≠ 0 then cmdF c else cmdsF r
def idleC : Cmd:=⟨0,1,0,[],[],[]⟩
def setC (l : List Cmd) (k : Int) : Cmd:=(l.reverse.find? fun c=>c.k == k).getD idleC
structure Part where
  tms : List UInt8
  tdi : List UInt8
  want : List UInt8
  fr : Nat
  st : Nat
def zs (n : Nat) : List UInt8:=List.replicate n 48
def xsL (n : Nat) : List UInt8:=List.replicate n 120
def expAt (c : Cmd) (i : Nat) : UInt8:=if c.m[i]? = some 49 then (c.w[i]?).getD 0 else 120
def expC (c : Cmd) : List UInt8:=(List.range c.b.length).map (expAt c)
def padP (p : Part) : Part:={ p with tdi:=p.tdi ++ zs (p.tms.length - p.tdi.length),want:=p.want ++ xsL (p.tms.length - p.want.length) }
variable (path : Nat → Nat → List UInt8)
def scanP (c : Cmd) (state sh ex : Nat) (hd tl : List UInt8) (en : Nat) : Part:=
  { tms:=path state sh ++ zs ((hd ++ c.b ++ tl).length - 1) ++ [49] ++ path ex en
    tdi:=zs (path state sh).length ++ (hd ++ c.b ++ tl)
    want:=xsL ((path state sh).length + hd.length) ++ expC c
    fr:=(path state sh).length + hd.length
    st:=en }
def partC (pre : List Cmd) (c : Cmd) (state : Nat) : Part:=
  padP (if c.k = 10 then ⟨path state c.s.toNat,[],[],0,c.s.toNat⟩
    else if c.k = 9 then ⟨path state 1 ++ zs c.cl.toNat,[],[],0,1⟩
    else if c.k = 7 then scanP path c state 11 12 (setC pre 3).b (setC pre 4).b (setC pre 1).s.toNat
    else if c.k = 8 then scanP path c state 4 5 (setC pre 5).b (setC pre 6).b (setC pre 2).s.toNat
    else ⟨[],[],[],0,state⟩)
def partsC (pre : List Cmd) (state : Nat) : List Cmd → List Part
  | []=>[]
  | c :: r=>partC path pre c state :: partsC (pre ++ [c]) (partC path pre c state).st r
def sigT (l : List Part) : List UInt8:=l.flatMap Part.tms
def sigI (l : List Part) : List UInt8:=l.flatMap Part.tdi
def sigW (l : List Part) : List UInt8:=l.flatMap Part.want
def progF (l : List Cmd) : Nat:=if 1000 < l.length then 2 else if cmdsF l ≠ 0 then cmdsF l else if 20000 < (sigT (partsC path [] 0 l)).length then 2 else 0
structure Sett where
  e1 : Cmd
  e2 : Cmd
  h1 : Cmd
  t1 : Cmd
  h2 : Cmd
  t2 : Cmd
def sett0 : Sett:=⟨⟨1,1,0,[],[],[]⟩,⟨2,1,0,[],[],[]⟩,⟨3,0,0,[],[],[]⟩,⟨4,0,0,[],[],[]⟩,⟨5,0,0,[],[],[]⟩,⟨6,0,0,[],[],[]⟩⟩
def Sett.put (s : Sett) (c : Cmd) : Sett:=
  if c.k = 1 then { s with e1:=c } else if c.k = 2 then { s with e2:=c } else if c.k = 3 then { s with h1:=c } else if c.k = 4 then { s with t1:=c } else if c.k = 5 then { s with h2:=c } else { s with t2:=c }
structure Run where
  se : Sett
  st : Nat
  ck : Nat
  ni : Nat
  nd : Nat
  sts : List Nat
  frs : List Nat
  tms : List UInt8
  tdi : List UInt8
  want : List UInt8
  wr : Bool
def Run.clk (r : Run) (l : List (UInt8 × UInt8 × UInt8)) : Run:=
  if r.wr then { r with ck:=r.ck + l.length,tms:=r.tms ++ l.map (·.1),tdi:=r.tdi ++ l.map (·.2.1),want:=r.want ++ l.map (·.2.2) } else { r with ck:=r.ck + l.length }
def Run.go (r : Run) (tov : Nat) : Run:={ r.clk ((path r.st tov).map fun c=>(c,48,120)) with st:=tov }
def scanL (c : Cmd) (hd al : List UInt8) : List (UInt8 × UInt8 × UInt8):=
  (List.range al.length).map fun i=>(if i = al.length - 1 then 49 else 48,(al[i]?).getD 0,if hd.length ≤ i then (if i - hd.length < c.m.length then expAt c (i - hd.length) else 120) else 120)
def Run.scn (r : Run) (c : Cmd) : Run:=
  let (hd,tl,en,sh,ex):=if c.k = 7 then (r.se.h1.b,r.se.t1.b,r.se.e1.s,11,12) else (r.se.h2.b,r.se.t2.b,r.se.e2.s,4,5)
  let r1:=r.go path sh
  let r2:=if c.k = 7 then { r1 with ni:=r1.ni + (hd ++ c.b ++ tl).length } else { r1 with nd:=r1.nd + (hd ++ c.b ++ tl).length }
  Run.go path { r2.clk (scanL c hd (hd ++ c.b ++ tl)) with st:=ex } en.toNat
def Run.scnF (r : Run) (c : Cmd) : Nat:=
  if c.k = 7 then (r.go path 11).ck + r.se.h1.b.length else (r.go path 4).ck + r.se.h2.b.length
def Run.step (r : Run) (c : Cmd) : Run:=
  let (r',f):=if 1 ≤ c.k ∧ c.k ≤ 6 then ({ r with se:=r.se.put c },0)
    else if c.k = 7 ∨ c.k = 8 then (r.scn path c,r.scnF path c)
    else if c.k = 9 then ((r.go path 1).clk (List.replicate c.cl.toNat (48,48,120)),0)
    else (r.go path c.s.toNat,0)
  { r' with sts:=r'.sts ++ [r'.st],frs:=r'.frs ++ [f] }
def Run.play (r : Run) : List Cmd → Run
  | []=>r
  | c :: l=>if 20000 < r.ck then r else (r.step path c).play l
def run0 (wr : Bool) : Run:=⟨sett0,0,0,0,0,[],[],[],[],[],wr⟩
end Go.Am
end
section
/- The program and the reference agree on the signals of right commands. -/
namespace Go.Am
variable (path : Nat → Nat → List UInt8)
theorem setC_snoc (l : List Cmd) (c : Cmd) (k : Int) : setC (l ++ [c]) k = if c.k = k then c else setC l k:=by
  unfold setC
  rw [List.reverse_append,List.reverse_singleton,List.singleton_append,List.find?_cons]
  by_cases h : c.k = k
  · simp [h]
  · have : (c.k == k) = false := by simpa using h
    simp [this,h]
inductive Kinds (c : Cmd) : Prop where
  | set (h : c.k = 1 ∨ c.k = 2) (hs : stableB c.s = true) (e : c = ⟨c.k,c.s,0,[],[],[]⟩)
  | go (h : c.k = 10) (hs : stableB c.s = true) (e : c = ⟨c.k,c.s,0,[],[],[]⟩)
  | idle (h : c.k = 9) (h0 : 0 ≤ c.cl) (h1 : c.cl ≤ 20000) (e : c = ⟨c.k,0,c.cl,[],[],[]⟩)
  | scan (h : c.k = 7 ∨ c.k = 8) (hs : scanF c = 0) (e : c = ⟨c.k,0,0,c.b,c.w,c.m⟩)
  | pad (h0 : 3 ≤ c.k) (h1 : c.k ≤ 6) (hb : bitsB c.b = true) (hl : c.b.length ≤ 2000) (e : c = ⟨c.k,0,0,c.b,[],[]⟩)
theorem cmdF_kinds {c : Cmd} (h : cmdF c = 0) : Kinds c:=by
  unfold cmdF at h
  split at h
  · rename_i hk
    split at h
    · cases h
    rename_i hs
    split at h
    · rename_i e
      have hs : stableB c.s = true:=by simpa using hs
      rcases hk with hk | hk | hk
      · exact .set (.inl hk) hs e
      · exact .set (.inr hk) hs e
      · exact .go hk hs e
    · cases h
  split at h
  · rename_i hk
    split at h
    · cases h
    split at h
    · exact .idle hk (by omega) (by omega) (by assumption)
    · cases h
  split at h
  · rename_i hk
    split at h
    · rename_i h1; exact absurd h h1
    split at h
    · rename_i h1 e; exact .scan hk (by omega) e
    · cases h
  split at h
  · rename_i hk
    split at h
    · cases h
    split at h
    · cases h
    split at h
    · rename_i hb _ e; exact .pad hk.1 hk.2 (by simpa using hb) (by omega) e
    · cases h
  · cases h
theorem scanF_ok {c : Cmd} (h : scanF c = 0) : c.b ≠ [] ∧ bitsB c.b = true ∧ c.b.length ≤ 2000 ∧ bitsB c.w = true ∧ bitsB c.m = true ∧ ((c.w = [] ∧ c.m = []) ∨ (c.w.length = c.b.length ∧ c.m.length = c.b.length)):=by
  unfold scanF at h
  split at h
  · cases h
  split at h
  · cases h
  split at h
  · cases h
  split at h
  · cases h
  split at h
  · cases h
  split at h
  · cases h
  rename_i h1 h2 h3 h4 h5 h6
  simp only [Bool.or_eq_true,Bool.not_eq_true',not_or,Bool.not_eq_false] at h5
  refine ⟨h1,by simpa using h2,by omega,h5.1,h5.2,?_⟩
  by_cases hw : c.w = []
  · exact .inl ⟨hw,Classical.byContradiction fun hm=>h6 ⟨hw,hm⟩⟩
  · exact .inr ⟨Classical.byContradiction fun e=>h4 ⟨hw,.inl e⟩,Classical.byContradiction fun e=>h4 ⟨hw,.inr e⟩⟩
def stb : List Nat:=[0,1,6,13]
theorem stable_mem {n : Int} (h : stableB n = true) : n.toNat ∈ stb ∧ (n.toNat : Int) = n:=by
  unfold stableB at h
  simp only [Bool.or_eq_true,beq_iff_eq] at h
  rcases h with ((rfl | rfl) | rfl) | rfl <;> decide
structure RelV (pre : List Cmd) (r : Run) (ps : List Part) (state : Nat) : Prop where
  st : r.st = state
  sb : state ∈ stb
  e1 : r.se.e1.s = (setC pre 1).s
  e2 : r.se.e2.s = (setC pre 2).s
  h1 : r.se.h1.b = (setC pre 3).b
  t1 : r.se.t1.b = (setC pre 4).b
  h2 : r.se.h2.b = (setC pre 5).b
  t2 : r.se.t2.b = (setC pre 6).b
  s1 : stableB (setC pre 1).s = true
  s2 : stableB (setC pre 2).s = true
  b1 : ∀ k,3 ≤ k → k ≤ 6 → bitsB (setC pre k).b = true ∧ (setC pre k).b.length ≤ 2000
  ck : r.ck = (sigT ps).length
  sts : r.sts = ps.map Part.st
  sig : r.wr = true → r.tms = sigT ps ∧ r.tdi = sigI ps ∧ r.want = sigW ps
theorem rel0 (wr : Bool) : RelV [] (run0 wr) [] 0 where
  st:=rfl
  sb:=by decide
  e1:=rfl
  e2:=rfl
  h1:=rfl
  t1:=rfl
  h2:=rfl
  t2:=rfl
  s1:=rfl
  s2:=rfl
  b1:=fun k _ _=>⟨rfl,Nat.zero_le _⟩
  ck:=rfl
  sts:=rfl
  sig:=fun _=>⟨rfl,rfl,rfl⟩
theorem clk_se (r : Run) (l : List (UInt8 × UInt8 × UInt8)) : (r.clk l).se = r.se ∧ (r.clk l).st = r.st ∧ (r.clk l).sts = r.sts ∧ (r.clk l).frs = r.frs ∧ (r.clk l).wr = r.wr ∧ (r.clk l).ck = r.ck + l.length ∧ (r.clk l).ni = r.ni ∧ (r.clk l).nd = r.nd:=by
  unfold Run.clk; split <;> exact ⟨rfl,rfl,rfl,rfl,rfl,rfl,rfl,rfl⟩
theorem clk_sig {r : Run} (h : r.wr = true) (l : List (UInt8 × UInt8 × UInt8)) : (r.clk l).tms = r.tms ++ l.map (·.1) ∧ (r.clk l).tdi = r.tdi ++ l.map (·.2.1) ∧ (r.clk l).want = r.want ++ l.map (·.2.2):=by
  unfold Run.clk; rw [if_pos h]; exact ⟨rfl,rfl,rfl⟩
theorem map_triple (l : List UInt8) : (l.map fun c=>((c,48,120) : UInt8 × UInt8 × UInt8)).map (·.1) = l ∧ (l.map fun c=>((c,48,120) : UInt8 × UInt8 × UInt8)).map (·.2.1) = zs l.length ∧ (l.map fun c=>((c,48,120) : UInt8 × UInt8 × UInt8)).map (·.2.2) = xsL l.length:=by
  refine ⟨by rw [List.map_map]; exact List.map_id l,?_,?_⟩
  · unfold zs; rw [List.map_map]; exact List.map_const' ..
  · unfold xsL; rw [List.map_map]; exact List.map_const' ..
theorem scanL_1 (c : Cmd) (hd al : List UInt8) (h : al ≠ []) : (scanL c hd al).map (·.1) = zs (al.length - 1) ++ [49]:=by
  have hpos:=List.length_pos_iff.2 h
  unfold scanL zs
  rw [List.map_map]
  apply List.ext_getElem
  · simp; omega
  · intro i h1 h2
    simp at h1
    simp only [List.getElem_map,List.getElem_range,Function.comp]
    by_cases hi : i = al.length - 1
    · subst hi; simp
    · rw [if_neg hi,List.getElem_append_left (by simp; omega)]; simp
theorem scanL_2 (c : Cmd) (hd al : List UInt8) : (scanL c hd al).map (·.2.1) = al:=by
  unfold scanL
  rw [List.map_map]
  apply List.ext_getElem
  · simp
  · intro i h1 h2
    simp [h2]
theorem scanL_3 (c : Cmd) (hd tl : List UInt8) (hm : c.m.length ≤ c.b.length) : (scanL c hd (hd ++ c.b ++ tl)).map (·.2.2) = xsL hd.length ++ expC c ++ xsL tl.length:=by
  unfold scanL xsL expC
  rw [List.map_map]
  apply List.ext_getElem
  · simp <;> omega
  · intro i h1 h2
    simp only [List.length_map,List.length_range,List.length_append] at h1
    simp only [List.getElem_map,List.getElem_range,Function.comp]
    have hx : ∀ j,c.m.length ≤ j → expAt c j = 120:=fun j hj=>by unfold expAt; rw [List.getElem?_eq_none hj]; rfl
    by_cases h3 : hd.length ≤ i
    · rw [if_pos h3]
      by_cases h4 : i - hd.length < c.b.length
      · rw [List.getElem_append_left (by simp; omega), List.getElem_append_right (by simp; omega)]
        simp only [List.length_replicate,List.getElem_map,List.getElem_range]
        split
        · rfl
        · rw [hx _ (by omega)]
      · rw [List.getElem_append_right (by simp; omega)]
        simp only [List.getElem_replicate]
        rw [if_neg (by omega)]
    · rw [if_neg h3, List.getElem_append_left (by simp; omega), List.getElem_append_left (by simp; omega)]
      simp
theorem scanL_length (c : Cmd) (hd al : List UInt8) : (scanL c hd al).length = al.length:=by simp [scanL]
theorem padP_scan (c : Cmd) (state sh ex : Nat) (hd tl : List UInt8) (en : Nat) (hb : c.b ≠ []) :
    padP (scanP path c state sh ex hd tl en) =
      { tms:=path state sh ++ (zs ((hd ++ c.b ++ tl).length - 1) ++ [49]) ++ path ex en
        tdi:=zs (path state sh).length ++ (hd ++ c.b ++ tl) ++ zs (path ex en).length
        want:=xsL (path state sh).length ++ (xsL hd.length ++ expC c ++ xsL tl.length) ++ xsL (path ex en).length
        fr:=(path state sh).length + hd.length
        st:=en }:=by
  have hpos:=List.length_pos_iff.2 hb
  have hz : ∀ n,(zs n).length = n:=fun n=>by simp [zs]
  have hx : ∀ n,(xsL n).length = n:=fun n=>by simp [xsL]
  have hxa : ∀ a b,xsL a ++ xsL b = xsL (a + b):=fun a b=>by unfold xsL; rw [List.replicate_append_replicate]
  have he : (expC c).length = c.b.length:=by simp [expC]
  unfold padP scanP
  simp only [Part.mk.injEq,and_true]
  refine ⟨by simp only [List.append_assoc],?_,?_⟩
  · congr 2
    simp only [List.length_append,hz,List.length_singleton]
    omega
  · have e : (path state sh ++ zs ((hd ++ c.b ++ tl).length - 1) ++ [49] ++ path ex en).length - (xsL ((path state sh).length + hd.length) ++ expC c).length = tl.length + (path ex en).length:=by
      simp only [List.length_append,hz,hx,he,List.length_singleton]
      omega
    rw [e,← hxa,← hxa]
    simp only [List.append_assoc]
theorem sig_snoc (ps : List Part) (p : Part) : sigT (ps ++ [p]) = sigT ps ++ p.tms ∧ sigI (ps ++ [p]) = sigI ps ++ p.tdi ∧ sigW (ps ++ [p]) = sigW ps ++ p.want:=by
  simp [sigT,sigI,sigW]
theorem padP_go (w : List UInt8) (n : Nat) (st : Nat) : padP ⟨w ++ zs n,[],[],0,st⟩ = ⟨w ++ zs n,zs w.length ++ zs n,xsL w.length ++ xsL n,0,st⟩:=by
  have hz : ∀ n,(zs n).length = n:=fun n=>by simp [zs]
  unfold padP
  simp only [List.length_append,hz,List.nil_append,List.length_nil,Nat.sub_zero,Part.mk.injEq,true_and,and_true]
  exact ⟨by unfold zs; rw [List.replicate_append_replicate],by unfold xsL; rw [List.replicate_append_replicate]⟩
theorem padP_go0 (w : List UInt8) (st : Nat) : padP ⟨w,[],[],0,st⟩ = ⟨w,zs w.length,xsL w.length,0,st⟩:=by
  have:=padP_go w 0 st
  simpa [zs,xsL] using this
theorem go_facts (r : Run) (tov : Nat) : (r.go path tov).se = r.se ∧ (r.go path tov).st = tov ∧ (r.go path tov).sts = r.sts ∧ (r.go path tov).frs = r.frs ∧ (r.go path tov).wr = r.wr ∧ (r.go path tov).ck = r.ck + (path r.st tov).length ∧ (r.go path tov).ni = r.ni ∧ (r.go path tov).nd = r.nd:=by
  obtain ⟨a,b,c,d,e,f,g,h⟩:=clk_se r ((path r.st tov).map fun c=>(c,48,120))
  unfold Run.go
  exact ⟨a,rfl,c,d,e,by rw [show ({ r.clk ((path r.st tov).map fun c=>(c,48,120)) with st:=tov } : Run).ck = _ from rfl,f,List.length_map],g,h⟩
theorem go_sig {r : Run} (h : r.wr = true) (tov : Nat) : (r.go path tov).tms = r.tms ++ path r.st tov ∧ (r.go path tov).tdi = r.tdi ++ zs (path r.st tov).length ∧ (r.go path tov).want = r.want ++ xsL (path r.st tov).length:=by
  obtain ⟨a,b,c⟩:=clk_sig h ((path r.st tov).map fun c=>(c,48,120))
  obtain ⟨x,y,z⟩:=map_triple (path r.st tov)
  unfold Run.go
  exact ⟨by rw [← x]; exact x.symm ▸ a,by rw [y] at b; exact b,by rw [z] at c; exact c⟩
end Go.Am
end
section
/- One command: both sides keep agreeing; a whole program. -/
namespace Go.Am
variable (path : Nat → Nat → List UInt8)
theorem step_set {r : Run} {c : Cmd} (h : 1 ≤ c.k ∧ c.k ≤ 6) : r.step path c = { r with se:=r.se.put c,sts:=r.sts ++ [r.st],frs:=r.frs ++ [0] }:=by
  unfold Run.step; simp only [if_pos h]
theorem step_scan {r : Run} {c : Cmd} (h : c.k = 7 ∨ c.k = 8) : r.step path c = { r.scn path c with sts:=(r.scn path c).sts ++ [(r.scn path c).st],frs:=(r.scn path c).frs ++ [r.scnF path c] }:=by
  unfold Run.step; rw [if_neg (by omega),if_pos h]
theorem step_idle {r : Run} {c : Cmd} (h : c.k = 9) : r.step path c = { (r.go path 1).clk (List.replicate c.cl.toNat (48,48,120)) with sts:=((r.go path 1).clk (List.replicate c.cl.toNat (48,48,120))).sts ++ [((r.go path 1).clk (List.replicate c.cl.toNat (48,48,120))).st],frs:=((r.go path 1).clk (List.replicate c.cl.toNat (48,48,120))).frs ++ [0] }:=by
  unfold Run.step; rw [if_neg (by omega),if_neg (by omega),if_pos h]
theorem step_go {r : Run} {c : Cmd} (h : c.k = 10) : r.step path c = { r.go path c.s.toNat with sts:=(r.go path c.s.toNat).sts ++ [(r.go path c.s.toNat).st],frs:=(r.go path c.s.toNat).frs ++ [0] }:=by
  unfold Run.step; rw [if_neg (by omega),if_neg (by omega),if_neg (by omega)]
theorem part_none {pre : List Cmd} {c : Cmd} {state : Nat} (h : c.k ≤ 6) : partC path pre c state = ⟨[],[],[],0,state⟩:=by
  unfold partC
  rw [if_neg (by omega),if_neg (by omega),if_neg (by omega),if_neg (by omega)]; rfl
theorem part_go {pre : List Cmd} {c : Cmd} {state : Nat} (h : c.k = 10) : partC path pre c state = ⟨path state c.s.toNat,zs (path state c.s.toNat).length,xsL (path state c.s.toNat).length,0,c.s.toNat⟩:=by
  unfold partC
  rw [if_pos h,padP_go0]
theorem part_idle {pre : List Cmd} {c : Cmd} {state : Nat} (h : c.k = 9) : partC path pre c state = ⟨path state 1 ++ zs c.cl.toNat,zs (path state 1).length ++ zs c.cl.toNat,xsL (path state 1).length ++ xsL c.cl.toNat,0,1⟩:=by
  unfold partC
  rw [if_neg (by omega),if_pos h,padP_go]
def Adds (r r' : Run) (p : Part) : Prop:=
  r'.ck = r.ck + p.tms.length ∧ (r'.wr = r.wr) ∧ (r.wr = true → r'.tms = r.tms ++ p.tms ∧ r'.tdi = r.tdi ++ p.tdi ∧ r'.want = r.want ++ p.want) ∧ r'.sts = r.sts ++ [p.st] ∧ r'.st = p.st
theorem rel_adds {pre pre' : List Cmd} {r r' : Run} {ps : List Part} {state : Nat} {p : Part} (H : RelV pre r ps state) (A : Adds r r' p) (hb : p.st ∈ stb)
    (e1 : r'.se.e1.s = (setC pre' 1).s) (e2 : r'.se.e2.s = (setC pre' 2).s) (h1 : r'.se.h1.b = (setC pre' 3).b) (t1 : r'.se.t1.b = (setC pre' 4).b) (h2 : r'.se.h2.b = (setC pre' 5).b) (t2 : r'.se.t2.b = (setC pre' 6).b)
    (s1 : stableB (setC pre' 1).s = true) (s2 : stableB (setC pre' 2).s = true) (b1 : ∀ k,3 ≤ k → k ≤ 6 → bitsB (setC pre' k).b = true ∧ (setC pre' k).b.length ≤ 2000) :
    RelV pre' r' (ps ++ [p]) p.st:=by
  obtain ⟨a1,a2,a3,a4,a5⟩:=A
  obtain ⟨q1,q2,q3⟩:=sig_snoc ps p
  exact ⟨a5,hb,e1,e2,h1,t1,h2,t2,s1,s2,b1,by rw [a1,q1,List.length_append,H.ck],by rw [a4,H.sts,List.map_append]; rfl,fun hw=>by
    rw [a2] at hw
    obtain ⟨x,y,z⟩:=a3 hw
    obtain ⟨u,v,w⟩:=H.sig hw
    exact ⟨by rw [x,q1,u],by rw [y,q2,v],by rw [z,q3,w]⟩⟩
theorem rel_same {pre : List Cmd} {r r' : Run} {ps : List Part} {state : Nat} {p : Part} {c : Cmd} (H : RelV pre r ps state) (A : Adds r r' p) (hb : p.st ∈ stb) (hs : r'.se = r.se) (hk : ¬ (1 ≤ c.k ∧ c.k ≤ 6)) :
    RelV (pre ++ [c]) r' (ps ++ [p]) p.st:=by
  have hn : ∀ k : Int,1 ≤ k → k ≤ 6 → setC (pre ++ [c]) k = setC pre k:=fun k h1 h2=>by rw [setC_snoc,if_neg (by omega)]
  refine rel_adds H A hb ?_ ?_ ?_ ?_ ?_ ?_ ?_ ?_ ?_
  · rw [hs,hn 1 (by omega) (by omega),H.e1]
  · rw [hs,hn 2 (by omega) (by omega),H.e2]
  · rw [hs,hn 3 (by omega) (by omega),H.h1]
  · rw [hs,hn 4 (by omega) (by omega),H.t1]
  · rw [hs,hn 5 (by omega) (by omega),H.h2]
  · rw [hs,hn 6 (by omega) (by omega),H.t2]
  · rw [hn 1 (by omega) (by omega)]; exact H.s1
  · rw [hn 2 (by omega) (by omega)]; exact H.s2
  · intro k h1 h2; rw [hn k (by omega) (by omega)]; exact H.b1 k h1 h2
theorem scn_adds {r : Run} {c : Cmd} (hb : c.b ≠ []) (hm : c.m.length ≤ c.b.length) (hd tl : List UInt8) (sh ex en n1 n2 : Nat) (f : Nat) (p : Part) (hp : p = padP (scanP path c r.st sh ex hd tl en)) (r2 : Run)
    (h2 : r2 = { r.go path sh with ni:=n1,nd:=n2 }) (r3 : Run) (h3 : r3 = Run.go path { r2.clk (scanL c hd (hd ++ c.b ++ tl)) with st:=ex } en) :
    Adds r { r3 with sts:=r3.sts ++ [r3.st],frs:=r3.frs ++ [f] } p ∧ r3.se = r.se:=by
  obtain ⟨g1,g2,g3,g4,g5,g6,_,_⟩:=go_facts path r sh
  have ne : hd ++ c.b ++ tl ≠ []:=by simp [hb]
  obtain ⟨k1,k2,k3,k4,k5,k6,_,_⟩:=clk_se r2 (scanL c hd (hd ++ c.b ++ tl))
  obtain ⟨m1,m2,m3,m4,m5,m6,_,_⟩:=go_facts path { r2.clk (scanL c hd (hd ++ c.b ++ tl)) with st:=ex } en
  rw [← h3] at m1 m2 m3 m4 m5 m6
  have pr:=padP_scan path c r.st sh ex hd tl en hb
  rw [← hp] at pr
  subst pr
  have hz : ∀ n,(zs n).length = n:=fun n=>by simp [zs]
  have a1 : r2.se = r.se:=by rw [h2]; exact g1
  have a3 : r2.sts = r.sts:=by rw [h2]; exact g3
  have a5 : r2.wr = r.wr:=by rw [h2]; exact g5
  have a6 : r2.ck = r.ck + (path r.st sh).length:=by rw [h2]; exact g6
  have hpos : 0 < (hd ++ c.b ++ tl).length:=List.length_pos_iff.2 ne
  refine ⟨⟨?_,?_,?_,?_,m2⟩,?_⟩
  · show r3.ck = _
    rw [m6]
    show (r2.clk _).ck + _ = _
    rw [k6,a6,scanL_length]
    simp only [List.length_append,hz,List.length_singleton]
    simp only [List.length_append] at hpos
    omega
  · show r3.wr = _
    rw [m5]
    show (r2.clk _).wr = _
    rw [k5,a5]
  · intro hw
    have hw2 : r2.wr = true:=by rw [a5]; exact hw
    obtain ⟨u1,u2,u3⟩:=go_sig path hw sh
    obtain ⟨v1,v2,v3⟩:=clk_sig hw2 (scanL c hd (hd ++ c.b ++ tl))
    have hw3 : ({ r2.clk (scanL c hd (hd ++ c.b ++ tl)) with st:=ex } : Run).wr = true:=by show (r2.clk _).wr = _; rw [k5]; exact hw2
    obtain ⟨w1,w2,w3⟩:=go_sig path hw3 en
    rw [← h3] at w1 w2 w3
    have b1 : r2.tms = r.tms ++ path r.st sh:=by rw [h2]; exact u1
    have b2 : r2.tdi = r.tdi ++ zs (path r.st sh).length:=by rw [h2]; exact u2
    have b3 : r2.want = r.want ++ xsL (path r.st sh).length:=by rw [h2]; exact u3
    refine ⟨?_,?_,?_⟩
    · show r3.tms = _
      rw [w1]; show (r2.clk _).tms ++ path ex en = _
      rw [v1,b1,scanL_1 c hd _ ne]; simp only [List.append_assoc]
    · show r3.tdi = _
      rw [w2]; show (r2.clk _).tdi ++ zs (path ex en).length = _
      rw [v2,b2,scanL_2]; simp only [List.append_assoc]
    · show r3.want = _
      rw [w3]; show (r2.clk _).want ++ xsL (path ex en).length = _
      rw [v3,b3,scanL_3 c hd tl hm]; simp only [List.append_assoc]
  · show r3.sts ++ [r3.st] = _
    rw [m3,m2]; show (r2.clk _).sts ++ _ = _
    rw [k3,a3]
  · rw [m1]; show (r2.clk _).se = _
    rw [k1,a1]
theorem step_rel {pre : List Cmd} {r : Run} {ps : List Part} {state : Nat} (H : RelV pre r ps state) {c : Cmd} (hc : cmdF c = 0) :
    RelV (pre ++ [c]) (r.step path c) (ps ++ [partC path pre c state]) (partC path pre c state).st:=by
  have hst:=H.st
  subst hst
  have setf : ∀ (h : 1 ≤ c.k ∧ c.k ≤ 6),Adds r (r.step path c) (partC path pre c r.st) ∧ (partC path pre c r.st).st ∈ stb:=fun h=>by
    rw [step_set path h,part_none path h.2]
    exact ⟨⟨rfl,rfl,fun _=>⟨(List.append_nil _).symm,(List.append_nil _).symm,(List.append_nil _).symm⟩,rfl,rfl⟩,H.sb⟩
  have hput : ∀ (h : 1 ≤ c.k ∧ c.k ≤ 6),(r.step path c).se = r.se.put c:=fun h=>by rw [step_set path h]
  cases cmdF_kinds hc with
  | set h hs e=>
    have hr : 1 ≤ c.k ∧ c.k ≤ 6:=by omega
    obtain ⟨A,B⟩:=setf hr
    have hp:=hput hr
    refine rel_adds H A B ?_ ?_ ?_ ?_ ?_ ?_ ?_ ?_ ?_
    all_goals try rw [hp]
    · rw [setC_snoc]; unfold Sett.put
      rcases h with h | h
      · rw [if_pos h,if_pos h]
      · rw [if_neg (by omega),if_pos h,if_neg (by omega)]; exact H.e1
    · rw [setC_snoc]; unfold Sett.put
      rcases h with h | h
      · rw [if_pos h,if_neg (by omega)]; exact H.e2
      · rw [if_neg (by omega),if_pos h,if_pos h]
    · rw [setC_snoc, if_neg (by omega)]; unfold Sett.put
      rcases h with h | h
      · rw [if_pos h]; exact H.h1
      · rw [if_neg (by omega),if_pos h]; exact H.h1
    · rw [setC_snoc, if_neg (by omega)]; unfold Sett.put
      rcases h with h | h
      · rw [if_pos h]; exact H.t1
      · rw [if_neg (by omega),if_pos h]; exact H.t1
    · rw [setC_snoc, if_neg (by omega)]; unfold Sett.put
      rcases h with h | h
      · rw [if_pos h]; exact H.h2
      · rw [if_neg (by omega),if_pos h]; exact H.h2
    · rw [setC_snoc, if_neg (by omega)]; unfold Sett.put
      rcases h with h | h
      · rw [if_pos h]; exact H.t2
      · rw [if_neg (by omega),if_pos h]; exact H.t2
    · rw [setC_snoc]; split
      · exact hs
      · exact H.s1
    · rw [setC_snoc]; split
      · exact hs
      · exact H.s2
    · intro k h1 h2; rw [setC_snoc,if_neg (by omega)]; exact H.b1 k h1 h2
  | pad h0 h1 hb hl e=>
    have hr : 1 ≤ c.k ∧ c.k ≤ 6:=by omega
    obtain ⟨A,B⟩:=setf hr
    have hp:=hput hr
    have hk : c.k = 3 ∨ c.k = 4 ∨ c.k = 5 ∨ c.k = 6:=by omega
    refine rel_adds H A B ?_ ?_ ?_ ?_ ?_ ?_ ?_ ?_ ?_
    all_goals try rw [hp]
    · rw [setC_snoc, if_neg (by omega)]; unfold Sett.put
      rcases hk with h | h | h | h <;> simp [h,H.e1]
    · rw [setC_snoc, if_neg (by omega)]; unfold Sett.put
      rcases hk with h | h | h | h <;> simp [h,H.e2]
    · rw [setC_snoc]; unfold Sett.put
      rcases hk with h | h | h | h <;> simp [h,H.h1]
    · rw [setC_snoc]; unfold Sett.put
      rcases hk with h | h | h | h <;> simp [h,H.t1]
    · rw [setC_snoc]; unfold Sett.put
      rcases hk with h | h | h | h <;> simp [h,H.h2]
    · rw [setC_snoc]; unfold Sett.put
      rcases hk with h | h | h | h <;> simp [h,H.t2]
    · rw [setC_snoc,if_neg (by omega)]; exact H.s1
    · rw [setC_snoc,if_neg (by omega)]; exact H.s2
    · intro k h1 h2; rw [setC_snoc]; split
      · exact ⟨hb,hl⟩
      · exact H.b1 k h1 h2
  | go h hs e=>
    obtain ⟨g1,g2,g3,g4,g5,g6,_,_⟩:=go_facts path r c.s.toNat
    rw [step_go path h,part_go path h]
    refine rel_same H ⟨g6,g5,fun hw=>go_sig path hw _,?_,g2⟩ (stable_mem hs).1 g1 (by omega)
    show (r.go path c.s.toNat).sts ++ _ = _
    rw [g3,g2]
  | idle h h0 h1 e=>
    obtain ⟨g1,g2,g3,g4,g5,g6,_,_⟩:=go_facts path r 1
    obtain ⟨k1,k2,k3,k4,k5,k6,_,_⟩:=clk_se (r.go path 1) (List.replicate c.cl.toNat (48,48,120))
    rw [step_idle path h,part_idle path h]
    refine rel_same H ⟨?_,?_,?_,?_,?_⟩ (by show 1 ∈ stb; decide) ?_ (by omega)
    · show Run.ck (Run.clk _ _) = _
      rw [k6,g6]; simp [zs]; omega
    · show Run.wr (Run.clk _ _) = _
      rw [k5,g5]
    · intro hw
      obtain ⟨u1,u2,u3⟩:=go_sig path hw 1
      obtain ⟨v1,v2,v3⟩:=clk_sig (r:=r.go path 1) (by rw [g5]; exact hw) (List.replicate c.cl.toNat (48,48,120))
      refine ⟨?_,?_,?_⟩
      · show Run.tms (Run.clk _ _) = _
        rw [v1,u1]; simp [zs]
      · show Run.tdi (Run.clk _ _) = _
        rw [v2,u2]; simp [zs]
      · show Run.want (Run.clk _ _) = _
        rw [v3,u3]; simp [xsL]
    · show Run.sts (Run.clk _ _) ++ _ = _
      rw [k3,k2,g3,g2]
    · show Run.st (Run.clk _ _) = _
      rw [k2,g2]
    · show Run.se (Run.clk _ _) = _
      rw [k1,g1]
  | scan h hs e=>
    obtain ⟨q1,q2,q3,q4,q5,q6⟩:=scanF_ok hs
    have hm : c.m.length ≤ c.b.length:=by rcases q6 with ⟨_,h⟩ | ⟨_,h⟩ <;> simp [h]
    rw [step_scan path h]
    rcases h with h | h
    · have hp : partC path pre c r.st = padP (scanP path c r.st 11 12 r.se.h1.b r.se.t1.b r.se.e1.s.toNat):=by
        unfold partC
        rw [if_neg (by omega),if_neg (by omega),if_pos h,H.h1,H.t1,H.e1]
      have hen : r.se.e1.s.toNat ∈ stb:=by rw [H.e1]; exact (stable_mem H.s1).1
      obtain ⟨A,B⟩:=scn_adds path q1 hm r.se.h1.b r.se.t1.b 11 12 r.se.e1.s.toNat ((r.go path 11).ni + (r.se.h1.b ++ c.b ++ r.se.t1.b).length) (r.go path 11).nd (r.scnF path c) _ hp _ rfl (r.scn path c) (by unfold Run.scn; simp only [if_pos h])
      refine rel_same H A (by rw [hp]; exact hen) B (by omega)
    · have hp : partC path pre c r.st = padP (scanP path c r.st 4 5 r.se.h2.b r.se.t2.b r.se.e2.s.toNat):=by
        unfold partC
        rw [if_neg (by omega),if_neg (by omega),if_neg (by omega),if_pos h,H.h2,H.t2,H.e2]
      have hen : r.se.e2.s.toNat ∈ stb:=by rw [H.e2]; exact (stable_mem H.s2).1
      obtain ⟨A,B⟩:=scn_adds path q1 hm r.se.h2.b r.se.t2.b 4 5 r.se.e2.s.toNat (r.go path 4).ni ((r.go path 4).nd + (r.se.h2.b ++ c.b ++ r.se.t2.b).length) (r.scnF path c) _ hp _ rfl (r.scn path c) (by
        unfold Run.scn
        simp only [if_neg (show ¬ c.k = 7 by omega)])
      refine rel_same H A (by rw [hp]; exact hen) B (by omega)
end Go.Am
end
section
/- A whole program; the bits that are shifted. -/
namespace Go.Am
variable (path : Nat → Nat → List UInt8)
theorem sig_append (ps qs : List Part) : sigT (ps ++ qs) = sigT ps ++ sigT qs:=by simp [sigT]
theorem play_rel : ∀ (l : List Cmd) {pre : List Cmd} {r : Run} {ps : List Part} {state : Nat},RelV pre r ps state → cmdsF l = 0 →
    ((sigT (ps ++ partsC path pre state l)).length ≤ 20000 → ∃ st',RelV (pre ++ l) (r.play path l) (ps ++ partsC path pre state l) st') ∧
    (20000 < (sigT (ps ++ partsC path pre state l)).length → 20000 < (r.play path l).ck)
  | [],pre,r,ps,state,H,_=>by
    simp only [partsC,List.append_nil,Run.play]
    exact ⟨fun _=>⟨state,H⟩,fun h=>by rw [H.ck]; exact h⟩
  | c :: l,pre,r,ps,state,H,hc=>by
    unfold cmdsF at hc
    split at hc
    · rename_i h1; exact absurd hc h1
    rename_i h1
    have h0 : cmdF c = 0:=by omega
    have S:=step_rel path H h0
    obtain ⟨A,B⟩:=play_rel l S hc
    have e1 : ps ++ [partC path pre c state] ++ partsC path (pre ++ [c]) (partC path pre c state).st l = ps ++ partsC path pre state (c :: l):=by
      rw [List.append_assoc]; rfl
    have e2 : pre ++ [c] ++ l = pre ++ c :: l:=by rw [List.append_assoc]; rfl
    rw [e1] at A B
    rw [e2] at A
    unfold Run.play
    have hlen : (sigT ps).length ≤ (sigT (ps ++ partsC path pre state (c :: l))).length:=by rw [sig_append,List.length_append]; omega
    constructor
    · intro h
      rw [if_neg (by rw [H.ck]; omega)]
      exact A h
    · intro h
      split
      · assumption
      · exact B h
def visL (s : Nat) : List UInt8 → List Nat
  | []=>[]
  | c :: r=>s :: visL (stW s c) r
theorem visL_append : ∀ (l : List UInt8) (s : Nat) (r : List UInt8),visL s (l ++ r) = visL s l ++ visL (endL s l) r
  | [],s,r=>rfl
  | d :: l,s,r=>by simp only [List.cons_append,visL,visL_append l]; rfl
theorem vis_stay {s : Nat} (h : stW s 48 = s) : ∀ n,visL s (zs n) = List.replicate n s ∧ endL s (zs n) = s
  | 0=>⟨rfl,rfl⟩
  | n + 1=>by
    obtain ⟨a,b⟩:=vis_stay h n
    have e : zs (n + 1) = 48 :: zs n:=rfl
    rw [e]
    constructor
    · simp only [visL,h,a]; rfl
    · show endL (stW s 48) (zs n) = s
      rw [h,b]
structure PathOk : Prop where
  bits : ∀ a ∈ frS,∀ b ∈ toS,bitsB (path a b) = true
  len : ∀ a ∈ frS,∀ b ∈ toS,(path a b).length ≤ 8
  ends : ∀ a ∈ frS,∀ b ∈ toS,endL a (path a b) = b
  no11 : ∀ a ∈ frS,∀ b ∈ toS,(visL a (path a b)).count 11 = 0
  no4 : ∀ a ∈ frS,∀ b ∈ toS,(visL a (path a b)).count 4 = 0
theorem stb_fr {a : Nat} (h : a ∈ stb) : a ∈ frS:=by
  simp only [stb,List.mem_cons,List.not_mem_nil,or_false] at h
  rcases h with rfl | rfl | rfl | rfl <;> decide
theorem stb_to {a : Nat} (h : a ∈ stb) : a ∈ toS:=by
  simp only [stb,List.mem_cons,List.not_mem_nil,or_false] at h
  rcases h with rfl | rfl | rfl | rfl <;> decide
structure RelN (r : Run) (ps : List Part) (state : Nat) : Prop where
  en : endL 0 (sigT ps) = state
  ni : r.ni = (visL 0 (sigT ps)).count 11
  nd : r.nd = (visL 0 (sigT ps)).count 4
variable {path}
theorem reln_adds {r r' : Run} {ps : List Part} {state : Nat} {p : Part} (N : RelN r ps state) (he : endL state p.tms = p.st) (h1 : r'.ni = r.ni + (visL state p.tms).count 11) (h2 : r'.nd = r.nd + (visL state p.tms).count 4) : RelN r' (ps ++ [p]) p.st:=by
  obtain ⟨q,_,_⟩:=sig_snoc ps p
  refine ⟨?_,?_,?_⟩
  · rw [q,endL_append,N.en,he]
  · rw [q,visL_append,N.en,List.count_append,h1,N.ni]
  · rw [q,visL_append,N.en,List.count_append,h2,N.nd]
theorem scan_vis (P : PathOk path) {state sh ex en : Nat} (hs : state ∈ stb) (hx : (sh = 11 ∧ ex = 12) ∨ (sh = 4 ∧ ex = 5)) (hen : en ∈ stb) (n : Nat) (hn : 0 < n) :
    endL state (path state sh ++ (zs (n - 1) ++ [49]) ++ path ex en) = en ∧ (visL state (path state sh ++ (zs (n - 1) ++ [49]) ++ path ex en)).count sh = n ∧
    ∀ o,(o = 11 ∨ o = 4) → o ≠ sh → (visL state (path state sh ++ (zs (n - 1) ++ [49]) ++ path ex en)).count o = 0:=by
  have h1 : sh ∈ toS:=by rcases hx with ⟨rfl,rfl⟩ | ⟨rfl,rfl⟩ <;> decide
  have h2 : ex ∈ frS:=by rcases hx with ⟨rfl,rfl⟩ | ⟨rfl,rfl⟩ <;> decide
  have h3 : stW sh 48 = sh:=by rcases hx with ⟨rfl,rfl⟩ | ⟨rfl,rfl⟩ <;> rfl
  have h4 : stW sh 49 = ex:=by rcases hx with ⟨rfl,rfl⟩ | ⟨rfl,rfl⟩ <;> rfl
  obtain ⟨v1,v2⟩:=vis_stay h3 (n - 1)
  have e1:=P.ends _ (stb_fr hs) _ h1
  have e2:=P.ends _ h2 _ (stb_to hen)
  have ee : endL state (path state sh ++ (zs (n - 1) ++ [49])) = ex:=by
    rw [endL_append,e1,endL_append,v2]; exact h4
  have hv : visL state (path state sh ++ (zs (n - 1) ++ [49]) ++ path ex en) = visL state (path state sh) ++ (List.replicate (n - 1) sh ++ [sh]) ++ visL ex (path ex en):=by
    rw [visL_append,ee,visL_append,e1,visL_append,v1,v2]; rfl
  have c0 : ∀ o,(o = 11 ∨ o = 4) → (visL state (path state sh)).count o = 0 ∧ (visL ex (path ex en)).count o = 0:=by
    rintro o (rfl | rfl)
    · exact ⟨P.no11 _ (stb_fr hs) _ h1,P.no11 _ h2 _ (stb_to hen)⟩
    · exact ⟨P.no4 _ (stb_fr hs) _ h1,P.no4 _ h2 _ (stb_to hen)⟩
  refine ⟨?_,?_,?_⟩
  · rw [endL_append,ee,e2]
  · obtain ⟨a, b⟩ := c0 sh (by rcases hx with ⟨rfl, rfl⟩ | ⟨rfl, rfl⟩ <;> simp)
    rw [hv,List.count_append,List.count_append,List.count_append,a,b,List.count_replicate_self]
    simp; omega
  · intro o ho hne
    obtain ⟨a,b⟩:=c0 o ho
    rw [hv,List.count_append,List.count_append,List.count_append,a,b,List.count_replicate,List.count_singleton]
    have : (sh == o) = false:=by simpa using Ne.symm hne
    simp [this]
theorem step_reln (P : PathOk path) {pre : List Cmd} {r : Run} {ps : List Part} {state : Nat} (H : RelV pre r ps state) (N : RelN r ps state) {c : Cmd} (hc : cmdF c = 0) :
    RelN (r.step path c) (ps ++ [partC path pre c state]) (partC path pre c state).st:=by
  have hst:=H.st
  subst hst
  have hf:=stb_fr H.sb
  have setf : (1 ≤ c.k ∧ c.k ≤ 6) → RelN (r.step path c) (ps ++ [partC path pre c r.st]) (partC path pre c r.st).st:=fun h=>by
    rw [step_set path h,part_none path h.2]
    exact reln_adds N rfl rfl rfl
  cases cmdF_kinds hc with
  | set h hs e=>exact setf (by omega)
  | pad h0 h1 hb hl e=>exact setf (by omega)
  | go h hs e=>
    obtain ⟨g1,g2,g3,g4,g5,g6,g7,g8⟩:=go_facts path r c.s.toNat
    rw [step_go path h,part_go path h]
    have ht:=stb_to (stable_mem hs).1
    refine reln_adds N (P.ends _ hf _ ht) ?_ ?_
    · show (r.go path c.s.toNat).ni = _
      rw [g7,P.no11 _ hf _ ht,Nat.add_zero]
    · show (r.go path c.s.toNat).nd = _
      rw [g8,P.no4 _ hf _ ht,Nat.add_zero]
  | idle h h0 h1 e=>
    obtain ⟨g1,g2,g3,g4,g5,g6,g7,g8⟩:=go_facts path r 1
    obtain ⟨k1,k2,k3,k4,k5,k6,k7,k8⟩:=clk_se (r.go path 1) (List.replicate c.cl.toNat (48,48,120))
    have ht : (1 : Nat) ∈ toS:=by decide
    rw [step_idle path h,part_idle path h]
    have e1:=P.ends _ hf _ ht
    obtain ⟨v1,v2⟩:=vis_stay (s:=1) rfl c.cl.toNat
    refine reln_adds N (by show endL r.st (path r.st 1 ++ zs c.cl.toNat) = 1; rw [endL_append,e1,v2]) ?_ ?_
    · show Run.ni (Run.clk _ _) = r.ni + (visL r.st (path r.st 1 ++ zs c.cl.toNat)).count 11
      rw [k7,g7,visL_append,e1,v1,List.count_append,P.no11 _ hf _ ht,List.count_replicate]; rfl
    · show Run.nd (Run.clk _ _) = r.nd + (visL r.st (path r.st 1 ++ zs c.cl.toNat)).count 4
      rw [k8,g8,visL_append,e1,v1,List.count_append,P.no4 _ hf _ ht,List.count_replicate]; rfl
  | scan h hs e=>
    obtain ⟨q1,q2,q3,q4,q5,q6⟩:=scanF_ok hs
    rw [step_scan path h]
    rcases h with h | h
    · have hp : partC path pre c r.st = padP (scanP path c r.st 11 12 r.se.h1.b r.se.t1.b r.se.e1.s.toNat):=by
        unfold partC
        rw [if_neg (by omega),if_neg (by omega),if_pos h,H.h1,H.t1,H.e1]
      have hen : r.se.e1.s.toNat ∈ stb:=by rw [H.e1]; exact (stable_mem H.s1).1
      have hpos : 0 < (r.se.h1.b ++ c.b ++ r.se.t1.b).length:=by have:=List.length_pos_iff.2 q1; simp only [List.length_append]; omega
      obtain ⟨w1,w2,w3⟩:=scan_vis P H.sb (.inl ⟨rfl,rfl⟩) hen (r.se.h1.b ++ c.b ++ r.se.t1.b).length hpos
      rw [hp,padP_scan path c r.st 11 12 _ _ _ q1]
      obtain ⟨g1,g2,g3,g4,g5,g6,g7,g8⟩:=go_facts path r 11
      refine reln_adds N w1 ?_ ?_
      · show (r.scn path c).ni = _
        unfold Run.scn
        simp only [if_pos h]
        rw [(go_facts path _ _).2.2.2.2.2.2.1]
        show Run.ni (Run.clk _ _) = _
        rw [(clk_se _ _).2.2.2.2.2.2.1,w2]
        show (r.go path 11).ni + _ = _
        rw [g7]
      · show (r.scn path c).nd = _
        unfold Run.scn
        simp only [if_pos h]
        rw [(go_facts path _ _).2.2.2.2.2.2.2]
        show Run.nd (Run.clk _ _) = _
        rw [(clk_se _ _).2.2.2.2.2.2.2,w3 4 (.inr rfl) (by decide)]
        show (r.go path 11).nd = _
        rw [g8,Nat.add_zero]
    · have hp : partC path pre c r.st = padP (scanP path c r.st 4 5 r.se.h2.b r.se.t2.b r.se.e2.s.toNat):=by
        unfold partC
        rw [if_neg (by omega),if_neg (by omega),if_neg (by omega),if_pos h,H.h2,H.t2,H.e2]
      have hen : r.se.e2.s.toNat ∈ stb:=by rw [H.e2]; exact (stable_mem H.s2).1
      have hpos : 0 < (r.se.h2.b ++ c.b ++ r.se.t2.b).length:=by have:=List.length_pos_iff.2 q1; simp only [List.length_append]; omega
      have h7 : ¬ c.k = 7:=by omega
      obtain ⟨w1,w2,w3⟩:=scan_vis P H.sb (.inr ⟨rfl,rfl⟩) hen (r.se.h2.b ++ c.b ++ r.se.t2.b).length hpos
      rw [hp,padP_scan path c r.st 4 5 _ _ _ q1]
      obtain ⟨g1,g2,g3,g4,g5,g6,g7,g8⟩:=go_facts path r 4
      refine reln_adds N w1 ?_ ?_
      · show (r.scn path c).ni = _
        unfold Run.scn
        simp only [if_neg h7]
        rw [(go_facts path _ _).2.2.2.2.2.2.1]
        show Run.ni (Run.clk _ _) = _
        rw [(clk_se _ _).2.2.2.2.2.2.1,w3 11 (.inl rfl) (by decide)]
        show (r.go path 4).ni = _
        rw [g7,Nat.add_zero]
      · show (r.scn path c).nd = _
        unfold Run.scn
        simp only [if_neg h7]
        rw [(go_facts path _ _).2.2.2.2.2.2.2]
        show Run.nd (Run.clk _ _) = _
        rw [(clk_se _ _).2.2.2.2.2.2.2,w2]
        show (r.go path 4).nd + _ = _
        rw [g8]
theorem reln0 (wr : Bool) : RelN (run0 wr) [] 0:=⟨rfl,rfl,rfl⟩
theorem play_reln (P : PathOk path) : ∀ (l : List Cmd) {pre : List Cmd} {r : Run} {ps : List Part} {state : Nat},RelV pre r ps state → RelN r ps state → cmdsF l = 0 →
    (sigT (ps ++ partsC path pre state l)).length ≤ 20000 → ∃ st',RelN (r.play path l) (ps ++ partsC path pre state l) st'
  | [],pre,r,ps,state,H,N,_,_=>by
    simp only [partsC,List.append_nil,Run.play]
    exact ⟨state,N⟩
  | c :: l,pre,r,ps,state,H,N,hc,h=>by
    unfold cmdsF at hc
    split at hc
    · rename_i h1; exact absurd hc h1
    rename_i h1
    have h0 : cmdF c = 0:=by omega
    have S:=step_rel path H h0
    have S2:=step_reln P H N h0
    have e1 : ps ++ [partC path pre c state] ++ partsC path (pre ++ [c]) (partC path pre c state).st l = ps ++ partsC path pre state (c :: l):=by
      rw [List.append_assoc]; rfl
    have A:=play_reln P l S S2 hc (by rw [e1]; exact h)
    rw [e1] at A
    have hlen : (sigT ps).length ≤ (sigT (ps ++ partsC path pre state (c :: l))).length:=by rw [sig_append,List.length_append]; omega
    unfold Run.play
    rw [if_neg (by rw [H.ck]; omega)]
    exact A
theorem play_all (P : PathOk path) {l : List Cmd} (hc : cmdsF l = 0) (wr : Bool) (h : (sigT (partsC path [] 0 l)).length ≤ 20000) :
    ((run0 wr).play path l).ck = (sigT (partsC path [] 0 l)).length ∧ ((run0 wr).play path l).sts = (partsC path [] 0 l).map Part.st ∧
    ((run0 wr).play path l).ni = (visL 0 (sigT (partsC path [] 0 l))).count 11 ∧ ((run0 wr).play path l).nd = (visL 0 (sigT (partsC path [] 0 l))).count 4 ∧
    (wr = true → ((run0 wr).play path l).tms = sigT (partsC path [] 0 l) ∧ ((run0 wr).play path l).tdi = sigI (partsC path [] 0 l) ∧ ((run0 wr).play path l).want = sigW (partsC path [] 0 l)):=by
  obtain ⟨A,_⟩:=play_rel path l (rel0 wr) hc
  simp only [List.nil_append] at A
  obtain ⟨st',R⟩:=A h
  obtain ⟨_,N⟩:=play_reln P l (rel0 wr) (reln0 wr) hc (by simpa using h)
  simp only [List.nil_append] at N
  have hw : ((run0 wr).play path l).wr = wr:=by
    have : ∀ (l : List Cmd) (r : Run),(r.play path l).wr = r.wr:=by
      intro l
      induction l with
      | nil=>intro r; rfl
      | cons c l ih=>
        intro r
        unfold Run.play
        split
        · rfl
        · rw [ih]
          by_cases h1 : 1 ≤ c.k ∧ c.k ≤ 6
          · rw [step_set path h1]
          by_cases h2 : c.k = 7 ∨ c.k = 8
          · rw [step_scan path h2]
            show (r.scn path c).wr = _
            unfold Run.scn
            by_cases h7 : c.k = 7 <;> (simp only [h7,if_true,if_false]; rw [(go_facts path _ _).2.2.2.2.1]; show Run.wr (Run.clk _ _) = _; rw [(clk_se _ _).2.2.2.2.1]; exact (go_facts path _ _).2.2.2.2.1)
          by_cases h3 : c.k = 9
          · rw [step_idle path h3]
            show Run.wr (Run.clk _ _) = _
            rw [(clk_se _ _).2.2.2.2.1]; exact (go_facts path _ _).2.2.2.2.1
          · unfold Run.step
            rw [if_neg h1,if_neg h2,if_neg h3]
            exact (go_facts path _ _).2.2.2.2.1
    exact this l _
  exact ⟨R.ck,R.sts,N.ni,N.nd,fun e=>R.sig (by rw [hw]; exact e)⟩
end Go.Am
end
section
/- Plain laws of fractions in lowest terms. -/
namespace Go.Am
end Go.Am
end
section
/- Small functions of numbers and of lists of numbers. -/
open Go
namespace Go.Am
variable {h : Heap} {K : Post}
theorem s_Out (n a b : Int) : ACall X f_q001 [AI n,AI a,AI b] h K = K (AB (decide (n < a) || decide (b < n))) h []:=by
  refine rule ?_
  rw [c_q001 rfl]
  by_cases h1 : n < a <;> simp only [d_q001,go_sem,h1]
theorem s_in (n a b : Int) : ACall X f_q00w [AI n,AI a,AI b] h K = K (AB (decide (a ≤ n) && decide (n ≤ b))) h []:=by
  refine rule ?_
  rw [c_q00w rfl]
  by_cases h1 : a ≤ n <;> simp only [d_q00w,go_sem,h1]
end Go.Am
end
section
/- Functions of lists. -/
open Go
namespace Go.Am
variable {h : Heap} {K : Post}
theorem s_EqualI (l m : List Int) (hl : l.length ≤ 1000000000) : ACall X f_q016 [AL l,AL m] h K = K (AB (decide (l = m))) h []:=by
  refine rule ?_
  rw [c_q016 rfl]
  by_cases hlen : l.length = m.length
  · simp only [d_q016, go_sem, hlen]
    refine N_loop (fun k : Nat=>⟨[(0,AL l),(1,AL m),(12,AI m.length),(13,AI k)],h,[]⟩) (fun k=>k ≤ m.length ∧ l.take k = m.take k) (fun k=>m.length - k) 0 rfl (by simp) ?_
    rintro k ⟨hk,hp⟩
    rcases Nat.lt_or_ge k m.length with hlt | hge
    · have hg1 := map_get eI (show k < l.length by omega)
      have hg2:=map_get eI hlt
      have w2 : IntKind.i64.wrap ((k : Int) + 1) = ((k + 1 : Nat) : Int):=i64_wrap _ (by omega) (by omega)
      by_cases he : l[k] = m[k]
      · simp only [go_sem, hlt, hg1, hg2, w2, he]
        exact ⟨k + 1,rfl,⟨by omega,by rw [List.take_succ_eq_append_getElem (by omega),List.take_succ_eq_append_getElem hlt,hp,he]⟩,by omega⟩
      · simp only [go_sem, hlt, hg1, hg2, w2, he]
        have : ¬ l = m:=fun h=>he (by simp only [h])
        simp [this]
    · have e1 : k = m.length := by omega
      have e2 : l = m:=by rw [← List.take_length (l:=l),← List.take_length (l:=m),hlen,← e1,hp]
      subst e1
      simp only [go_sem,Nat.lt_irrefl]
      simp [e2]
  · have e1 : ((l.length : Int) = m.length) = False := by simp only [eq_iff_iff, iff_false]; omega
    simp only [d_q016,go_sem,e1]
    have : ¬ l = m:=fun h=>hlen (by rw [h])
    simp [this]
end Go.Am
end
section
/- Values of a shape: loads and stores in rows. -/
open Go
namespace Go.Am
variable {h : Heap} {K : Post}
theorem shp_cut {sh : Sh} {x : PV} (hx : x.shp sh = true) : cutP sh 0 x = some x:=by
  cases sh with
  | none=>exact cutP_sc hx
  | some n=>
    cases x with
    | agg cs=>
      simp only [PV.shp,Bool.and_eq_true,beq_iff_eq] at hx
      simp [cutP,hx.1]
      exact List.take_of_length_le (by omega)
    | _=>cases hx
theorem shp_st {sh : Sh} {x y : PV} (hx : x.shp sh = true) (hy : y.shp sh = true) (id i fz : Nat) (xs : List PV) (h1 : Heap) : stE sh id i 0 fz sh xs x h1 (some y) = some (.und,h1.set id (.row sh (xs.set i x) fz),[]):=by
  cases sh with
  | none=>
    cases y with
    | agg cs=>cases hy
    | _=>simp only [PV.shp] at hx; simp [stE,hx]
  | some n=>
    cases y with
    | agg cs=>
      cases x with
      | agg ds=>
        simp only [PV.shp,Bool.and_eq_true,beq_iff_eq] at hx hy
        simp [stE,PV.cells,splice,hx.1,hy.1,show cs.drop n = [] from List.drop_of_length_le (by omega)]
      | _=>cases hx
    | _=>cases hy
def shps (sh : Sh) (xs : List PV) : Prop:=∀ x ∈ xs,x.shp sh = true
theorem shps_get {sh : Sh} {xs : List PV} (hx : shps sh xs) {i : Nat} (hi : i < xs.length) : xs[i].shp sh = true:=hx _ (List.getElem_mem hi)
theorem set_self {h : Heap} {id : Nat} {o : Obj} (hh : h[id]? = some o) : h.set id o = h:=by
  apply List.ext_getElem?
  intro i
  rw [List.getElem?_set]
  split
  · rename_i e; subst e; rw [hh]; simp [get_lt hh]
  · rfl
structure Shows (sh : Sh) (v : AV) (xs : List PV) (h : Heap) : Prop where
  len : oLen v = some (AI xs.length)
  get : ∀ (k : Nat) (hk : k < xs.length),∃ a,oIaddr sh v (AI k) h = some a ∧ oLoad sh a h = some (.p xs[k])
theorem shows_sl {sh : Sh} {xs : List PV} (hs : shps sh xs) : Shows sh (.p (.sl sh xs)) xs h:=by
  refine ⟨rfl,fun k hk=>⟨.vp xs[k],?_,?_⟩⟩
  · simp [oIaddr,natOf,hk]
  · simp only [load_vp,shp_cut (shps_get hs hk)]; rfl
end Go.Am
end
section
/- Strings: keys,the library's functions without text. -/
open Go
set_option linter.unusedSimpArgs false
namespace Go.Am
variable {h : Heap} {K : Post}
abbrev AS (s : List UInt8) : AV:=.p (.str s)
theorem X_ext : X.ext = extF f_internal_bytealg_IndexByteString f_internal_bytealg_abigen_runtime_cmpstring:=rfl
theorem s_idxExt (s : List UInt8) (c : UInt8) : ACall X f_internal_bytealg_IndexByteString [AS s,.p (.int .u8 c.toNat)] h K = K (AI (idxB s c)) h []:=by
  have:=ext_call (X:=X) (f:=f_internal_bytealg_IndexByteString) (asv:=[AS s,.p (.int .u8 c.toNat)]) (vs:=[.str s,.int .u8 c.toNat]) (h:=h) (h1:=h) (r:=.int .i64 (idxB s c)) (K:=K) (by kernel_rfl) rfl rfl rfl ?_
  · exact this
  · rw [X_ext]
    unfold extF
    rw [show Nat.beq f_internal_bytealg_IndexByteString f_internal_bytealg_IndexByteString = true from by kernel_rfl]
    simp
theorem s_IndexByte (s : List UInt8) (c : UInt8) : ACall X f_q01g [AS s,.p (.int .u8 c.toNat)] h K = K (AI (idxB s c)) h []:=by
  have key : ∀ (h : Heap) (K : Post),ACall X f_q006 [AS s,.p (.int .u8 c.toNat)] h K = K (AI (idxB s c)) h []:=by
    intro h K
    refine rule ?_
    rw [c_q006 rfl]
    simp only [d_q006,go_sem,s_idxExt]
  refine rule ?_
  rw [c_q01g rfl]
  simp only [d_q01g,go_sem,key]
theorem idxB_neg (s : List UInt8) (c : UInt8) : decide (idxB s c < 0) = !s.contains c:=by
  unfold idxB
  rw [Bool.eq_iff_iff]
  by_cases hf : s.findIdx (· == c) < s.length
  · rw [if_pos hf]
    have:=List.findIdx_getElem (w:=hf)
    simp only [beq_iff_eq] at this
    have hm : c ∈ s:=by rw [← this]; exact List.getElem_mem hf
    simp [hm]
  · rw [if_neg hf]
    have hm : ¬ c ∈ s:=fun hm=>hf (List.findIdx_lt_length_of_exists ⟨c,hm,by simp⟩)
    simp [hm]
theorem s_only (s t : List UInt8) (hl : s.length ≤ 1000000000) : ACall X f_q00x [AS s,AS t] h K = K (AB (s.all fun c=>t.contains c)) h []:=by
  refine rule ?_
  rw [c_q00x rfl]
  simp only [d_q00x,go_sem]
  refine N_loop (fun k : Nat=>⟨[(0,AS s),(1,AS t),(7,AI s.length),(8,AI k)],h,[]⟩) (fun k=>k ≤ s.length ∧ (s.take k).all (fun c=>t.contains c) = true) (fun k=>s.length - k) 0 rfl ⟨by omega,rfl⟩ ?_
  rintro k ⟨hk,hp⟩
  rcases Nat.lt_or_ge k s.length with hlt | hge
  · have hg : s[k]? = some s[k] := List.getElem?_eq_getElem hlt
    have w2 : IntKind.i64.wrap ((k : Int) + 1) = ((k + 1 : Nat) : Int):=i64_wrap _ (by omega) (by omega)
    have hi:=idxB_neg t s[k]
    by_cases hc : idxB t s[k] < 0
    · have : s.all (fun c=>t.contains c) = false:=by
        rw [List.all_eq_false]
        refine ⟨_,List.getElem_mem hlt,?_⟩
        rw [decide_eq_true hc] at hi
        cases hq : t.contains s[k] with
        | true=>rw [hq] at hi; cases hi
        | false=>simp
      simp only [go_sem,hlt,hg,s_IndexByte,hc,this]
    · rw [decide_eq_false hc] at hi
      have hq : t.contains s[k] = true:=by cases hq : t.contains s[k] with | true=>rfl | false=>rw [hq] at hi; cases hi
      simp only [go_sem,hlt,hg,s_IndexByte,hc,w2]
      exact ⟨k + 1,rfl,⟨by omega,by rw [List.take_succ_eq_append_getElem hlt,List.all_append,hp]; simp only [List.all_cons,List.all_nil,hq]; rfl⟩,by omega⟩
  · have ek : k = s.length := by omega
    subst ek
    rw [List.take_length] at hp
    simp only [go_sem,Nat.lt_irrefl,hp]
end Go.Am
end
section
/- Walks over the states,and the ways that the reference looks for. -/
open Go
set_option linter.all false
namespace Go.Am
variable {h : Heap} {K : Post}
attribute [-go_sem] oLook oMupd oMentry oMrange
attribute [-go_sem] oIdxa
def aftL : List PV:=[eI 1,eI 0,eI 1,eI 2,eI 3,eI 9,eI 4,eI 5,eI 4,eI 5,eI 6,eI 8,eI 6,eI 7,eI 4,eI 8,eI 1,eI 2,eI 10,eI 0,eI 11,eI 12,eI 11,eI 12,eI 13,eI 15,eI 13,eI 14,eI 11,eI 15,eI 1,eI 2]
theorem idx_row {s : Nat} (hs : s < 16) : oIdxa 16 (some 2) (.p (.agg aftL)) (AI s) = some (.p (.agg [eI (stp s 0),eI (stp s 1)])):=by
  have hs' : s = 0 ∨ s = 1 ∨ s = 2 ∨ s = 3 ∨ s = 4 ∨ s = 5 ∨ s = 6 ∨ s = 7 ∨ s = 8 ∨ s = 9 ∨ s = 10 ∨ s = 11 ∨ s = 12 ∨ s = 13 ∨ s = 14 ∨ s = 15:=by omega
  rcases hs' with rfl | rfl | rfl | rfl | rfl | rfl | rfl | rfl | rfl | rfl | rfl | rfl | rfl | rfl | rfl | rfl <;> rfl
theorem idx_col {s t : Nat} (ht : t < 2) : oIdxa 2 none (.p (.agg [eI (stp s 0),eI (stp s 1)])) (AI t) = some (AI (stp s t)):=by
  have ht' : t = 0 ∨ t = 1:=by omega
  rcases ht' with rfl | rfl <;> rfl
theorem s_after (s t : Nat) (hs : s < 16) (ht : t < 2) : ACall X f_q00o [AI s,AI t] h K = K (AI (stp s t)) h []:=by
  refine rule ?_
  rw [c_q00o rfl]
  have g:=idx_row hs
  have g2:=idx_col (s:=s) ht
  unfold aftL at g
  simp only [d_q00o,go_sem,g,g2]
abbrev AIs (l : List Nat) : AV:=.p (.sl none (l.map fun n : Nat=>eI n))
theorem s_WalkOf (s : Nat) (l : List UInt8) (hs : s < 16) (hb : bitsB l = true) (hl : l.length ≤ 1000000) : ACall X f_q00n [AI s,AS l] h K = K (AIs (walkL s l)) h []:=by
  refine rule ?_
  rw [c_q00n rfl]
  have hmx : l.length ≤ maxSl:=by unfold maxSl; omega
  simp only [d_q00n,go_sem,hmx]
  refine N_loop (fun k : Nat=>⟨[(0,AI (endL s (l.take k))),(5,.own h.length k 0 k),(9,.own (h.length + 1) l.length 0 l.length),(10,AI l.length),(11,AI k)],h ++ [.row none ((walkL s (l.take k)).map fun n : Nat=>eI n) 0,.row none (bytesP l) 0],[]⟩) (fun k=>k ≤ l.length) (fun k=>l.length - k) 0 rfl (by omega) ?_
  intro k hk
  rcases Nat.lt_or_ge k l.length with hlt | hge
  · have g : (bytesP l)[k]? = some (.int .u8 (l[k].toNat : Int)) := by unfold bytesP; rw [List.getElem?_map, List.getElem?_eq_getElem hlt]; rfl
    have w2 : IntKind.i64.wrap ((k : Int) + 1) = ((k + 1 : Nat) : Int):=i64_wrap _ (by omega) (by omega)
    have bt:=bit_at hlt hb
    have e1 : IntKind.u8.wrap ((l[k].toNat : Int) - 48) = ((l[k].toNat - 48 : Nat) : Int):=by
      rcases bt with e | e <;> rw [e] <;> rfl
    have hsm : l[k].toNat - 48 < 2:=by rcases bt with e | e <;> rw [e] <;> decide
    have e2 : IntKind.i64.wrap ((l[k].toNat - 48 : Nat) : Int) = ((l[k].toNat - 48 : Nat) : Int):=i64_wrap _ (by omega) (by omega)
    have he:=endL_lt hs (bitsB_take k hb)
    have hlen : ((walkL s (l.take k)).map fun n : Nat=>eI n).length = k:=by simp [walkL_length]; omega
    have hmx2 : k + 1 ≤ maxSl:=by unfold maxSl; omega
    have hbl : (bytesP l).length = l.length:=by simp [bytesP]
    simp only [go_sem,hlt,g,e1,e2,s_after _ _ he hsm,w2,hlen,hmx2,hbl]
    refine ⟨k + 1,?_,by omega,by omega⟩
    rw [List.take_succ_eq_append_getElem hlt,walkL_snoc,endL_snoc]
    simp [stW]
  · have ek : k = l.length := by omega
    subst ek
    have hlen : ((walkL s l).map fun n : Nat=>eI n).length = l.length:=by simp [walkL_length]
    simp only [go_sem,Nat.lt_irrefl,List.take_length,hlen]
    exact congrArg (fun l=>AV.p (.sl none l)) (List.take_of_length_le (by simp [walkL_length]))
def rowsH (h : Heap) : Nat → Heap
  | 0=>h
  | k + 1=>rowsH h k ++ [.row none ((rowS (k + 1)).map PV.str) 0]
theorem rowsH_take (h : Heap) : ∀ k,(rowsH h k).take h.length = h
  | 0=>List.take_length
  | k + 1=>by
    have : h.length ≤ (rowsH h k).length:=by have:=congrArg List.length (rowsH_take h k); simp at this; omega
    rw [rowsH,List.take_append_of_le_length this,rowsH_take h k]
theorem rowsH_len (h : Heap) : ∀ k,(rowsH h k).length = h.length + k
  | 0=>rfl
  | k + 1=>by rw [rowsH,List.length_append,rowsH_len h k]; rfl
def flS (l : List (List UInt8)) : List (List UInt8):=l.flatMap fun s=>[s ++ [48],s ++ [49]]
theorem flS_length (l : List (List UInt8)) : (flS l).length = 2 * l.length:=by
  unfold flS
  induction l with
  | nil=>rfl
  | cons a r ih=>simp [ih]; omega
theorem flS_snoc (l : List (List UInt8)) (s : List UInt8) : flS (l ++ [s]) = flS l ++ [s ++ [48],s ++ [49]]:=by simp [flS]
theorem rowS_succ (k : Nat) : rowS (k + 1) = flS (rowS k):=rfl
def rowV (h : Heap) : Nat → AV
  | 0=>.p (.sl none [.str []])
  | k + 1=>.own (h.length + k) (2 ^ (k + 1)) 0 (2 ^ (k + 1))
set_option maxHeartbeats 1000000 in
theorem s_PathOf (a b : Nat) (ha : a < 16) (w : List UInt8) (hw : wayF a b 9 0 = some w) : ACall X f_q00m [AI a,AI b] h K = K (AS w) h []:=by
  obtain ⟨kw,hk8,hfw,hno⟩:=wayF_spec hw
  have hit : ∀ {k i : Nat} {s : List UInt8},k ≤ kw → (∀ x ∈ (rowS k).take i,(endL a x == b) = false) → (rowS k)[i]? = some s → (endL a s == b) = true → s = w:=by
    intro k i s hk h1 h2 h3
    have:=find_first (p:=fun s=>endL a s == b) h1 h2 h3
    rcases Nat.lt_or_ge k kw with h4 | h4
    · rw [hno k h4] at this; cases this
    · obtain rfl : k = kw := by omega
      rw [hfw] at this; exact (Option.some.inj this).symm
  have miss : ∀ {k i : Nat},k ≤ kw → (∀ x ∈ (rowS k).take i,(endL a x == b) = false) → (rowS k).length ≤ i → k + 1 ≤ kw:=by
    intro k i hk h1 h2
    rcases Nat.lt_or_ge k kw with h4 | h4
    · omega
    · obtain rfl : k = kw := by omega
      rw [List.take_of_length_le h2] at h1
      rw [find_nothing (p:=fun s=>endL a s == b) h1] at hfw; cases hfw
  refine rule ?_
  rw [c_q00m rfl]
  simp only [d_q00m,go_sem]
  refine N_loop (fun k : Nat=>⟨[(0,AI a),(1,AI b),(5,rowV h k)],rowsH h k,[]⟩) (fun k=>k ≤ kw) (fun k=>kw - k) 0 rfl (by omega) ?_
  intro k hk
  have hp2 : (2 : Nat) ^ k ≤ 2 ^ 8:=Nat.pow_le_pow_right (by omega) (by omega)
  have hp3 : (2 : Nat) ^ 8 = 256:=rfl
  cases k with
  | zero=>
    dsimp only [rowV,rowsH]
    simp only [go_sem]
    refine N_loop (fun i : Nat=>⟨[(0,AI a),(1,AI b),(6,.own (h.length + 0) (2 * i) 0 (2 * i)),(12,.p (.sl none [.str []])),(13,AI (2 ^ 0 : Nat)),(14,AI i)],h ++ [.row none ((flS ((rowS 0).take i)).map PV.str) 0],[]⟩) (fun i=>i ≤ 2 ^ 0 ∧ ∀ x ∈ (rowS 0).take i,(endL a x == b) = false) (fun i=>2 ^ 0 - i) 0 rfl ⟨Nat.zero_le _,by simp⟩ ?_
    rintro i ⟨hi,hn⟩
    rcases Nat.lt_or_ge i (2 ^ 0) with hlt | hge
    · have hlt' : i < (rowS 0).length := by rw [rowS_length]; exact hlt
      have hg:=map_get PV.str hlt'
      obtain ⟨hbs,hls⟩:=rowS_mem (List.getElem_mem hlt')
      have hgs : (rowS 0)[i]? = some (rowS 0)[i]:=List.getElem?_eq_getElem hlt'
      have cx : cutP none 0 (PV.str (rowS 0)[i]) = some (PV.str (rowS 0)[i]):=rfl
      have w2 : IntKind.i64.wrap ((i : Int) + 1) = ((i + 1 : Nat) : Int):=i64_wrap _ (by omega) (by omega)
      have htk : (rowS 0).take (i + 1) = (rowS 0).take i ++ [(rowS 0)[i]]:=List.take_succ_eq_append_getElem hlt'
      generalize hse : (rowS 0)[i] = s at *
      have hcond : (endL a s == b) = decide ((endL a s : Int) = (b : Int)):=by
        rw [Bool.eq_iff_iff,beq_iff_eq,decide_eq_true_iff]; omega
      obtain rfl : s = []:=List.eq_nil_of_length_eq_zero hls
      obtain rfl : i = 0:=by simpa using hlt
      have hmx : (2 * 0) + 2 ≤ maxSl:=by unfold maxSl; omega
      have hfl : ((flS ((rowS 0).take 0)).map PV.str).length = 2 * 0:=rfl
      have hgz : [PV.str []][0]? = some (PV.str []):=rfl
      rcases hb : decide ((a : Int) = (b : Int)) with _ | _
      · have hne : ¬ ((a : Int) = (b : Int)) := of_decide_eq_false hb
        have h01 : (0 : Int) < ((2 ^ 0 : Nat) : Int):=by decide
        have w1 : IntKind.i64.wrap 1 = ((1 : Nat) : Int):=rfl
        have hst : 1 ≤ maxStr:=by decide
        have hmx2 : 2 ≤ maxSl:=by decide
        have hf0 : (flS []).length = 0:=rfl
        simp only [go_sem,hgz,cx,w1,s_WalkOf a [] ha rfl (Nat.zero_le _),walkL,hne,h01,hst,hf0,hmx2]
        refine ⟨1,rfl,⟨Nat.le_refl _,?_⟩,by decide⟩
        intro x hx
        obtain rfl : x = []:=by simpa [rowS] using hx
        exact decide_eq_false (fun e=>hne (congrArg Nat.cast e))
      · have heq : (a : Int) = (b : Int) := of_decide_eq_true hb
        have h01 : (0 : Int) < ((2 ^ 0 : Nat) : Int):=by decide
        simp only [go_sem,hgz,cx,s_WalkOf a [] ha rfl (Nat.zero_le _),walkL,eq_true heq,h01]
        exact congrArg AS (hit (k:=0) (i:=0) (s:=[]) hk hn rfl (by rw [hcond]; exact hb))
    · obtain rfl : i = 1 := by omega
      have h11 : ¬ ((1 : Int) < ((2 ^ 0 : Nat) : Int)):=by decide
      have c1 : ((1 : Nat) : Int) = 1:=rfl
      simp only [go_sem,c1,h11]
      exact ⟨1,rfl,miss (k:=0) (i:=1) hk hn (by simp [rowS]),by have:=miss (k:=0) (i:=1) hk hn (by simp [rowS]); omega⟩
  | succ k=>
    dsimp only [rowV,rowsH]
    have hlen : (rowsH h k).length = h.length + k:=rowsH_len h k
    rw [← hlen]
    simp only [go_sem]
    refine N_loop (fun i : Nat=>⟨[(0,AI a),(1,AI b),(6,.own ((rowsH h k).length + 1) (2 * i) 0 (2 * i)),(12,.own (rowsH h k).length (2 ^ (k + 1)) 0 (2 ^ (k + 1))),(13,AI (2 ^ (k + 1) : Nat)),(14,AI i)],(rowsH h k) ++ [.row none ((rowS (k + 1)).map PV.str) 0,.row none ((flS ((rowS (k + 1)).take i)).map PV.str) 0],[]⟩) (fun i=>i ≤ 2 ^ (k + 1) ∧ ∀ x ∈ (rowS (k + 1)).take i,(endL a x == b) = false) (fun i=>2 ^ (k + 1) - i) 0 rfl ⟨Nat.zero_le _,by simp⟩ ?_
    rintro i ⟨hi,hn⟩
    rcases Nat.lt_or_ge i (2 ^ (k + 1)) with hlt | hge
    · have hlt' : i < (rowS (k + 1)).length := by rw [rowS_length]; exact hlt
      have hg:=map_get PV.str hlt'
      obtain ⟨hbs,hls⟩:=rowS_mem (List.getElem_mem hlt')
      have hgs : (rowS (k + 1))[i]? = some (rowS (k + 1))[i]:=List.getElem?_eq_getElem hlt'
      have cx : cutP none 0 (PV.str (rowS (k + 1))[i]) = some (PV.str (rowS (k + 1))[i]):=rfl
      have w2 : IntKind.i64.wrap ((i : Int) + 1) = ((i + 1 : Nat) : Int):=i64_wrap _ (by omega) (by omega)
      have htk : (rowS (k + 1)).take (i + 1) = (rowS (k + 1)).take i ++ [(rowS (k + 1))[i]]:=List.take_succ_eq_append_getElem hlt'
      generalize hse : (rowS (k + 1))[i] = s at *
      have hcond : (endL a s == b) = decide ((endL a s : Int) = (b : Int)):=by
        rw [Bool.eq_iff_iff,beq_iff_eq,decide_eq_true_iff]; omega
      have hwl : ((walkL a s).map fun n : Nat=>eI n).length = k + 1:=by simp [walkL_length,hls]
      have hwg : ((walkL a s).map fun n : Nat=>eI n)[k]? = some (eI (endL a s)):=by
        have:=walkL_last a s (by omega)
        rw [hls,Nat.add_sub_cancel] at this
        rw [List.getElem?_map,this]; rfl
      have hpos : (0 : Int) < ((k + 1 : Nat) : Int):=by omega
      have w3 : IntKind.i64.wrap (((k + 1 : Nat) : Int) - 1) = (k : Int):=by
          rw [show ((k + 1 : Nat) : Int) - 1 = (k : Int) by omega]; exact i64_wrap _ (by omega) (by omega)
      have hmx : (2 * i) + 2 ≤ maxSl:=by unfold maxSl; omega
      have hfl : ((flS ((rowS (k + 1)).take i)).map PV.str).length = 2 * i:=by simp [flS_length,List.length_take,rowS_length]; omega
      have hrl : (rowS (k + 1)).length = 2 ^ (k + 1):=rowS_length _
      have hst : s.length + 1 ≤ maxStr:=by rw [hls]; unfold maxStr; omega
      rcases hb : decide ((endL a s : Int) = (b : Int)) with _ | _
      · have hne : ¬ ((endL a s : Int) = (b : Int)) := of_decide_eq_false hb
        simp only [go_sem,hlt,hg,cx,w2,s_WalkOf a s ha hbs (by omega),hwl,hwg,hpos,w3,hfl,hmx,hne,hrl,hst]
        refine ⟨i + 1,?_,⟨by omega,?_⟩,by omega⟩
        · rw [htk,flS_snoc,List.map_append]; rfl
        · intro x hx
          rw [htk] at hx
          rcases List.mem_append.1 hx with hx | hx
          · exact hn x hx
          · obtain rfl : x = s := by simpa using hx
            rw [hcond]; exact hb
      · have heq : (endL a s : Int) = (b : Int) := of_decide_eq_true hb
        simp only [go_sem,hlt,hg,cx,w2,s_WalkOf a s ha hbs (by omega),hwl,hwg,hpos,w3,eq_true heq,hrl]
        exact ⟨congrArg AS (hit hk hn hgs (by rw [hcond]; exact hb)),by rw [List.take_append_of_le_length (by rw [rowsH_len]; omega),rowsH_take]⟩
    · obtain rfl : i = 2 ^ (k + 1) := by omega
      have hm:=miss hk hn (by rw [rowS_length]; exact Nat.le_refl _)
      simp only [go_sem,Int.lt_irrefl]
      have e1 : 2 * 2 ^ (k + 1) = 2 ^ (k + 1 + 1):=by rw [Nat.pow_succ 2 (k + 1)]; omega
      have e2 : (rowS (k + 1)).take (2 ^ (k + 1)) = rowS (k + 1):=List.take_of_length_le (by rw [rowS_length]; exact Nat.le_refl _)
      have e3 : rowsH h k ++ [Obj.row none ((rowS (k + 1)).map PV.str) 0,Obj.row none ((flS (rowS (k + 1))).map PV.str) 0] = rowsH h (k + 1 + 1):=by
        rw [← rowS_succ,rowsH,rowsH,List.append_assoc]; rfl
      refine ⟨k + 2,?_,hm,by omega⟩
      rw [e1,e2,e3,hlen]
      rfl
theorem ways_all : (frS.all fun a=>toS.all fun b=>decide (wayF a b 9 0 = some (pathV a b))) = true:=by kernel_rfl
theorem way_path {a b : Nat} (ha : a ∈ frS) (hb : b ∈ toS) : wayF a b 9 0 = some (pathV a b):=
  of_decide_eq_true (List.all_eq_true.1 (List.all_eq_true.1 ways_all a ha) b hb)
theorem fr_lt {a : Nat} (ha : a ∈ frS) : a < 16:=of_decide_eq_true (List.all_eq_true.1 (show (frS.all fun a=>decide (a < 16)) = true from rfl) a ha)
theorem path_facts {a b : Nat} (ha : a ∈ frS) (hb : b ∈ toS) : bitsB (pathV a b) = true ∧ (pathV a b).length ≤ 8 ∧ endL a (pathV a b) = b:=by
  obtain ⟨kw,h1,h2,_⟩:=wayF_spec (way_path ha hb)
  have hm:=rowS_mem (List.mem_of_find?_eq_some h2)
  have he:=List.find?_some h2
  exact ⟨hm.1,by omega,by simpa using he⟩
theorem s_Way {a b : Nat} (ha : a ∈ frS) (hb : b ∈ toS) : ACall X f_q00m [AI a,AI b] h K = K (AS (pathV a b)) h []:=s_PathOf a b (fr_lt ha) _ (way_path ha hb)
theorem s_isState {n : Nat} (hn : n < 16) : ACall X f_q01t [AI n] h K = K (AB true) h []:=by
  refine rule ?_
  have h1 : (0 : Int) ≤ n:=by omega
  have h2 : (n : Int) ≤ 15:=by omega
  have h3 : ¬ ((n : Int) < 0):=by omega
  have h4 : ¬ ((n : Int) > 15):=by omega
  rw [c_q01t rfl]
  simp only [d_q01t,go_sem,s_Out,h3,h4]
theorem s_Path {a b : Nat} (ha : a < 16) (hb : b < 16) : ACall X f_q01s [AI a,AI b] h K = K (.tup [AS (pathV a b),AI 0]) h []:=by
  refine rule ?_
  rw [c_q01s rfl]
  simp only [d_q01s,go_sem,s_isState ha,s_isState hb,g_path x_q01v x_q01u a b ha hb]
theorem vis_all : (frS.all fun a=>toS.all fun b=>decide ((visL a (pathV a b)).count 11 = 0) && decide ((visL a (pathV a b)).count 4 = 0)) = true:=by kernel_rfl
theorem pathOk : PathOk pathV where
  bits a ha b hb:=(path_facts ha hb).1
  len a ha b hb:=(path_facts ha hb).2.1
  ends a ha b hb:=(path_facts ha hb).2.2
  no11 a ha b hb:=by
    have:=List.all_eq_true.1 (List.all_eq_true.1 vis_all a ha) b hb
    simp only [Bool.and_eq_true,decide_eq_true_eq] at this
    exact this.1
  no4 a ha b hb:=by
    have:=List.all_eq_true.1 (List.all_eq_true.1 vis_all a ha) b hb
    simp only [Bool.and_eq_true,decide_eq_true_eq] at this
    exact this.2
end Go.Am
end
section
/- Lengths of numbers in bits,and comparisons of plain values. -/
open Go
namespace Go.Am
variable {h : Heap} {K : Post}
set_option maxRecDepth 20000
theorem shps_eI {l : List Int} : shps none (l.map eI):=fun x hx=>by obtain ⟨n,_,rfl⟩:=List.mem_map.1 hx; rfl
end Go.Am
end
section
/- Lists of strings sorted,left out: printed by program. -/
open Go
set_option linter.unusedSimpArgs false
namespace Go.Am
attribute [-go_sem] PV.cells splice
variable {h : Heap} {K : Post}
end Go.Am
end
section
/- Finding values in lists: printed by program. -/
open Go
set_option linter.unusedSimpArgs false
namespace Go.Am
attribute [-go_sem] PV.cells
variable {h : Heap} {K : Post}
end Go.Am
end
section
/- Limits: what they are,what is wrong with them. -/
open Go
namespace Go.Am
variable {h : Heap} {K : Post}
end Go.Am
end
section
/- What is wrong with limits,both ways: printed by program. -/
open Go
set_option linter.unusedSimpArgs false
namespace Go.Am
variable {h : Heap} {K : Post}
end Go.Am
end
section
/- Package lot on measured values,and what the reference says of them. -/
open Go
namespace Go.Am
variable {h : Heap} {K : Post}
end Go.Am
end
section
/- Records: what they are,what is wrong with them. -/
open Go
set_option linter.unusedSimpArgs false
namespace Go.Am
variable {h : Heap} {K : Post}
theorem retK_keep {b : Nat} {P : Post} {vs : List AV} {h : Heap} : retK true b P (some vs) h [] = P (oneOf vs) (h.take (max b (oneOf vs).top)) []:=by
  simp [retK,close,closed]
attribute [go_sem] retK_keep
structure Rec where
  unit : List UInt8
  time : Int
  site : List UInt8
  res : List Int
end Go.Am
end
section
/- What is drawn: numbers,measured values. -/
open Go
namespace Go.Am
variable {L : List Int} {a : Int}
theorem g_Odd (hp : posN 14 a) (u v : Int) (huv : u ≤ v) (hu : -1000000000000 ≤ u) (hv : v ≤ 1000000000000) : ∃ k a2 : Int,a ≤ a2 ∧ a2 ≤ a + 2 ∧ -1099511627776 ≤ k ∧ k ≤ 1099511627776 ∧
    Gen f_q00h [AI u,AI v] L a a2 (AI k):=by
  have w1 : IntKind.i64.wrap (u - 1) = u - 1:=i64_wrap _ (by omega) (by omega)
  have w2 : IntKind.i64.wrap (v + 1) = v + 1:=i64_wrap _ (by omega) (by omega)
  by_cases hf : nextV L a 12 = 0
  · have hm := pickV_mem (L := L) (a := a + 1) (l := [u - 1, v + 1, u, v, -1099511627776, 1099511627776]) (by simp) (by simp)
    simp only [List.mem_cons,List.not_mem_nil,or_false] at hm
    refine ⟨pickV [u - 1,v + 1,u,v,-1099511627776,1099511627776] L (a + 1),a + 1 + 1,by omega,by omega,by omega,by omega,Gen.of fun h id hid=>?_⟩
    rw [c_q00h rfl]
    simp only [d_q00h,go_sem,hid,posAll hp,hf,w1,w2]
  · have hm := rangeV_bd L (a + 1) huv (by omega)
    refine ⟨rangeV u v L (a + 1),a + 1 + 1,by omega,by omega,by omega,by omega,Gen.of fun h id hid=>?_⟩
    rw [c_q00h rfl]
    simp only [d_q00h,go_sem,hid,posAll hp,hf,w1,w2,huv,show -1152921504606846976 ≤ u by omega,show v ≤ 1152921504606846976 by omega]
end Go.Am
end
section
/- Strings that are drawn. -/
open Go
set_option linter.unusedSimpArgs false
namespace Go.Am
variable {L : List Int} {a : Int} {h l : Heap} {id : Nat} {K : Post}
def isS : PV → Bool
  | .str _=>true
  | _=>false
def unS : PV → List UInt8
  | .str s=>s
  | _=>[]
def pickS (l : List (List UInt8)) (L : List Int) (a : Int) : List UInt8:=l.getD (nextV L a l.length).toNat []
theorem pickS_mem {l : List (List UInt8)} {L : List Int} {a : Int} (hl : 0 < l.length) (hl2 : l.length < 4611686018427387904) : pickS l L a ∈ l:=by
  obtain ⟨b1,b2⟩:=nextV_bd L a l.length (by omega) (by omega)
  unfold pickS
  have : (nextV L a l.length).toNat < l.length:=by omega
  simp only [List.getD,List.getElem?_eq_getElem this,Option.getD_some]
  exact List.getElem_mem _
theorem unS_map {xs : List PV} (h : xs.all isS = true) : xs = (xs.map unS).map PV.str:=by
  induction xs with
  | nil=>rfl
  | cons x r ih=>
    simp only [List.all_cons,Bool.and_eq_true] at h
    simp only [List.map_cons]
    rw [← ih h.2]
    cases x <;> first | rfl | cases h.1
theorem g_Some (hp : posN 0 a) (xs : List PV) (hx : xs.all isS = true) (hl : 0 < xs.length) (hl2 : xs.length < 4611686018427387904) :
    Gen f_q00k [.p (.sl none xs)] L a (a + 1) (AS (pickS (xs.map unS) L a)):=by
  refine Gen.of fun h id hid=>?_
  rw [c_q00k rfl]
  obtain ⟨b1,b2⟩:=nextV_bd L a xs.length (by omega) (by omega)
  have e4:=natOf_int (k:=.i64) b1
  have e5 : xs[(nextV L a xs.length).toNat]? = some (.str (pickS (xs.map unS) L a)):=by
      have hm:=unS_map hx
      generalize hq : xs.map unS = q at *
      subst hm
      simp only [List.length_map] at *
      rw [map_get PV.str (show (nextV L a q.length).toNat < q.length by omega)]
      simp [pickS,List.getD,show (nextV L a q.length).toNat < q.length by omega]
  simp only [d_q00k,go_sem,s_Next_set hid hp,e4,e5]
theorem s_Some_set (hid : id < h.length) (hp : posN 0 a) {xs : List PV} (hx : xs.all isS = true) (hl : 0 < xs.length) (hl2 : xs.length < 4611686018427387904) :
    ACall X f_q00k [.ref id 0,.p (.sl none xs)] (h.set id (strm L a)) K = K (AS (pickS (xs.map unS) L a)) (h.set id (strm L (a + 1))) []:=(g_Some hp xs hx hl hl2).set hid
theorem s_Some_app (hid : id < h.length) (hp : posN 0 a) {xs : List PV} (hx : xs.all isS = true) (hl : 0 < xs.length) (hl2 : xs.length < 4611686018427387904) :
    ACall X f_q00k [.ref id 0,.p (.sl none xs)] (h.set id (strm L a) ++ l) K = K (AS (pickS (xs.map unS) L a)) (h.set id (strm L (a + 1)) ++ l) []:=(g_Some hp xs hx hl hl2).app hid
theorem s_Some_hd (hp : posN 0 a) {xs : List PV} (hx : xs.all isS = true) (hl : 0 < xs.length) (hl2 : xs.length < 4611686018427387904) :
    ACall X f_q00k [.ref 0 0,.p (.sl none xs)] (strm L a :: l) K = K (AS (pickS (xs.map unS) L a)) (strm L (a + 1) :: l) []:=(g_Some hp xs hx hl hl2).hd
attribute [go_sem ↓] s_Some_set s_Some_app s_Some_hd
attribute [go_sem] s_Some_set s_Some_app s_Some_hd isS unS
end Go.Am
end
section
/- What is drawn: strings,limits. -/
open Go
set_option linter.unusedSimpArgs false
namespace Go.Am
variable {L : List Int} {a : Int} {h l : Heap} {id : Nat} {K : Post}
end Go.Am
end
section
/- Records: what is wrong with them,both ways. -/
open Go
set_option linter.unusedSimpArgs false
namespace Go.Am
variable {h : Heap} {K : Post}
end Go.Am
end
section
/- Sorting records: printed by program. -/
open Go
set_option linter.unusedSimpArgs false
namespace Go.Am
attribute [-go_sem] PV.cells splice
variable {h : Heap} {K : Post}
end Go.Am
end
section
/- Leaving out what is alike: printed by program. -/
open Go
set_option linter.unusedSimpArgs false
namespace Go.Am
attribute [-go_sem] PV.cells splice
variable {h : Heap} {K : Post}
end Go.Am
end
section
/- What is drawn: records. -/
open Go
set_option linter.unusedSimpArgs false
namespace Go.Am
variable {L : List Int} {a : Int} {h l : Heap} {id : Nat} {K : Post}
end Go.Am
end
section
/- Merging two ordered lists: by sorting and leaving out what is alike,and by looking each one up. Plain lists. -/
namespace Go.Am
variable {α : Type}
structure Ordr (c : α → α → Int) : Prop where
  neg : ∀ a b,c b a = - c a b
  trans : ∀ a b d,c a b ≤ 0 → c b d ≤ 0 → c a d ≤ 0
theorem Ordr.refl {c : α → α → Int} (o : Ordr c) (a : α) : c a a = 0:=by have:=o.neg a a; omega
variable {c : α → α → Int} {q : α → α → Bool} {a b : List α}
end Go.Am
end
section
/- Records alike; copies; bins. -/
open Go
set_option linter.unusedSimpArgs false
namespace Go.Am
variable {h : Heap} {K : Post}
def sameR (a b : Rec) : Bool:=decide (a.unit = b.unit) && (decide (a.time = b.time) && (decide (a.site = b.site) && decide (a.res = b.res)))
theorem sameR_iff (a b : Rec) : sameR a b = true ↔ a = b:=by
  cases a; cases b
  simp [sameR]
end Go.Am
end
section
/- Sorting numbers: printed by program. -/
open Go
set_option linter.unusedSimpArgs false
namespace Go.Am
attribute [-go_sem] PV.cells splice
variable {h : Heap} {K : Post}
end Go.Am
end
section
/- Bins,both ways; lists joined; records sorted. -/
open Go
set_option linter.unusedSimpArgs false
namespace Go.Am
variable {h : Heap} {K : Post}
end Go.Am
end
section
/- Lists of records joined,compared,merged. -/
open Go
set_option linter.unusedSimpArgs false
namespace Go.Am
variable {h : Heap} {K : Post}
instance : DecidableEq Rec:=fun a b=>decidable_of_iff (sameR a b = true) (sameR_iff a b)
end Go.Am
end
section
/- Records merged asv the reference does it. -/
open Go
set_option linter.unusedSimpArgs false
namespace Go.Am
variable {h : Heap} {K : Post}
end Go.Am
end
section
/- Retests: which record of a unit counts. Plain lists; both ways yield the same. -/
set_option linter.all false
namespace Go.Am
end Go.Am
end
section
/- Lists of strings. -/
open Go
set_option linter.all false
namespace Go.Am
variable {h : Heap} {K : Post}
theorem X_ex2 : X.ex2 = libF GRL PRL:=rfl
end Go.Am
end
section
/- Tests and faults: what is wrong with them,both ways. -/
open Go
set_option linter.all false
namespace Go.Am
variable {h : Heap} {K : Post}
theorem s_Trim (s cs : List UInt8) (hs : s.length ≤ 1000000) (hc : cs.length ≤ 1000) (ha : cs.all (fun b=>decide (b.toNat < 128)) = true) : ACall X f_q01j [AS s,AS cs] h K = K (AS (trimL s cs)) h []:=by
  refine lib_call (X:=X) (by kernel_rfl) ?_
  rw [X_ex2]
  exact libF_pure (vs:=[.str s,.str cs]) (by kernel_rfl) (s:=trimS) (by kernel_rfl) rfl (by simp only [trimS]; rw [if_pos ⟨hs,hc,ha⟩])
theorem s_BitsP (s : List UInt8) (hs : s.length ≤ 1000000) : ACall X f_q000 [AS s] h K = K (AB (bitsB s)) h []:=by
  refine rule ?_
  rw [c_q000 rfl]
  have e:=fun h K=>s_Trim (h:=h) (K:=K) s [48,49] hs (by simp) (by decide)
  have b : decide (trimL s [48,49] = []) = bitsB s:=trim_bits s
  simp only [d_q000,go_sem,e,b]
theorem s_BitsQ (s : List UInt8) (hs : s.length ≤ 1000000) : ACall X f_q00p [AS s] h K = K (AB (bitsB s)) h []:=by
  refine rule ?_
  rw [c_q00p rfl]
  have e:=fun h K=>s_only (h:=h) (K:=K) s [48,49] (by omega)
  have b : (s.all fun c=>[48,49].contains c) = bitsB s:=rfl
  simp only [d_q00p,go_sem,e,b]
end Go.Am
end
section
/- Faults: what is wrong with them,both ways. -/
open Go
set_option linter.all false
namespace Go.Am
variable {h : Heap} {K : Post}
theorem IndexI {v : AV} (l : List Int) (hv : Shows none v (l.map eI) h) (x : Int) (hl : l.length ≤ 1000000) : ACall X f_q017 [v,AI x] h K = K (AI (if l.findIdx (fun y=>decide (y = x)) < l.length then (l.findIdx (fun y=>decide (y = x)) : Int) else -1)) h []:=by
  refine rule ?_
  rw [c_q017]
  have vl:=hv.len
  rw [List.length_map] at vl
  simp only [d_q017,go_sem,vl]
  refine N_loop (fun k : Nat=>⟨[(0,v),(1,AI x),(7,AI l.length),(8,AI k)],h,[]⟩) (fun k=>k ≤ l.length ∧ ∀ y ∈ l.take k,decide (y = x) = false) (fun k=>l.length - k) 0 rfl (by simp) ?_
  rintro k ⟨hk,hn⟩
  rcases Nat.lt_or_ge k l.length with hlt | hge
  · obtain ⟨a, ha, hb⟩ := hv.get k (by simpa using hlt)
    rw [List.getElem_map] at hb
    have w2 : IntKind.i64.wrap ((k : Int) + 1) = ((k + 1 : Nat) : Int):=i64_wrap _ (by omega) (by omega)
    by_cases hpk : x = l[k]
    · have hf : l.findIdx (fun y=>decide (y = x)) = k:=by
        rw [List.findIdx_eq hlt]
        refine ⟨by simp [hpk],fun j hj=>?_⟩
        have:=hn l[j] (by rw [List.mem_take_iff_getElem]; exact ⟨j,by omega,rfl⟩)
        simpa using this
      simp only [go_sem,hlt,ha,hb,hpk.symm,w2]
      simp only [hf,hlt,if_true]
    · simp only [go_sem, hlt, ha, hb, hpk, w2]
      refine ⟨k + 1,rfl,⟨by omega,fun y hy=>?_⟩,by omega⟩
      rw [List.take_succ_eq_append_getElem hlt,List.mem_append,List.mem_singleton] at hy
      rcases hy with hy | hy
      · exact hn y hy
      · rw [hy]; simp; exact fun e=>hpk e.symm
  · have e1 : k = l.length := by omega
    subst e1
    simp only [go_sem,Nat.lt_irrefl]
    rw [List.take_length] at hn
    have : ¬ l.findIdx (fun y=>decide (y = x)) < l.length:=by
      rw [Nat.not_lt,Nat.le_iff_lt_or_eq]; right
      exact (List.findIdx_eq_length.2 (fun y hy=>by simp [hn y hy])).symm
    rw [if_neg this]
theorem ContainsI {v : AV} (l : List Int) (hv : ∀ h' : Heap,h' = h → Shows none v (l.map eI) h') (x : Int) (hl : l.length ≤ 1000000) : ACall X f_q015 [v,AI x] h K = K (AB (l.contains x)) h []:=by
  refine rule ?_
  rw [c_q015]
  have e:=fun K=>IndexI (h:=h) (K:=K) l (hv h rfl) x hl
  have hd : decide (0 ≤ (if l.findIdx (fun y=>decide (y = x)) < l.length then (l.findIdx (fun y=>decide (y = x)) : Int) else -1)) = l.contains x:=by
    rw [Bool.eq_iff_iff,decide_eq_true_eq,List.contains_iff_mem]
    constructor
    · intro hq
      split at hq
      · rename_i hlt
        have:=List.findIdx_getElem (w:=hlt)
        simp only [decide_eq_true_eq] at this
        exact this ▸ List.getElem_mem hlt
      · omega
    · intro hm
      rw [if_pos (List.findIdx_lt_length_of_exists ⟨x,hm,by simp⟩)]; omega
  simp only [d_q015,go_sem,e,hd]
theorem s_ContainsI (l : List Int) (x : Int) (hl : l.length ≤ 1000000) : ACall X f_q015 [AL l,AI x] h K = K (AB (l.contains x)) h []:=ContainsI l (fun h' _=>shows_sl shps_eI) x hl
end Go.Am
end
section
/- Commands: what is wrong with them,on both sides. -/
open Go
set_option linter.all false
namespace Go.Am
variable {h : Heap} {K : Post}
abbrev cmdP (c : Cmd) : PV:=.agg [.int .i64 c.k,.int .i64 c.s,.int .i64 c.cl,.str c.b,.str c.w,.str c.m]
abbrev ACm (c : Cmd) : AV:=.p (cmdP c)
structure CmdOk (c : Cmd) : Prop where
  b : c.b.length ≤ 100000
  w : c.w.length ≤ 100000
  m : c.m.length ≤ 100000
theorem s_stable (n : Int) : ACall X f_q02j [AI n] h K = K (AB (stableB n)) h []:=by
  refine rule ?_
  rw [c_q02j rfl]
  unfold stableB
  by_cases h0 : n = 0
  · subst h0; simp only [d_q02j,go_sem]
  by_cases h1 : n = 1
  · subst h1; simp only [d_q02j,go_sem]
  by_cases h2 : n = 6
  · subst h2; simp only [d_q02j,go_sem]
  by_cases h3 : n = 13
  · subst h3; simp only [d_q02j,go_sem]
  have e : (n == 0 || n == 1 || n == 6 || n == 13) = false:=by simp [h0,h1,h2,h3]
  rw [e]
  simp only [d_q02j,go_sem,h0,h1,h2,h3]
theorem s_stableQ (n : Int) : ACall X f_q012 [AI n] h K = K (AB (stableB n)) h []:=by
  refine rule ?_
  rw [c_q012 rfl]
  have e : ([0,1,6,13] : List Int).contains n = stableB n:=by
    unfold stableB
    simp only [List.contains_cons,List.contains_nil,Bool.or_false,Bool.or_assoc]
  have k : ∀ (h' : Heap) (K' : Post),ACall X f_q015 [.p (.sl none [eI 0,eI 1,eI 6,eI 13]),AI n] h' K' = K' (AB (([0,1,6,13] : List Int).contains n)) h' []:=fun h' K'=>s_ContainsI (h:=h') (K:=K') [0,1,6,13] n (by decide)
  simp only [d_q012,go_sem,k,e]
theorem s_isScan (n : Int) : ACall X f_q028 [AI n] h K = K (AB (decide (n = 7) || decide (n = 8))) h []:=by
  refine rule ?_
  rw [c_q028 rfl]
  by_cases h0 : n = 7
  · subst h0; simp only [d_q028,go_sem]
  by_cases h1 : n = 8
  · subst h1; simp only [d_q028,go_sem]
  simp only [d_q028,go_sem,h0,h1]
theorem s_isSetting (n : Int) : ACall X f_q029 [AI n] h K = K (AB (decide (1 ≤ n) && decide (n ≤ 6))) h []:=by
  refine rule ?_
  rw [c_q029 rfl]
  by_cases h0 : n < 1
  · have : ¬ (1 ≤ n) := by omega
    simp only [d_q029,go_sem,s_Out,h0,this]
  · have : 1 ≤ n := by omega
    by_cases h1 : 6 < n
    · have h2 : ¬ (n ≤ 6) := by omega
      simp only [d_q029,go_sem,s_Out,h0,this,h1,h2]
    · have h2 : n ≤ 6 := by omega
      simp only [d_q029,go_sem,s_Out,h0,this,h1,h2]
theorem s_scanF (c : Cmd) (hc : CmdOk c) : ACall X f_q02g [ACm c] h K = K (AI (scanF c : Nat)) h []:=by
  refine rule ?_
  rw [c_q02g rfl]
  have b1:=hc.b; have b2:=hc.w; have b3:=hc.m
  have k1:=fun (h' : Heap) (K' : Post)=>s_BitsP (h:=h') (K:=K') c.b (show c.b.length ≤ 1000000 by omega)
  have k2:=fun (h' : Heap) (K' : Post)=>s_BitsP (h:=h') (K:=K') c.w (show c.w.length ≤ 1000000 by omega)
  have k3:=fun (h' : Heap) (K' : Post)=>s_BitsP (h:=h') (K:=K') c.m (show c.m.length ≤ 1000000 by omega)
  obtain ⟨k,s,cl,b,w,m⟩:=c
  simp only at b1 b2 b3 k1 k2 k3
  have h0:=k1; have h0':=k2; have h0'':=k3
  unfold scanF
  by_cases h1 : b = []
  · simp only [d_q02g,go_sem,h1]
  rcases hb : bitsB b with _ | _
  · simp only [d_q02g,go_sem,h1,k1,hb]
  by_cases h2 : 2000 < b.length
  · have h2' : (2000 : Int) < (b.length : Int) := by omega
    simp only [d_q02g,go_sem,h1,k1,hb,h2,h2']
  have h2' : ¬ (2000 : Int) < (b.length : Int):=by omega
  by_cases h3 : w = []
  · subst h3
    have hbn : bitsB [] = true:=rfl
    rcases hm : bitsB m with _ | _
    · simp only [d_q02g,go_sem,h1,k1,hb,h2,h2',k2,hbn,k3,hm]
    · by_cases h4 : m = []
      · subst h4
        simp only [d_q02g,go_sem,h1,k1,hb,h2,h2',k2,hbn]
      · simp only [d_q02g,go_sem,h1,k1,hb,h2,h2',k2,hbn,k3,hm,h4]
  by_cases h4 : w.length = b.length
  · have h4' : (w.length : Int) = (b.length : Int) := by omega
    by_cases h5 : m.length = b.length
    · have h5' : (m.length : Int) = (b.length : Int) := by omega
      rcases hw : bitsB w with _ | _
      · simp only [d_q02g, go_sem, h1, k1, hb, h2', h3, h4', h5', k2, hw]
        simp [h1,hb,h2,h3,h4,h5,hw]
      · rcases hm : bitsB m with _ | _
        · simp only [d_q02g, go_sem, h1, k1, hb, h2', h3, h4', h5', k2, hw, k3, hm]
          simp [h1,hb,h2,h3,h4,h5,hw,hm]
        · simp only [d_q02g, go_sem, h1, k1, hb, h2', h3, h4', h5', k2, hw, k3, hm]
          simp [h1,hb,h2,h3,h4,h5,hw,hm]
    · have h5' : ¬ (m.length : Int) = (b.length : Int) := by omega
      simp only [d_q02g,go_sem,h1,k1,hb,h2',h3,h4',h5']
      simp [h1,hb,h2,h3,h4,h5]
  · have h4' : ¬ (w.length : Int) = (b.length : Int) := by omega
    simp only [d_q02g,go_sem,h1,k1,hb,h2',h3,h4']
    simp [h1,hb,h2,h3,h4]
theorem s_scanFQ (c : Cmd) (hc : CmdOk c) : ACall X f_q010 [ACm c] h K = K (AI (scanF c : Nat)) h []:=by
  refine rule ?_
  rw [c_q010 rfl]
  have b1:=hc.b; have b2:=hc.w; have b3:=hc.m
  have k1:=fun (h' : Heap) (K' : Post)=>s_BitsQ (h:=h') (K:=K') c.b (show c.b.length ≤ 1000000 by omega)
  have k2:=fun (h' : Heap) (K' : Post)=>s_BitsQ (h:=h') (K:=K') c.w (show c.w.length ≤ 1000000 by omega)
  have k3:=fun (h' : Heap) (K' : Post)=>s_BitsQ (h:=h') (K:=K') c.m (show c.m.length ≤ 1000000 by omega)
  obtain ⟨k,s,cl,b,w,m⟩:=c
  simp only at b1 b2 b3 k1 k2 k3
  have h0:=k1; have h0':=k2; have h0'':=k3
  unfold scanF
  by_cases h1 : b = []
  · simp only [d_q010,go_sem,h1]
  rcases hb : bitsB b with _ | _
  · simp only [d_q010,go_sem,h1,k1,hb]
  by_cases h2 : 2000 < b.length
  · have h2' : (2000 : Int) < (b.length : Int) := by omega
    simp only [d_q010,go_sem,h1,k1,hb,h2,h2']
  have h2' : ¬ (2000 : Int) < (b.length : Int):=by omega
  by_cases h3 : w = []
  · subst h3
    have hbn : bitsB [] = true:=rfl
    rcases hm : bitsB m with _ | _
    · simp only [d_q010,go_sem,h1,k1,hb,h2,h2',k2,hbn,k3,hm]
    · by_cases h4 : m = []
      · subst h4
        simp only [d_q010,go_sem,h1,k1,hb,h2,h2',k2,hbn]
      · simp only [d_q010,go_sem,h1,k1,hb,h2,h2',k2,hbn,k3,hm,h4]
  by_cases h4 : w.length = b.length
  · have h4' : (w.length : Int) = (b.length : Int) := by omega
    by_cases h5 : m.length = b.length
    · have h5' : (m.length : Int) = (b.length : Int) := by omega
      rcases hw : bitsB w with _ | _
      · simp only [d_q010, go_sem, h1, k1, hb, h2', h3, h4', h5', k2, hw]
        simp [h1,hb,h2,h3,h4,h5,hw]
      · rcases hm : bitsB m with _ | _
        · simp only [d_q010, go_sem, h1, k1, hb, h2', h3, h4', h5', k2, hw, k3, hm]
          simp [h1,hb,h2,h3,h4,h5,hw,hm]
        · simp only [d_q010, go_sem, h1, k1, hb, h2', h3, h4', h5', k2, hw, k3, hm]
          simp [h1,hb,h2,h3,h4,h5,hw,hm]
    · have h5' : ¬ (m.length : Int) = (b.length : Int) := by omega
      simp only [d_q010,go_sem,h1,k1,hb,h2',h3,h4',h5']
      simp [h1,hb,h2,h3,h4,h5]
  · have h4' : ¬ (w.length : Int) = (b.length : Int) := by omega
    simp only [d_q010,go_sem,h1,k1,hb,h2',h3,h4']
    simp [h1,hb,h2,h3,h4]
end Go.Am
end
