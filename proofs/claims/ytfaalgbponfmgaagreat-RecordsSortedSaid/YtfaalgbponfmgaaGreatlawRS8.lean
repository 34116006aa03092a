/- Texts of the proof, laid together: Ctx, SpStream, MathFrac, SpBase, SpList, PSort, SpShp, SpStr, SpFind, SpLimD, SpLim, SpLotA, SpRecD, SpGenA, SpGenL. -/
import Derived.Test.YtfaalgbponfmgaaGreatlawRS7
set_option linter.all false
section
/- The functions together. -/
set_option linter.unusedVariables false
set_option maxRecDepth 100000
namespace Go.Am
def fns : List (Nat × AFun) := [(f_scanlaw2_RecordsSorted, a_scanlaw2_RecordsSorted), (f_scanmake_Stream_LimitList, a_scanmake_Stream_LimitList), (f_scanmake_Stream_Records, a_scanmake_Stream_Records), (f_scanmake_Stream_Range, a_scanmake_Stream_Range), (f_scanmake_Stream_Flip, a_scanmake_Stream_Flip), (f_slices_Clone_api_Record_api_Record, a_slices_Clone_api_Record_api_Record), (f_scanmake_Stream_Next, a_scanmake_Stream_Next), (f_scanmake_Stream_Pick, a_scanmake_Stream_Pick), (f_lot_Merge, a_lot_Merge), (f_lot_Bin, a_lot_Bin), (f_scanref2_RecordsFault, a_scanref2_RecordsFault), (f_scanlaw2_errs, a_scanlaw2_errs), (f_scanref2_RecordFault, a_scanref2_RecordFault), (f_scanref2_MergedRecords, a_scanref2_MergedRecords), (f_scanref2_BinOf, a_scanref2_BinOf), (f_lot_CheckLimits, a_lot_CheckLimits), (f_scanref2_LimitsFault, a_scanref2_LimitsFault), (f_lot_CheckRecords, a_lot_CheckRecords), (f_slices_EqualFunc_api_Record_api_Record_api_Record_api_Record, a_slices_EqualFunc_api_Record_api_Record_api_Record_api_Record), (f_scanref2_SameRecord, a_scanref2_SameRecord), (f_scanlaw2_binned, a_scanlaw2_binned), (f_scanmake_Stream_Some, a_scanmake_Stream_Some), (f_scanmake_Stream_Odd, a_scanmake_Stream_Odd), (f_slices_SortStableFunc_api_Record_api_Record, a_slices_SortStableFunc_api_Record_api_Record), (f_scanmake_Stream_Records_1, a_scanmake_Stream_Records_1), (f_cmp_Or_int, a_cmp_Or_int), (f_cmp_Compare_int, a_cmp_Compare_int), (f_strings_Compare, a_strings_Compare), (f_slices_CompactFunc_api_Record_api_Record, a_slices_CompactFunc_api_Record_api_Record), (f_scanmake_Stream_Records_2, a_scanmake_Stream_Records_2), (f_scanmake_Below, a_scanmake_Below), (f_base_First, a_base_First), (f_slices_Concat_api_Record_api_Record, a_slices_Concat_api_Record_api_Record), (f_lot_byTime, a_lot_byTime), (f_lot_same, a_lot_same), (f_lot_copied, a_lot_copied), (f_lot_recordFault, a_lot_recordFault), (f_lot_binOf, a_lot_binOf), (f_lot_fails, a_lot_fails), (f_scanref2_recordFault, a_scanref2_recordFault), (f_scanref2_recordOrder, a_scanref2_recordOrder), (f_slices_IndexFunc_api_Record_api_Record, a_slices_IndexFunc_api_Record_api_Record), (f_scanref2_MergedRecords_1, a_scanref2_MergedRecords_1), (f_slices_SortFunc_api_Record_api_Record, a_slices_SortFunc_api_Record_api_Record), (f_scanref2_fails, a_scanref2_fails), (f_base_Key, a_base_Key), (f_lot_find, a_lot_find), (f_base_Out, a_base_Out), (f_scanref2_Key, a_scanref2_Key), (f_scanref2_TestAt, a_scanref2_TestAt), (f_scanref2_in, a_scanref2_in), (f_lot_recordsFault, a_lot_recordsFault), (f_slices_Equal_int_int, a_slices_Equal_int_int), (f_lot_Spread, a_lot_Spread), (f_slices_stableCmpFunc_api_Record, a_slices_stableCmpFunc_api_Record), (f_cmp_isNaN_int, a_cmp_isNaN_int), (f_internal_bytealg_CompareString, a_internal_bytealg_CompareString), (f_slices_Clone_int_int, a_slices_Clone_int_int), (f_base_Moment, a_base_Moment), (f_slices_ContainsFunc_int_int, a_slices_ContainsFunc_int_int), (f_lot_recordFault_1, a_lot_recordFault_1), (f_lot_isMeasure, a_lot_isMeasure), (f_lot_complete, a_lot_complete), (f_lot_good, a_lot_good), (f_scanref2_Moment, a_scanref2_Moment), (f_scanref2_recordFault_1, a_scanref2_recordFault_1), (f_scanref2_sign, a_scanref2_sign), (f_slices_pdqsortCmpFunc_api_Record, a_slices_pdqsortCmpFunc_api_Record), (f_math_bits_Len, a_math_bits_Len), (f_slices_IndexFunc_api_Limit_api_Limit, a_slices_IndexFunc_api_Limit_api_Limit), (f_lot_find_1, a_lot_find_1), (f_scanref2_only, a_scanref2_only), (f_scanref2_TestAt_1, a_scanref2_TestAt_1), (f_lot_valuesFault, a_lot_valuesFault), (f_lot_sums, a_lot_sums), (f_base_Fraction, a_base_Fraction), (f_slices_insertionSortCmpFunc_api_Record, a_slices_insertionSortCmpFunc_api_Record), (f_slices_IndexFunc_int_int, a_slices_IndexFunc_int_int), (f_math_bits_Len64, a_math_bits_Len64), (f_strings_IndexByte, a_strings_IndexByte), (f_lot_valuesFault_1, a_lot_valuesFault_1), (f_base_Gcd, a_base_Gcd), (f_internal_stringslite_IndexByte, a_internal_stringslite_IndexByte)]
def fnOf : List (Nat × AFun) → Nat → Option AFun
  | [], _ => none
  | (k, F) :: r, n => bif Nat.beq k n then some F else fnOf r n
def X : Ctx := ⟨fnOf fns, fun _ => none, extF f_internal_bytealg_IndexByteString f_internal_bytealg_abigen_runtime_cmpstring, growF [(f_slices_Grow_api_Record_api_Record, (some 4))]⟩
theorem fnOf_all {p : Nat → AFun → Bool} : ∀ (l : List (Nat × AFun)), (l.all fun y => p y.1 y.2) = true → ∀ n F, fnOf l n = some F → p n F = true
  | [], _, n, F, h => by cases h
  | (k, G) :: r, ha, n, F, h => by
    simp only [List.all_cons, Bool.and_eq_true] at ha
    simp only [fnOf] at h
    cases hk : Nat.beq k n with
    | true =>
      rw [hk] at h
      have := Nat.eq_of_beq_eq_true hk
      simp only [cond_true, Option.some.injEq] at h
      subst this; subst h; exact ha.1
    | false =>
      rw [hk] at h
      exact fnOf_all r ha.2 n F h
theorem X_noNext : X.NoNext := fun f F h => fnOf_all (p := fun _ F => F.body.noNext) fns (by kernel_rfl) f F h
theorem x_scanlaw2_RecordsSorted : X.fn f_scanlaw2_RecordsSorted = some a_scanlaw2_RecordsSorted := by kernel_rfl
theorem c_scanlaw2_RecordsSorted {u0 v0 : AV} {h h1 : Heap} {P : Post} (hp : puras h [u0] = some ([v0], h1)) : ACall X f_scanlaw2_RecordsSorted [u0] h P = d_scanlaw2_RecordsSorted (ACall X) X.gl p_scanlaw2_RecordsSorted_k4 v0 h1 [] (finR [.t 2] false h.length P) := by rw [call_val x_scanlaw2_RecordsSorted rfl hp rfl]; exact e_scanlaw2_RecordsSorted
theorem x_scanmake_Stream_LimitList : X.fn f_scanmake_Stream_LimitList = some a_scanmake_Stream_LimitList := by kernel_rfl
theorem c_scanmake_Stream_LimitList {u0 v0 : AV} {h h1 : Heap} {P : Post} (hp : puras h [u0] = some ([v0], h1)) : ACall X f_scanmake_Stream_LimitList [u0] h P = d_scanmake_Stream_LimitList (ACall X) X.gl p_scanmake_Stream_LimitList_k1 v0 h1 [] (finR [.t 2] false h.length P) := by rw [call_val x_scanmake_Stream_LimitList rfl hp rfl]; exact e_scanmake_Stream_LimitList
theorem x_scanmake_Stream_Records : X.fn f_scanmake_Stream_Records = some a_scanmake_Stream_Records := by kernel_rfl
theorem c_scanmake_Stream_Records {u0 u1 u2 v0 v1 v2 : AV} {h h1 : Heap} {P : Post} (hp : puras h [u0, u1, u2] = some ([v0, v1, v2], h1)) : ACall X f_scanmake_Stream_Records [u0, u1, u2] h P = d_scanmake_Stream_Records (ACall X) X.gl p_scanmake_Stream_Records_k7 p_scanmake_Stream_Records_k8 v0 v1 v2 h1 [] (finR [.t 6] false h.length P) := by rw [call_val x_scanmake_Stream_Records rfl hp rfl]; exact e_scanmake_Stream_Records
theorem x_scanmake_Stream_Range : X.fn f_scanmake_Stream_Range = some a_scanmake_Stream_Range := by kernel_rfl
theorem c_scanmake_Stream_Range {u0 u1 u2 v0 v1 v2 : AV} {h h1 : Heap} {P : Post} (hp : puras h [u0, u1, u2] = some ([v0, v1, v2], h1)) : ACall X f_scanmake_Stream_Range [u0, u1, u2] h P = d_scanmake_Stream_Range (ACall X) X.gl v0 v1 v2 h1 [] (finR [.t 6] false h.length P) := by rw [call_val x_scanmake_Stream_Range rfl hp rfl]; exact e_scanmake_Stream_Range
theorem x_scanmake_Stream_Flip : X.fn f_scanmake_Stream_Flip = some a_scanmake_Stream_Flip := by kernel_rfl
theorem c_scanmake_Stream_Flip {u0 u1 v0 v1 : AV} {h h1 : Heap} {P : Post} (hp : puras h [u0, u1] = some ([v0, v1], h1)) : ACall X f_scanmake_Stream_Flip [u0, u1] h P = d_scanmake_Stream_Flip (ACall X) X.gl v0 v1 h1 [] (finR [.t 4] false h.length P) := by rw [call_val x_scanmake_Stream_Flip rfl hp rfl]; exact e_scanmake_Stream_Flip
theorem x_slices_Clone_api_Record_api_Record : X.fn f_slices_Clone_api_Record_api_Record = some a_slices_Clone_api_Record_api_Record := by kernel_rfl
theorem c_slices_Clone_api_Record_api_Record {u0 v0 : AV} {h h1 : Heap} {P : Post} (hp : puras h [u0] = some ([v0], h1)) : ACall X f_slices_Clone_api_Record_api_Record [u0] h P = d_slices_Clone_api_Record_api_Record (ACall X) X.gl v0 h1 [] (finR [.t 2] true h.length P) := by rw [call_val x_slices_Clone_api_Record_api_Record rfl hp rfl]; exact e_slices_Clone_api_Record_api_Record
theorem x_scanmake_Stream_Next : X.fn f_scanmake_Stream_Next = some a_scanmake_Stream_Next := by kernel_rfl
theorem c_scanmake_Stream_Next {u0 u1 v0 v1 : AV} {h h1 : Heap} {P : Post} (hp : puras h [u0, u1] = some ([v0, v1], h1)) : ACall X f_scanmake_Stream_Next [u0, u1] h P = d_scanmake_Stream_Next (ACall X) X.gl v0 v1 h1 [] (finR [.t 4] false h.length P) := by rw [call_val x_scanmake_Stream_Next rfl hp rfl]; exact e_scanmake_Stream_Next
theorem x_scanmake_Stream_Pick : X.fn f_scanmake_Stream_Pick = some a_scanmake_Stream_Pick := by kernel_rfl
theorem c_scanmake_Stream_Pick {u0 u1 v0 v1 : AV} {h h1 : Heap} {P : Post} (hp : puras h [u0, u1] = some ([v0, v1], h1)) : ACall X f_scanmake_Stream_Pick [u0, u1] h P = d_scanmake_Stream_Pick (ACall X) X.gl v0 v1 h1 [] (finR [.t 4] false h.length P) := by rw [call_val x_scanmake_Stream_Pick rfl hp rfl]; exact e_scanmake_Stream_Pick
theorem x_lot_Merge : X.fn f_lot_Merge = some a_lot_Merge := by kernel_rfl
theorem c_lot_Merge {u0 u1 u2 v0 v1 v2 : AV} {h h1 : Heap} {P : Post} (hp : puras h [u0, u1, u2] = some ([v0, v1, v2], h1)) : ACall X f_lot_Merge [u0, u1, u2] h P = d_lot_Merge (ACall X) X.gl p_lot_Merge_k1 p_lot_Merge_k4 v0 v1 v2 h1 [] (finR [.t 6, .t 7] false h.length P) := by rw [call_val x_lot_Merge rfl hp rfl]; exact e_lot_Merge
theorem x_lot_Bin : X.fn f_lot_Bin = some a_lot_Bin := by kernel_rfl
theorem c_lot_Bin {u0 u1 v0 v1 : AV} {h h1 : Heap} {P : Post} (hp : puras h [u0, u1] = some ([v0, v1], h1)) : ACall X f_lot_Bin [u0, u1] h P = d_lot_Bin (ACall X) X.gl v0 v1 h1 [] (finR [.t 4, .t 5, .t 6] false h.length P) := by rw [call_val x_lot_Bin rfl hp rfl]; exact e_lot_Bin
theorem x_scanref2_RecordsFault : X.fn f_scanref2_RecordsFault = some a_scanref2_RecordsFault := by kernel_rfl
theorem c_scanref2_RecordsFault {u0 u1 v0 v1 : AV} {h h1 : Heap} {P : Post} (hp : puras h [u0, u1] = some ([v0, v1], h1)) : ACall X f_scanref2_RecordsFault [u0, u1] h P = d_scanref2_RecordsFault (ACall X) X.gl p_scanref2_RecordsFault_k1 p_scanref2_RecordsFault_k2 v0 v1 h1 [] (finR [.t 4] false h.length P) := by rw [call_val x_scanref2_RecordsFault rfl hp rfl]; exact e_scanref2_RecordsFault
theorem x_scanlaw2_errs : X.fn f_scanlaw2_errs = some a_scanlaw2_errs := by kernel_rfl
theorem c_scanlaw2_errs {u0 v0 : AV} {h h1 : Heap} {P : Post} (hp : puras h [u0] = some ([v0], h1)) : ACall X f_scanlaw2_errs [u0] h P = d_scanlaw2_errs (ACall X) X.gl p_scanlaw2_errs_k1 p_scanlaw2_errs_k2 v0 h1 [] (finR [.t 2] false h.length P) := by rw [call_val x_scanlaw2_errs rfl hp rfl]; exact e_scanlaw2_errs
theorem x_scanref2_RecordFault : X.fn f_scanref2_RecordFault = some a_scanref2_RecordFault := by kernel_rfl
theorem c_scanref2_RecordFault {u0 u1 v0 v1 : AV} {h h1 : Heap} {P : Post} (hp : puras h [u0, u1] = some ([v0, v1], h1)) : ACall X f_scanref2_RecordFault [u0, u1] h P = d_scanref2_RecordFault (ACall X) X.gl v0 v1 h1 [] (finR [.t 4] false h.length P) := by rw [call_val x_scanref2_RecordFault rfl hp rfl]; exact e_scanref2_RecordFault
theorem x_scanref2_MergedRecords : X.fn f_scanref2_MergedRecords = some a_scanref2_MergedRecords := by kernel_rfl
theorem c_scanref2_MergedRecords {u0 u1 v0 v1 : AV} {h h1 : Heap} {P : Post} (hp : puras h [u0, u1] = some ([v0, v1], h1)) : ACall X f_scanref2_MergedRecords [u0, u1] h P = d_scanref2_MergedRecords (ACall X) X.gl p_scanref2_MergedRecords_k2 p_scanref2_MergedRecords_k3 v0 v1 h1 [] (finR [.t 4, .t 5] false h.length P) := by rw [call_val x_scanref2_MergedRecords rfl hp rfl]; exact e_scanref2_MergedRecords
theorem x_scanref2_BinOf : X.fn f_scanref2_BinOf = some a_scanref2_BinOf := by kernel_rfl
theorem c_scanref2_BinOf {u0 u1 v0 v1 : AV} {h h1 : Heap} {P : Post} (hp : puras h [u0, u1] = some ([v0, v1], h1)) : ACall X f_scanref2_BinOf [u0, u1] h P = d_scanref2_BinOf (ACall X) X.gl v0 v1 h1 [] (finR [.t 4, .t 5] false h.length P) := by rw [call_val x_scanref2_BinOf rfl hp rfl]; exact e_scanref2_BinOf
theorem x_lot_CheckLimits : X.fn f_lot_CheckLimits = some a_lot_CheckLimits := by kernel_rfl
theorem c_lot_CheckLimits {u0 v0 : AV} {h h1 : Heap} {P : Post} (hp : puras h [u0] = some ([v0], h1)) : ACall X f_lot_CheckLimits [u0] h P = d_lot_CheckLimits (ACall X) X.gl p_lot_CheckLimits_k1 p_lot_CheckLimits_k2 v0 h1 [] (finR [.t 2] false h.length P) := by rw [call_val x_lot_CheckLimits rfl hp rfl]; exact e_lot_CheckLimits
theorem x_scanref2_LimitsFault : X.fn f_scanref2_LimitsFault = some a_scanref2_LimitsFault := by kernel_rfl
theorem c_scanref2_LimitsFault {u0 v0 : AV} {h h1 : Heap} {P : Post} (hp : puras h [u0] = some ([v0], h1)) : ACall X f_scanref2_LimitsFault [u0] h P = d_scanref2_LimitsFault (ACall X) X.gl p_scanref2_LimitsFault_k1 p_scanref2_LimitsFault_k2 v0 h1 [] (finR [.t 2] false h.length P) := by rw [call_val x_scanref2_LimitsFault rfl hp rfl]; exact e_scanref2_LimitsFault
theorem x_lot_CheckRecords : X.fn f_lot_CheckRecords = some a_lot_CheckRecords := by kernel_rfl
theorem c_lot_CheckRecords {u0 u1 v0 v1 : AV} {h h1 : Heap} {P : Post} (hp : puras h [u0, u1] = some ([v0, v1], h1)) : ACall X f_lot_CheckRecords [u0, u1] h P = d_lot_CheckRecords (ACall X) X.gl v0 v1 h1 [] (finR [.t 4] false h.length P) := by rw [call_val x_lot_CheckRecords rfl hp rfl]; exact e_lot_CheckRecords
theorem x_slices_EqualFunc_api_Record_api_Record_api_Record_api_Record : X.fn f_slices_EqualFunc_api_Record_api_Record_api_Record_api_Record = some a_slices_EqualFunc_api_Record_api_Record_api_Record_api_Record := by kernel_rfl
theorem c_slices_EqualFunc_api_Record_api_Record_api_Record_api_Record {u0 u1 u2 v0 v1 v2 : AV} {h h1 : Heap} {P : Post} (hp : puras h [u0, u1, u2] = some ([v0, v1, v2], h1)) : ACall X f_slices_EqualFunc_api_Record_api_Record_api_Record_api_Record [u0, u1, u2] h P = d_slices_EqualFunc_api_Record_api_Record_api_Record_api_Record (ACall X) X.gl p_slices_EqualFunc_api_Record_api_Record_api_Record_api_Record_k1 p_slices_EqualFunc_api_Record_api_Record_api_Record_api_Record_k2 v0 v1 v2 h1 [] (finR [.t 6] false h.length P) := by rw [call_val x_slices_EqualFunc_api_Record_api_Record_api_Record_api_Record rfl hp rfl]; exact e_slices_EqualFunc_api_Record_api_Record_api_Record_api_Record
theorem x_scanref2_SameRecord : X.fn f_scanref2_SameRecord = some a_scanref2_SameRecord := by kernel_rfl
theorem c_scanref2_SameRecord {u0 u1 v0 v1 : AV} {h h1 : Heap} {P : Post} (hp : puras h [u0, u1] = some ([v0, v1], h1)) : ACall X f_scanref2_SameRecord [u0, u1] h P = d_scanref2_SameRecord (ACall X) X.gl v0 v1 h1 [] (finR [.t 4] false h.length P) := by rw [call_val x_scanref2_SameRecord rfl hp rfl]; exact e_scanref2_SameRecord
theorem x_scanlaw2_binned : X.fn f_scanlaw2_binned = some a_scanlaw2_binned := by kernel_rfl
theorem c_scanlaw2_binned {h h1 : Heap} {P : Post} (hp : puras h [] = some ([], h1)) : ACall X f_scanlaw2_binned [] h P = d_scanlaw2_binned (ACall X) X.gl  h1 [] (finR [.t 0] false h.length P) := by rw [call_val x_scanlaw2_binned rfl hp rfl]; exact e_scanlaw2_binned
theorem x_scanmake_Stream_Some : X.fn f_scanmake_Stream_Some = some a_scanmake_Stream_Some := by kernel_rfl
theorem c_scanmake_Stream_Some {u0 u1 v0 v1 : AV} {h h1 : Heap} {P : Post} (hp : puras h [u0, u1] = some ([v0, v1], h1)) : ACall X f_scanmake_Stream_Some [u0, u1] h P = d_scanmake_Stream_Some (ACall X) X.gl v0 v1 h1 [] (finR [.t 4] false h.length P) := by rw [call_val x_scanmake_Stream_Some rfl hp rfl]; exact e_scanmake_Stream_Some
theorem x_scanmake_Stream_Odd : X.fn f_scanmake_Stream_Odd = some a_scanmake_Stream_Odd := by kernel_rfl
theorem c_scanmake_Stream_Odd {u0 u1 u2 v0 v1 v2 : AV} {h h1 : Heap} {P : Post} (hp : puras h [u0, u1, u2] = some ([v0, v1, v2], h1)) : ACall X f_scanmake_Stream_Odd [u0, u1, u2] h P = d_scanmake_Stream_Odd (ACall X) X.gl v0 v1 v2 h1 [] (finR [.t 6] false h.length P) := by rw [call_val x_scanmake_Stream_Odd rfl hp rfl]; exact e_scanmake_Stream_Odd
theorem x_slices_SortStableFunc_api_Record_api_Record : X.fn f_slices_SortStableFunc_api_Record_api_Record = some a_slices_SortStableFunc_api_Record_api_Record := by kernel_rfl
theorem c_slices_SortStableFunc_api_Record_api_Record {u0 u1 h P} : ACall X f_slices_SortStableFunc_api_Record_api_Record [u0, u1] h P = d_slices_SortStableFunc_api_Record_api_Record (ACall X) X.gl u0 u1 h [] (finR [] false h.length P) := by rw [call_ref x_slices_SortStableFunc_api_Record_api_Record rfl rfl]; exact e_slices_SortStableFunc_api_Record_api_Record
theorem x_scanmake_Stream_Records_1 : X.fn f_scanmake_Stream_Records_1 = some a_scanmake_Stream_Records_1 := by kernel_rfl
theorem c_scanmake_Stream_Records_1 {u0 u1 v0 v1 : AV} {h h1 : Heap} {P : Post} (hp : puras h [u0, u1] = some ([v0, v1], h1)) : ACall X f_scanmake_Stream_Records_1 [u0, u1] h P = d_scanmake_Stream_Records_1 (ACall X) X.gl v0 v1 h1 [] (finR [.t 4] false h.length P) := by rw [call_val x_scanmake_Stream_Records_1 rfl hp rfl]; exact e_scanmake_Stream_Records_1
theorem x_cmp_Or_int : X.fn f_cmp_Or_int = some a_cmp_Or_int := by kernel_rfl
theorem c_cmp_Or_int {u0 v0 : AV} {h h1 : Heap} {P : Post} (hp : puras h [u0] = some ([v0], h1)) : ACall X f_cmp_Or_int [u0] h P = d_cmp_Or_int (ACall X) X.gl p_cmp_Or_int_k1 p_cmp_Or_int_k2 v0 h1 [] (finR [.t 2] false h.length P) := by rw [call_val x_cmp_Or_int rfl hp rfl]; exact e_cmp_Or_int
theorem x_cmp_Compare_int : X.fn f_cmp_Compare_int = some a_cmp_Compare_int := by kernel_rfl
theorem c_cmp_Compare_int {u0 u1 v0 v1 : AV} {h h1 : Heap} {P : Post} (hp : puras h [u0, u1] = some ([v0, v1], h1)) : ACall X f_cmp_Compare_int [u0, u1] h P = d_cmp_Compare_int (ACall X) X.gl v0 v1 h1 [] (finR [.t 4] false h.length P) := by rw [call_val x_cmp_Compare_int rfl hp rfl]; exact e_cmp_Compare_int
theorem x_strings_Compare : X.fn f_strings_Compare = some a_strings_Compare := by kernel_rfl
theorem c_strings_Compare {u0 u1 v0 v1 : AV} {h h1 : Heap} {P : Post} (hp : puras h [u0, u1] = some ([v0, v1], h1)) : ACall X f_strings_Compare [u0, u1] h P = d_strings_Compare (ACall X) X.gl v0 v1 h1 [] (finR [.t 4] false h.length P) := by rw [call_val x_strings_Compare rfl hp rfl]; exact e_strings_Compare
theorem x_slices_CompactFunc_api_Record_api_Record : X.fn f_slices_CompactFunc_api_Record_api_Record = some a_slices_CompactFunc_api_Record_api_Record := by kernel_rfl
theorem c_slices_CompactFunc_api_Record_api_Record {u0 u1 h P} : ACall X f_slices_CompactFunc_api_Record_api_Record [u0, u1] h P = d_slices_CompactFunc_api_Record_api_Record (ACall X) X.gl p_slices_CompactFunc_api_Record_api_Record_k5 p_slices_CompactFunc_api_Record_api_Record_k6 u0 u1 h [] (finR [.t 4] false h.length P) := by rw [call_ref x_slices_CompactFunc_api_Record_api_Record rfl rfl]; exact e_slices_CompactFunc_api_Record_api_Record
theorem x_scanmake_Stream_Records_2 : X.fn f_scanmake_Stream_Records_2 = some a_scanmake_Stream_Records_2 := by kernel_rfl
theorem c_scanmake_Stream_Records_2 {u0 u1 v0 v1 : AV} {h h1 : Heap} {P : Post} (hp : puras h [u0, u1] = some ([v0, v1], h1)) : ACall X f_scanmake_Stream_Records_2 [u0, u1] h P = d_scanmake_Stream_Records_2 (ACall X) X.gl v0 v1 h1 [] (finR [.t 4] false h.length P) := by rw [call_val x_scanmake_Stream_Records_2 rfl hp rfl]; exact e_scanmake_Stream_Records_2
theorem x_scanmake_Below : X.fn f_scanmake_Below = some a_scanmake_Below := by kernel_rfl
theorem c_scanmake_Below {u0 u1 v0 v1 : AV} {h h1 : Heap} {P : Post} (hp : puras h [u0, u1] = some ([v0, v1], h1)) : ACall X f_scanmake_Below [u0, u1] h P = d_scanmake_Below (ACall X) X.gl p_scanmake_Below_k1 v0 v1 h1 [] (finR [.t 4] false h.length P) := by rw [call_val x_scanmake_Below rfl hp rfl]; exact e_scanmake_Below
theorem x_base_First : X.fn f_base_First = some a_base_First := by kernel_rfl
theorem c_base_First {u0 v0 : AV} {h h1 : Heap} {P : Post} (hp : puras h [u0] = some ([v0], h1)) : ACall X f_base_First [u0] h P = d_base_First (ACall X) X.gl p_base_First_k1 p_base_First_k2 v0 h1 [] (finR [.t 2] false h.length P) := by rw [call_val x_base_First rfl hp rfl]; exact e_base_First
theorem x_slices_Concat_api_Record_api_Record : X.fn f_slices_Concat_api_Record_api_Record = some a_slices_Concat_api_Record_api_Record := by kernel_rfl
theorem c_slices_Concat_api_Record_api_Record {u0 v0 : AV} {h h1 : Heap} {P : Post} (hp : puras h [u0] = some ([v0], h1)) : ACall X f_slices_Concat_api_Record_api_Record [u0] h P = d_slices_Concat_api_Record_api_Record (ACall X) X.gl p_slices_Concat_api_Record_api_Record_k1 p_slices_Concat_api_Record_api_Record_k4 v0 h1 [] (finR [.t 2] true h.length P) := by rw [call_val x_slices_Concat_api_Record_api_Record rfl hp rfl]; exact e_slices_Concat_api_Record_api_Record
theorem x_lot_byTime : X.fn f_lot_byTime = some a_lot_byTime := by kernel_rfl
theorem c_lot_byTime {u0 u1 v0 v1 : AV} {h h1 : Heap} {P : Post} (hp : puras h [u0, u1] = some ([v0, v1], h1)) : ACall X f_lot_byTime [u0, u1] h P = d_lot_byTime (ACall X) X.gl v0 v1 h1 [] (finR [.t 4] false h.length P) := by rw [call_val x_lot_byTime rfl hp rfl]; exact e_lot_byTime
theorem x_lot_same : X.fn f_lot_same = some a_lot_same := by kernel_rfl
theorem c_lot_same {u0 u1 v0 v1 : AV} {h h1 : Heap} {P : Post} (hp : puras h [u0, u1] = some ([v0, v1], h1)) : ACall X f_lot_same [u0, u1] h P = d_lot_same (ACall X) X.gl v0 v1 h1 [] (finR [.t 4] false h.length P) := by rw [call_val x_lot_same rfl hp rfl]; exact e_lot_same
theorem x_lot_copied : X.fn f_lot_copied = some a_lot_copied := by kernel_rfl
theorem c_lot_copied {u0 v0 : AV} {h h1 : Heap} {P : Post} (hp : puras h [u0] = some ([v0], h1)) : ACall X f_lot_copied [u0] h P = d_lot_copied (ACall X) X.gl v0 h1 [] (finR [.cell 2 (some 4)] false h.length P) := by rw [call_val x_lot_copied rfl hp rfl]; exact e_lot_copied
theorem x_lot_recordFault : X.fn f_lot_recordFault = some a_lot_recordFault := by kernel_rfl
theorem c_lot_recordFault {u0 u1 v0 v1 : AV} {h h1 : Heap} {P : Post} (hp : puras h [u0, u1] = some ([v0, v1], h1)) : ACall X f_lot_recordFault [u0, u1] h P = d_lot_recordFault (ACall X) X.gl v0 v1 h1 [] (finR [.t 4] false h.length P) := by rw [call_val x_lot_recordFault rfl hp rfl]; exact e_lot_recordFault
theorem x_lot_binOf : X.fn f_lot_binOf = some a_lot_binOf := by kernel_rfl
theorem c_lot_binOf {u0 u1 v0 v1 : AV} {h h1 : Heap} {P : Post} (hp : puras h [u0, u1] = some ([v0, v1], h1)) : ACall X f_lot_binOf [u0, u1] h P = d_lot_binOf (ACall X) X.gl v0 v1 h1 [] (finR [.t 4] false h.length P) := by rw [call_val x_lot_binOf rfl hp rfl]; exact e_lot_binOf
theorem x_lot_fails : X.fn f_lot_fails = some a_lot_fails := by kernel_rfl
theorem c_lot_fails {u0 u1 v0 v1 : AV} {h h1 : Heap} {P : Post} (hp : puras h [u0, u1] = some ([v0, v1], h1)) : ACall X f_lot_fails [u0, u1] h P = d_lot_fails (ACall X) X.gl v0 v1 h1 [] (finR [.t 4] false h.length P) := by rw [call_val x_lot_fails rfl hp rfl]; exact e_lot_fails
theorem x_scanref2_recordFault : X.fn f_scanref2_recordFault = some a_scanref2_recordFault := by kernel_rfl
theorem c_scanref2_recordFault {u0 u1 v0 v1 : AV} {h h1 : Heap} {P : Post} (hp : puras h [u0, u1] = some ([v0, v1], h1)) : ACall X f_scanref2_recordFault [u0, u1] h P = d_scanref2_recordFault (ACall X) X.gl v0 v1 h1 [] (finR [.t 4] false h.length P) := by rw [call_val x_scanref2_recordFault rfl hp rfl]; exact e_scanref2_recordFault
theorem x_scanref2_recordOrder : X.fn f_scanref2_recordOrder = some a_scanref2_recordOrder := by kernel_rfl
theorem c_scanref2_recordOrder {u0 u1 v0 v1 : AV} {h h1 : Heap} {P : Post} (hp : puras h [u0, u1] = some ([v0, v1], h1)) : ACall X f_scanref2_recordOrder [u0, u1] h P = d_scanref2_recordOrder (ACall X) X.gl v0 v1 h1 [] (finR [.t 4] false h.length P) := by rw [call_val x_scanref2_recordOrder rfl hp rfl]; exact e_scanref2_recordOrder
theorem x_slices_IndexFunc_api_Record_api_Record : X.fn f_slices_IndexFunc_api_Record_api_Record = some a_slices_IndexFunc_api_Record_api_Record := by kernel_rfl
theorem c_slices_IndexFunc_api_Record_api_Record {u0 u1 h P} : ACall X f_slices_IndexFunc_api_Record_api_Record [u0, u1] h P = d_slices_IndexFunc_api_Record_api_Record (ACall X) X.gl p_slices_IndexFunc_api_Record_api_Record_k1 p_slices_IndexFunc_api_Record_api_Record_k2 u0 u1 h [] (finR [.t 4] false h.length P) := by rw [call_ref x_slices_IndexFunc_api_Record_api_Record rfl rfl]; exact e_slices_IndexFunc_api_Record_api_Record
theorem x_scanref2_MergedRecords_1 : X.fn f_scanref2_MergedRecords_1 = some a_scanref2_MergedRecords_1 := by kernel_rfl
theorem c_scanref2_MergedRecords_1 {u0 u1 v0 v1 : AV} {h h1 : Heap} {P : Post} (hp : puras h [u0, u1] = some ([v0, v1], h1)) : ACall X f_scanref2_MergedRecords_1 [u0, u1] h P = d_scanref2_MergedRecords_1 (ACall X) X.gl v0 v1 h1 [] (finR [.t 3] false h.length P) := by rw [call_val x_scanref2_MergedRecords_1 rfl hp rfl]; exact e_scanref2_MergedRecords_1
theorem x_slices_SortFunc_api_Record_api_Record : X.fn f_slices_SortFunc_api_Record_api_Record = some a_slices_SortFunc_api_Record_api_Record := by kernel_rfl
theorem c_slices_SortFunc_api_Record_api_Record {u0 u1 h P} : ACall X f_slices_SortFunc_api_Record_api_Record [u0, u1] h P = d_slices_SortFunc_api_Record_api_Record (ACall X) X.gl u0 u1 h [] (finR [] false h.length P) := by rw [call_ref x_slices_SortFunc_api_Record_api_Record rfl rfl]; exact e_slices_SortFunc_api_Record_api_Record
theorem x_scanref2_fails : X.fn f_scanref2_fails = some a_scanref2_fails := by kernel_rfl
theorem c_scanref2_fails {u0 u1 v0 v1 : AV} {h h1 : Heap} {P : Post} (hp : puras h [u0, u1] = some ([v0, v1], h1)) : ACall X f_scanref2_fails [u0, u1] h P = d_scanref2_fails (ACall X) X.gl p_scanref2_fails_k1 p_scanref2_fails_k2 v0 v1 h1 [] (finR [.t 4] false h.length P) := by rw [call_val x_scanref2_fails rfl hp rfl]; exact e_scanref2_fails
theorem x_base_Key : X.fn f_base_Key = some a_base_Key := by kernel_rfl
theorem c_base_Key {u0 v0 : AV} {h h1 : Heap} {P : Post} (hp : puras h [u0] = some ([v0], h1)) : ACall X f_base_Key [u0] h P = d_base_Key (ACall X) X.gl p_base_Key_k1 p_base_Key_k2 v0 h1 [] (finR [.t 2] false h.length P) := by rw [call_val x_base_Key rfl hp rfl]; exact e_base_Key
theorem x_lot_find : X.fn f_lot_find = some a_lot_find := by kernel_rfl
theorem c_lot_find {u0 u1 v0 v1 : AV} {h h1 : Heap} {P : Post} (hp : puras h [u0, u1] = some ([v0, v1], h1)) : ACall X f_lot_find [u0, u1] h P = d_lot_find (ACall X) X.gl v0 v1 h1 [] (finR [.t 4] false h.length P) := by rw [call_val x_lot_find rfl hp rfl]; exact e_lot_find
theorem x_base_Out : X.fn f_base_Out = some a_base_Out := by kernel_rfl
theorem c_base_Out {u0 u1 u2 v0 v1 v2 : AV} {h h1 : Heap} {P : Post} (hp : puras h [u0, u1, u2] = some ([v0, v1, v2], h1)) : ACall X f_base_Out [u0, u1, u2] h P = d_base_Out (ACall X) X.gl v0 v1 v2 h1 [] (finR [.t 6] false h.length P) := by rw [call_val x_base_Out rfl hp rfl]; exact e_base_Out
theorem x_scanref2_Key : X.fn f_scanref2_Key = some a_scanref2_Key := by kernel_rfl
theorem c_scanref2_Key {u0 v0 : AV} {h h1 : Heap} {P : Post} (hp : puras h [u0] = some ([v0], h1)) : ACall X f_scanref2_Key [u0] h P = d_scanref2_Key (ACall X) X.gl v0 h1 [] (finR [.t 2] false h.length P) := by rw [call_val x_scanref2_Key rfl hp rfl]; exact e_scanref2_Key
theorem x_scanref2_TestAt : X.fn f_scanref2_TestAt = some a_scanref2_TestAt := by kernel_rfl
theorem c_scanref2_TestAt {u0 u1 v0 v1 : AV} {h h1 : Heap} {P : Post} (hp : puras h [u0, u1] = some ([v0, v1], h1)) : ACall X f_scanref2_TestAt [u0, u1] h P = d_scanref2_TestAt (ACall X) X.gl v0 v1 h1 [] (finR [.t 4] false h.length P) := by rw [call_val x_scanref2_TestAt rfl hp rfl]; exact e_scanref2_TestAt
theorem x_scanref2_in : X.fn f_scanref2_in = some a_scanref2_in := by kernel_rfl
theorem c_scanref2_in {u0 u1 u2 v0 v1 v2 : AV} {h h1 : Heap} {P : Post} (hp : puras h [u0, u1, u2] = some ([v0, v1, v2], h1)) : ACall X f_scanref2_in [u0, u1, u2] h P = d_scanref2_in (ACall X) X.gl v0 v1 v2 h1 [] (finR [.t 6] false h.length P) := by rw [call_val x_scanref2_in rfl hp rfl]; exact e_scanref2_in
theorem x_lot_recordsFault : X.fn f_lot_recordsFault = some a_lot_recordsFault := by kernel_rfl
theorem c_lot_recordsFault {u0 u1 v0 v1 : AV} {h h1 : Heap} {P : Post} (hp : puras h [u0, u1] = some ([v0, v1], h1)) : ACall X f_lot_recordsFault [u0, u1] h P = d_lot_recordsFault (ACall X) X.gl p_lot_recordsFault_k1 p_lot_recordsFault_k2 v0 v1 h1 [] (finR [.t 4] false h.length P) := by rw [call_val x_lot_recordsFault rfl hp rfl]; exact e_lot_recordsFault
theorem x_slices_Equal_int_int : X.fn f_slices_Equal_int_int = some a_slices_Equal_int_int := by kernel_rfl
theorem c_slices_Equal_int_int {u0 u1 v0 v1 : AV} {h h1 : Heap} {P : Post} (hp : puras h [u0, u1] = some ([v0, v1], h1)) : ACall X f_slices_Equal_int_int [u0, u1] h P = d_slices_Equal_int_int (ACall X) X.gl p_slices_Equal_int_int_k1 p_slices_Equal_int_int_k2 v0 v1 h1 [] (finR [.t 4] false h.length P) := by rw [call_val x_slices_Equal_int_int rfl hp rfl]; exact e_slices_Equal_int_int
theorem x_lot_Spread : X.fn f_lot_Spread = some a_lot_Spread := by kernel_rfl
theorem c_lot_Spread {u0 v0 : AV} {h h1 : Heap} {P : Post} (hp : puras h [u0] = some ([v0], h1)) : ACall X f_lot_Spread [u0] h P = d_lot_Spread (ACall X) X.gl v0 h1 [] (finR [.cell 2 (some 2), .cell 3 (some 2), .t 4] false h.length P) := by rw [call_val x_lot_Spread rfl hp rfl]; exact e_lot_Spread
theorem x_slices_stableCmpFunc_api_Record : X.fn f_slices_stableCmpFunc_api_Record = some a_slices_stableCmpFunc_api_Record := by kernel_rfl
theorem c_slices_stableCmpFunc_api_Record {u0 u1 u2 h P} : ACall X f_slices_stableCmpFunc_api_Record [u0, u1, u2] h P = d_slices_stableCmpFunc_api_Record (ACall X) X.gl p_slices_stableCmpFunc_api_Record_k1 p_slices_stableCmpFunc_api_Record_k6 u0 u1 u2 h [] (finR [] false h.length P) := by rw [call_ref x_slices_stableCmpFunc_api_Record rfl rfl]; exact e_slices_stableCmpFunc_api_Record
theorem x_cmp_isNaN_int : X.fn f_cmp_isNaN_int = some a_cmp_isNaN_int := by kernel_rfl
theorem c_cmp_isNaN_int {u0 v0 : AV} {h h1 : Heap} {P : Post} (hp : puras h [u0] = some ([v0], h1)) : ACall X f_cmp_isNaN_int [u0] h P = d_cmp_isNaN_int (ACall X) X.gl v0 h1 [] (finR [.t 2] false h.length P) := by rw [call_val x_cmp_isNaN_int rfl hp rfl]; exact e_cmp_isNaN_int
theorem x_internal_bytealg_CompareString : X.fn f_internal_bytealg_CompareString = some a_internal_bytealg_CompareString := by kernel_rfl
theorem c_internal_bytealg_CompareString {u0 u1 v0 v1 : AV} {h h1 : Heap} {P : Post} (hp : puras h [u0, u1] = some ([v0, v1], h1)) : ACall X f_internal_bytealg_CompareString [u0, u1] h P = d_internal_bytealg_CompareString (ACall X) X.gl v0 v1 h1 [] (finR [.t 4] false h.length P) := by rw [call_val x_internal_bytealg_CompareString rfl hp rfl]; exact e_internal_bytealg_CompareString
theorem x_slices_Clone_int_int : X.fn f_slices_Clone_int_int = some a_slices_Clone_int_int := by kernel_rfl
theorem c_slices_Clone_int_int {u0 v0 : AV} {h h1 : Heap} {P : Post} (hp : puras h [u0] = some ([v0], h1)) : ACall X f_slices_Clone_int_int [u0] h P = d_slices_Clone_int_int (ACall X) X.gl v0 h1 [] (finR [.t 2] true h.length P) := by rw [call_val x_slices_Clone_int_int rfl hp rfl]; exact e_slices_Clone_int_int
theorem x_base_Moment : X.fn f_base_Moment = some a_base_Moment := by kernel_rfl
theorem c_base_Moment {u0 v0 : AV} {h h1 : Heap} {P : Post} (hp : puras h [u0] = some ([v0], h1)) : ACall X f_base_Moment [u0] h P = d_base_Moment (ACall X) X.gl v0 h1 [] (finR [.t 2] false h.length P) := by rw [call_val x_base_Moment rfl hp rfl]; exact e_base_Moment
theorem x_slices_ContainsFunc_int_int : X.fn f_slices_ContainsFunc_int_int = some a_slices_ContainsFunc_int_int := by kernel_rfl
theorem c_slices_ContainsFunc_int_int {u0 u1 h P} : ACall X f_slices_ContainsFunc_int_int [u0, u1] h P = d_slices_ContainsFunc_int_int (ACall X) X.gl u0 u1 h [] (finR [.t 4] false h.length P) := by rw [call_ref x_slices_ContainsFunc_int_int rfl rfl]; exact e_slices_ContainsFunc_int_int
theorem x_lot_recordFault_1 : X.fn f_lot_recordFault_1 = some a_lot_recordFault_1 := by kernel_rfl
theorem c_lot_recordFault_1 {u0 v0 : AV} {h h1 : Heap} {P : Post} (hp : puras h [u0] = some ([v0], h1)) : ACall X f_lot_recordFault_1 [u0] h P = d_lot_recordFault_1 (ACall X) X.gl v0 h1 [] (finR [.t 2] false h.length P) := by rw [call_val x_lot_recordFault_1 rfl hp rfl]; exact e_lot_recordFault_1
theorem x_lot_isMeasure : X.fn f_lot_isMeasure = some a_lot_isMeasure := by kernel_rfl
theorem c_lot_isMeasure {u0 v0 : AV} {h h1 : Heap} {P : Post} (hp : puras h [u0] = some ([v0], h1)) : ACall X f_lot_isMeasure [u0] h P = d_lot_isMeasure (ACall X) X.gl v0 h1 [] (finR [.t 2] false h.length P) := by rw [call_val x_lot_isMeasure rfl hp rfl]; exact e_lot_isMeasure
theorem x_lot_complete : X.fn f_lot_complete = some a_lot_complete := by kernel_rfl
theorem c_lot_complete {u0 u1 v0 v1 : AV} {h h1 : Heap} {P : Post} (hp : puras h [u0, u1] = some ([v0, v1], h1)) : ACall X f_lot_complete [u0, u1] h P = d_lot_complete (ACall X) X.gl p_lot_complete_k1 p_lot_complete_k2 v0 v1 h1 [] (finR [.t 4] false h.length P) := by rw [call_val x_lot_complete rfl hp rfl]; exact e_lot_complete
theorem x_lot_good : X.fn f_lot_good = some a_lot_good := by kernel_rfl
theorem c_lot_good {u0 u1 v0 v1 : AV} {h h1 : Heap} {P : Post} (hp : puras h [u0, u1] = some ([v0, v1], h1)) : ACall X f_lot_good [u0, u1] h P = d_lot_good (ACall X) X.gl v0 v1 h1 [] (finR [.t 4] false h.length P) := by rw [call_val x_lot_good rfl hp rfl]; exact e_lot_good
theorem x_scanref2_Moment : X.fn f_scanref2_Moment = some a_scanref2_Moment := by kernel_rfl
theorem c_scanref2_Moment {u0 v0 : AV} {h h1 : Heap} {P : Post} (hp : puras h [u0] = some ([v0], h1)) : ACall X f_scanref2_Moment [u0] h P = d_scanref2_Moment (ACall X) X.gl v0 h1 [] (finR [.t 2] false h.length P) := by rw [call_val x_scanref2_Moment rfl hp rfl]; exact e_scanref2_Moment
theorem x_scanref2_recordFault_1 : X.fn f_scanref2_recordFault_1 = some a_scanref2_recordFault_1 := by kernel_rfl
theorem c_scanref2_recordFault_1 {u0 v0 : AV} {h h1 : Heap} {P : Post} (hp : puras h [u0] = some ([v0], h1)) : ACall X f_scanref2_recordFault_1 [u0] h P = d_scanref2_recordFault_1 (ACall X) X.gl v0 h1 [] (finR [.t 2] false h.length P) := by rw [call_val x_scanref2_recordFault_1 rfl hp rfl]; exact e_scanref2_recordFault_1
theorem x_scanref2_sign : X.fn f_scanref2_sign = some a_scanref2_sign := by kernel_rfl
theorem c_scanref2_sign {u0 v0 : AV} {h h1 : Heap} {P : Post} (hp : puras h [u0] = some ([v0], h1)) : ACall X f_scanref2_sign [u0] h P = d_scanref2_sign (ACall X) X.gl v0 h1 [] (finR [.t 2] false h.length P) := by rw [call_val x_scanref2_sign rfl hp rfl]; exact e_scanref2_sign
theorem x_slices_pdqsortCmpFunc_api_Record : X.fn f_slices_pdqsortCmpFunc_api_Record = some a_slices_pdqsortCmpFunc_api_Record := by kernel_rfl
theorem c_slices_pdqsortCmpFunc_api_Record {u0 u1 u2 u3 u4 h P} : ACall X f_slices_pdqsortCmpFunc_api_Record [u0, u1, u2, u3, u4] h P = d_slices_pdqsortCmpFunc_api_Record (ACall X) X.gl p_slices_pdqsortCmpFunc_api_Record_k4 u0 u1 u2 u3 u4 h [] (finR [] false h.length P) := by rw [call_ref x_slices_pdqsortCmpFunc_api_Record rfl rfl]; exact e_slices_pdqsortCmpFunc_api_Record
theorem x_math_bits_Len : X.fn f_math_bits_Len = some a_math_bits_Len := by kernel_rfl
theorem c_math_bits_Len {u0 v0 : AV} {h h1 : Heap} {P : Post} (hp : puras h [u0] = some ([v0], h1)) : ACall X f_math_bits_Len [u0] h P = d_math_bits_Len (ACall X) X.gl v0 h1 [] (finR [.t 2] false h.length P) := by rw [call_val x_math_bits_Len rfl hp rfl]; exact e_math_bits_Len
theorem x_slices_IndexFunc_api_Limit_api_Limit : X.fn f_slices_IndexFunc_api_Limit_api_Limit = some a_slices_IndexFunc_api_Limit_api_Limit := by kernel_rfl
theorem c_slices_IndexFunc_api_Limit_api_Limit {u0 u1 h P} : ACall X f_slices_IndexFunc_api_Limit_api_Limit [u0, u1] h P = d_slices_IndexFunc_api_Limit_api_Limit (ACall X) X.gl p_slices_IndexFunc_api_Limit_api_Limit_k1 p_slices_IndexFunc_api_Limit_api_Limit_k2 u0 u1 h [] (finR [.t 4] false h.length P) := by rw [call_ref x_slices_IndexFunc_api_Limit_api_Limit rfl rfl]; exact e_slices_IndexFunc_api_Limit_api_Limit
theorem x_lot_find_1 : X.fn f_lot_find_1 = some a_lot_find_1 := by kernel_rfl
theorem c_lot_find_1 {u0 u1 v0 v1 : AV} {h h1 : Heap} {P : Post} (hp : puras h [u0, u1] = some ([v0, v1], h1)) : ACall X f_lot_find_1 [u0, u1] h P = d_lot_find_1 (ACall X) X.gl v0 v1 h1 [] (finR [.t 3] false h.length P) := by rw [call_val x_lot_find_1 rfl hp rfl]; exact e_lot_find_1
theorem x_scanref2_only : X.fn f_scanref2_only = some a_scanref2_only := by kernel_rfl
theorem c_scanref2_only {u0 u1 v0 v1 : AV} {h h1 : Heap} {P : Post} (hp : puras h [u0, u1] = some ([v0, v1], h1)) : ACall X f_scanref2_only [u0, u1] h P = d_scanref2_only (ACall X) X.gl p_scanref2_only_k1 p_scanref2_only_k2 v0 v1 h1 [] (finR [.t 4] false h.length P) := by rw [call_val x_scanref2_only rfl hp rfl]; exact e_scanref2_only
theorem x_scanref2_TestAt_1 : X.fn f_scanref2_TestAt_1 = some a_scanref2_TestAt_1 := by kernel_rfl
theorem c_scanref2_TestAt_1 {u0 u1 v0 v1 : AV} {h h1 : Heap} {P : Post} (hp : puras h [u0, u1] = some ([v0, v1], h1)) : ACall X f_scanref2_TestAt_1 [u0, u1] h P = d_scanref2_TestAt_1 (ACall X) X.gl v0 v1 h1 [] (finR [.t 3] false h.length P) := by rw [call_val x_scanref2_TestAt_1 rfl hp rfl]; exact e_scanref2_TestAt_1
theorem x_lot_valuesFault : X.fn f_lot_valuesFault = some a_lot_valuesFault := by kernel_rfl
theorem c_lot_valuesFault {u0 u1 v0 v1 : AV} {h h1 : Heap} {P : Post} (hp : puras h [u0, u1] = some ([v0, v1], h1)) : ACall X f_lot_valuesFault [u0, u1] h P = d_lot_valuesFault (ACall X) X.gl v0 v1 h1 [] (finR [.t 4] false h.length P) := by rw [call_val x_lot_valuesFault rfl hp rfl]; exact e_lot_valuesFault
theorem x_lot_sums : X.fn f_lot_sums = some a_lot_sums := by kernel_rfl
theorem c_lot_sums {u0 v0 : AV} {h h1 : Heap} {P : Post} (hp : puras h [u0] = some ([v0], h1)) : ACall X f_lot_sums [u0] h P = d_lot_sums (ACall X) X.gl p_lot_sums_k1 p_lot_sums_k2 v0 h1 [] (finR [.t 2, .t 3] false h.length P) := by rw [call_val x_lot_sums rfl hp rfl]; exact e_lot_sums
theorem x_base_Fraction : X.fn f_base_Fraction = some a_base_Fraction := by kernel_rfl
theorem c_base_Fraction {u0 u1 v0 v1 : AV} {h h1 : Heap} {P : Post} (hp : puras h [u0, u1] = some ([v0, v1], h1)) : ACall X f_base_Fraction [u0, u1] h P = d_base_Fraction (ACall X) X.gl v0 v1 h1 [] (finR [.cell 4 (some 2)] false h.length P) := by rw [call_val x_base_Fraction rfl hp rfl]; exact e_base_Fraction
theorem x_slices_insertionSortCmpFunc_api_Record : X.fn f_slices_insertionSortCmpFunc_api_Record = some a_slices_insertionSortCmpFunc_api_Record := by kernel_rfl
theorem c_slices_insertionSortCmpFunc_api_Record {u0 u1 u2 u3 h P} : ACall X f_slices_insertionSortCmpFunc_api_Record [u0, u1, u2, u3] h P = d_slices_insertionSortCmpFunc_api_Record (ACall X) X.gl p_slices_insertionSortCmpFunc_api_Record_k3 u0 u1 u2 u3 h [] (finR [] false h.length P) := by rw [call_ref x_slices_insertionSortCmpFunc_api_Record rfl rfl]; exact e_slices_insertionSortCmpFunc_api_Record
theorem x_slices_IndexFunc_int_int : X.fn f_slices_IndexFunc_int_int = some a_slices_IndexFunc_int_int := by kernel_rfl
theorem c_slices_IndexFunc_int_int {u0 u1 h P} : ACall X f_slices_IndexFunc_int_int [u0, u1] h P = d_slices_IndexFunc_int_int (ACall X) X.gl p_slices_IndexFunc_int_int_k1 p_slices_IndexFunc_int_int_k2 u0 u1 h [] (finR [.t 4] false h.length P) := by rw [call_ref x_slices_IndexFunc_int_int rfl rfl]; exact e_slices_IndexFunc_int_int
theorem x_math_bits_Len64 : X.fn f_math_bits_Len64 = some a_math_bits_Len64 := by kernel_rfl
theorem c_math_bits_Len64 {u0 v0 : AV} {h h1 : Heap} {P : Post} (hp : puras h [u0] = some ([v0], h1)) : ACall X f_math_bits_Len64 [u0] h P = d_math_bits_Len64 (ACall X) X.gl p_math_bits_Len64_k3 v0 h1 [] (finR [.t 2] false h.length P) := by rw [call_val x_math_bits_Len64 rfl hp rfl]; exact e_math_bits_Len64
theorem x_strings_IndexByte : X.fn f_strings_IndexByte = some a_strings_IndexByte := by kernel_rfl
theorem c_strings_IndexByte {u0 u1 v0 v1 : AV} {h h1 : Heap} {P : Post} (hp : puras h [u0, u1] = some ([v0, v1], h1)) : ACall X f_strings_IndexByte [u0, u1] h P = d_strings_IndexByte (ACall X) X.gl v0 v1 h1 [] (finR [.t 4] false h.length P) := by rw [call_val x_strings_IndexByte rfl hp rfl]; exact e_strings_IndexByte
theorem x_lot_valuesFault_1 : X.fn f_lot_valuesFault_1 = some a_lot_valuesFault_1 := by kernel_rfl
theorem c_lot_valuesFault_1 {u0 v0 : AV} {h h1 : Heap} {P : Post} (hp : puras h [u0] = some ([v0], h1)) : ACall X f_lot_valuesFault_1 [u0] h P = d_lot_valuesFault_1 (ACall X) X.gl v0 h1 [] (finR [.t 2] false h.length P) := by rw [call_val x_lot_valuesFault_1 rfl hp rfl]; exact e_lot_valuesFault_1
theorem x_base_Gcd : X.fn f_base_Gcd = some a_base_Gcd := by kernel_rfl
theorem c_base_Gcd {u0 u1 v0 v1 : AV} {h h1 : Heap} {P : Post} (hp : puras h [u0, u1] = some ([v0, v1], h1)) : ACall X f_base_Gcd [u0, u1] h P = d_base_Gcd (ACall X) X.gl p_base_Gcd_k1 p_base_Gcd_k2 v0 v1 h1 [] (finR [.t 4] false h.length P) := by rw [call_val x_base_Gcd rfl hp rfl]; exact e_base_Gcd
theorem x_internal_stringslite_IndexByte : X.fn f_internal_stringslite_IndexByte = some a_internal_stringslite_IndexByte := by kernel_rfl
theorem c_internal_stringslite_IndexByte {u0 u1 v0 v1 : AV} {h h1 : Heap} {P : Post} (hp : puras h [u0, u1] = some ([v0, v1], h1)) : ACall X f_internal_stringslite_IndexByte [u0, u1] h P = d_internal_stringslite_IndexByte (ACall X) X.gl v0 v1 h1 [] (finR [.t 4] false h.length P) := by rw [call_val x_internal_stringslite_IndexByte rfl hp rfl]; exact e_internal_stringslite_IndexByte
attribute [go_sem] e_scanlaw2_RecordsSorted_k1 e_scanlaw2_RecordsSorted_k2 e_scanlaw2_RecordsSorted_k3 e_scanlaw2_RecordsSorted_k4 d_scanlaw2_RecordsSorted_k1 d_scanlaw2_RecordsSorted_k2 d_scanlaw2_RecordsSorted_k3 d_scanlaw2_RecordsSorted_k4 e_scanmake_Stream_LimitList_k1 d_scanmake_Stream_LimitList_k1 e_scanmake_Stream_Records_k1 e_scanmake_Stream_Records_k2 e_scanmake_Stream_Records_k3 e_scanmake_Stream_Records_k4 e_scanmake_Stream_Records_k5 e_scanmake_Stream_Records_k6 e_scanmake_Stream_Records_k7 e_scanmake_Stream_Records_k8 l_scanmake_Stream_Records_k3 l_scanmake_Stream_Records_k7 d_scanmake_Stream_Records_k1 d_scanmake_Stream_Records_k2 d_scanmake_Stream_Records_k3 d_scanmake_Stream_Records_k4 d_scanmake_Stream_Records_k5 d_scanmake_Stream_Records_k6 d_scanmake_Stream_Records_k7 d_scanmake_Stream_Records_k8 e_lot_Merge_k1 e_lot_Merge_k2 e_lot_Merge_k3 e_lot_Merge_k4 l_lot_Merge_k1 l_lot_Merge_k2 d_lot_Merge_k1 d_lot_Merge_k2 d_lot_Merge_k3 d_lot_Merge_k4 e_scanref2_RecordsFault_k1 e_scanref2_RecordsFault_k2
attribute [go_sem] l_scanref2_RecordsFault_k1 d_scanref2_RecordsFault_k1 d_scanref2_RecordsFault_k2 e_scanlaw2_errs_k1 e_scanlaw2_errs_k2 l_scanlaw2_errs_k1 d_scanlaw2_errs_k1 d_scanlaw2_errs_k2 e_scanref2_MergedRecords_k1 e_scanref2_MergedRecords_k2 e_scanref2_MergedRecords_k3 l_scanref2_MergedRecords_k2 d_scanref2_MergedRecords_k1 d_scanref2_MergedRecords_k2 d_scanref2_MergedRecords_k3 e_lot_CheckLimits_k1 e_lot_CheckLimits_k2 l_lot_CheckLimits_k1 d_lot_CheckLimits_k1 d_lot_CheckLimits_k2 e_scanref2_LimitsFault_k1 e_scanref2_LimitsFault_k2 l_scanref2_LimitsFault_k1 d_scanref2_LimitsFault_k1 d_scanref2_LimitsFault_k2 e_slices_EqualFunc_api_Record_api_Record_api_Record_api_Record_k1 e_slices_EqualFunc_api_Record_api_Record_api_Record_api_Record_k2 l_slices_EqualFunc_api_Record_api_Record_api_Record_api_Record_k1 d_slices_EqualFunc_api_Record_api_Record_api_Record_api_Record_k1 d_slices_EqualFunc_api_Record_api_Record_api_Record_api_Record_k2 e_cmp_Or_int_k1 e_cmp_Or_int_k2 l_cmp_Or_int_k1 d_cmp_Or_int_k1 d_cmp_Or_int_k2 e_slices_CompactFunc_api_Record_api_Record_k1 e_slices_CompactFunc_api_Record_api_Record_k2 e_slices_CompactFunc_api_Record_api_Record_k3 e_slices_CompactFunc_api_Record_api_Record_k4 e_slices_CompactFunc_api_Record_api_Record_k5
attribute [go_sem] e_slices_CompactFunc_api_Record_api_Record_k6 l_slices_CompactFunc_api_Record_api_Record_k2 l_slices_CompactFunc_api_Record_api_Record_k5 d_slices_CompactFunc_api_Record_api_Record_k1 d_slices_CompactFunc_api_Record_api_Record_k2 d_slices_CompactFunc_api_Record_api_Record_k3 d_slices_CompactFunc_api_Record_api_Record_k4 d_slices_CompactFunc_api_Record_api_Record_k5 d_slices_CompactFunc_api_Record_api_Record_k6 e_scanmake_Below_k1 d_scanmake_Below_k1 e_base_First_k1 e_base_First_k2 l_base_First_k1 d_base_First_k1 d_base_First_k2 e_slices_Concat_api_Record_api_Record_k1 e_slices_Concat_api_Record_api_Record_k2 e_slices_Concat_api_Record_api_Record_k3 e_slices_Concat_api_Record_api_Record_k4 l_slices_Concat_api_Record_api_Record_k1 l_slices_Concat_api_Record_api_Record_k2 d_slices_Concat_api_Record_api_Record_k1 d_slices_Concat_api_Record_api_Record_k2 d_slices_Concat_api_Record_api_Record_k3 d_slices_Concat_api_Record_api_Record_k4 e_slices_IndexFunc_api_Record_api_Record_k1 e_slices_IndexFunc_api_Record_api_Record_k2 l_slices_IndexFunc_api_Record_api_Record_k1 d_slices_IndexFunc_api_Record_api_Record_k1 d_slices_IndexFunc_api_Record_api_Record_k2 e_scanref2_fails_k1 e_scanref2_fails_k2 l_scanref2_fails_k1 d_scanref2_fails_k1 d_scanref2_fails_k2 e_base_Key_k1 e_base_Key_k2 l_base_Key_k1 d_base_Key_k1
attribute [go_sem] d_base_Key_k2 e_lot_recordsFault_k1 e_lot_recordsFault_k2 l_lot_recordsFault_k1 d_lot_recordsFault_k1 d_lot_recordsFault_k2 e_slices_Equal_int_int_k1 e_slices_Equal_int_int_k2 l_slices_Equal_int_int_k1 d_slices_Equal_int_int_k1 d_slices_Equal_int_int_k2 e_slices_stableCmpFunc_api_Record_k1 e_slices_stableCmpFunc_api_Record_k2 e_slices_stableCmpFunc_api_Record_k3 e_slices_stableCmpFunc_api_Record_k4 e_slices_stableCmpFunc_api_Record_k5 e_slices_stableCmpFunc_api_Record_k6 l_slices_stableCmpFunc_api_Record_k1 l_slices_stableCmpFunc_api_Record_k2 l_slices_stableCmpFunc_api_Record_k5 d_slices_stableCmpFunc_api_Record_k1 d_slices_stableCmpFunc_api_Record_k2 d_slices_stableCmpFunc_api_Record_k3 d_slices_stableCmpFunc_api_Record_k4 d_slices_stableCmpFunc_api_Record_k5 d_slices_stableCmpFunc_api_Record_k6 e_lot_complete_k1 e_lot_complete_k2 l_lot_complete_k1 d_lot_complete_k1 d_lot_complete_k2 e_slices_pdqsortCmpFunc_api_Record_k1 e_slices_pdqsortCmpFunc_api_Record_k2 e_slices_pdqsortCmpFunc_api_Record_k3 e_slices_pdqsortCmpFunc_api_Record_k4 l_slices_pdqsortCmpFunc_api_Record_k4 d_slices_pdqsortCmpFunc_api_Record_k1 d_slices_pdqsortCmpFunc_api_Record_k2 d_slices_pdqsortCmpFunc_api_Record_k3 d_slices_pdqsortCmpFunc_api_Record_k4
attribute [go_sem] e_slices_IndexFunc_api_Limit_api_Limit_k1 e_slices_IndexFunc_api_Limit_api_Limit_k2 l_slices_IndexFunc_api_Limit_api_Limit_k1 d_slices_IndexFunc_api_Limit_api_Limit_k1 d_slices_IndexFunc_api_Limit_api_Limit_k2 e_scanref2_only_k1 e_scanref2_only_k2 l_scanref2_only_k1 d_scanref2_only_k1 d_scanref2_only_k2 e_lot_sums_k1 e_lot_sums_k2 l_lot_sums_k1 d_lot_sums_k1 d_lot_sums_k2 e_slices_insertionSortCmpFunc_api_Record_k1 e_slices_insertionSortCmpFunc_api_Record_k2 e_slices_insertionSortCmpFunc_api_Record_k3 l_slices_insertionSortCmpFunc_api_Record_k1 l_slices_insertionSortCmpFunc_api_Record_k3 d_slices_insertionSortCmpFunc_api_Record_k1 d_slices_insertionSortCmpFunc_api_Record_k2 d_slices_insertionSortCmpFunc_api_Record_k3 e_slices_IndexFunc_int_int_k1 e_slices_IndexFunc_int_int_k2 l_slices_IndexFunc_int_int_k1 d_slices_IndexFunc_int_int_k1 d_slices_IndexFunc_int_int_k2 e_math_bits_Len64_k1 e_math_bits_Len64_k2 e_math_bits_Len64_k3 d_math_bits_Len64_k1 d_math_bits_Len64_k2 d_math_bits_Len64_k3 e_base_Gcd_k1 e_base_Gcd_k2 l_base_Gcd_k1 d_base_Gcd_k1 d_base_Gcd_k2
end Go.Am
end
section
/- The stream of numbers out of which the laws draw. -/
open Go
namespace Go.Am
abbrev eI (n : Int) : PV := .int .i64 n
abbrev AI (n : Int) : AV := .p (.int .i64 n)
abbrev AB (b : Bool) : AV := .p (.bool b)
abbrev AL (l : List Int) : AV := .p (.sl none (l.map eI))
abbrev strm (L : List Int) (a : Int) : Obj := .box [AL L, AI a]
def below (x n : Int) : Int := if n < 1 then 0 else if x.tmod n < 0 then IntKind.i64.wrap (x.tmod n + n) else x.tmod n
theorem s_Below (x n : Int) (h : Heap) (K : Post) : ACall X f_scanmake_Below [AI x, AI n] h K = K (AI (below x n)) h [] := by
  refine rule ?_
  rw [c_scanmake_Below rfl]
  simp only [d_scanmake_Below, go_sem]
  unfold below
  by_cases h1 : n < 1
  · simp only [h1, if_true]
  · simp only [h1, if_false, show ¬ n = 0 by omega]
    split <;> rfl
theorem below_bd (x n : Int) (h1 : 1 ≤ n) (h2 : n ≤ 4611686018427387904) : 0 ≤ below x n ∧ below x n < n := by
  unfold below
  rw [if_neg (by omega)]
  have := Int.tmod_lt_of_pos x (show 0 < n by omega)
  have h3 : -n < x.tmod n := by
    have := Int.lt_tmod_of_pos x (show 0 < n by omega)
    exact this
  split
  · rw [i64_wrap _ (by omega) (by omega)]; omega
  · omega
def nextV (L : List Int) (a n : Int) : Int :=
  if L.length = 0 then below (IntKind.i64.wrap ((a + 1) * 7919)) n
  else below (IntKind.i64.wrap (below (L.getD (a.tmod L.length).toNat 0) 1073741824 + IntKind.i64.wrap (IntKind.i64.wrap (a.tdiv L.length) * IntKind.i64.wrap (7919 + a.tmod L.length)))) n
theorem nextV_bd (L : List Int) (a n : Int) (h1 : 1 ≤ n) (h2 : n ≤ 4611686018427387904) : 0 ≤ nextV L a n ∧ nextV L a n < n := by
  unfold nextV
  split <;> exact below_bd _ _ h1 h2
theorem set_get' {h : Heap} {id : Nat} {o' : Obj} (hid : id < h.length) : (h.set id o')[id]? = some o' := by simp [hid]
theorem get_lt {h : Heap} {id : Nat} {o : Obj} (hh : h[id]? = some o) : id < h.length := (List.getElem?_eq_some_iff.1 hh).1
/-- A place in the stream with room for so many more steps. -/
def posN (n : Nat) (a : Int) : Prop := 0 ≤ a ∧ a + n < 4611686018427387904
theorem posN_le {n m : Nat} {a b : Int} (H : posN m a) (h : a ≤ b) (hn : b + n ≤ a + m) : posN n b := by unfold posN at *; omega
theorem posAll {a : Int} (H : posN 14 a) : posN 0 (a) ∧ posN 0 (a + 1) ∧ posN 0 (a + 1 + 1) ∧ posN 0 (a + 1 + 1 + 1) ∧ posN 0 (a + 1 + 1 + 1 + 1) ∧ posN 0 (a + 1 + 1 + 1 + 1 + 1) ∧ posN 0 (a + 1 + 1 + 1 + 1 + 1 + 1) ∧ posN 0 (a + 1 + 1 + 1 + 1 + 1 + 1 + 1) ∧ posN 0 (a + 1 + 1 + 1 + 1 + 1 + 1 + 1 + 1) ∧ posN 0 (a + 1 + 1 + 1 + 1 + 1 + 1 + 1 + 1 + 1) ∧ posN 0 (a + 1 + 1 + 1 + 1 + 1 + 1 + 1 + 1 + 1 + 1) ∧ posN 0 (a + 1 + 1 + 1 + 1 + 1 + 1 + 1 + 1 + 1 + 1 + 1) ∧ posN 0 (a + 1 + 1 + 1 + 1 + 1 + 1 + 1 + 1 + 1 + 1 + 1 + 1) ∧ posN 0 (a + 1 + 1 + 1 + 1 + 1 + 1 + 1 + 1 + 1 + 1 + 1 + 1 + 1) ∧ posN 0 (a + 1 + 1 + 1 + 1 + 1 + 1 + 1 + 1 + 1 + 1 + 1 + 1 + 1 + 1) := by
  unfold posN at *; omega
/-- A method of the stream: what it yields, how far the stream is behind it. -/
def Gen (f : Nat) (args : List AV) (L : List Int) (a a2 : Int) (v : AV) : Prop := ∀ (h : Heap) (id : Nat) (K : Post), h[id]? = some (strm L a) → ACall X f (.ref id 0 :: args) h K = K v (h.set id (strm L a2)) []
section
variable {f : Nat} {args : List AV} {L : List Int} {a a2 : Int} {v : AV} {h l : Heap} {id : Nat} {K : Post}
theorem Gen.set (g : Gen f args L a a2 v) (hid : id < h.length) : ACall X f (.ref id 0 :: args) (h.set id (strm L a)) K = K v (h.set id (strm L a2)) [] := by
  rw [g _ _ _ (set_get' hid), List.set_set]
theorem Gen.app (g : Gen f args L a a2 v) (hid : id < h.length) : ACall X f (.ref id 0 :: args) (h.set id (strm L a) ++ l) K = K v (h.set id (strm L a2) ++ l) [] := by
  rw [g _ _ _ (by rw [get_app (by simpa using hid)]; exact set_get' hid), set_app (by simpa using hid), List.set_set]
theorem Gen.hd (g : Gen f args L a a2 v) : ACall X f (.ref 0 0 :: args) (strm L a :: l) K = K v (strm L a2 :: l) [] := by
  rw [g _ _ _ rfl]; rfl
theorem Gen.of (H : ∀ (h : Heap) (id : Nat), id < h.length → ACall X f (.ref id 0 :: args) (h.set id (strm L a)) fun v1 h1 x1 => v1 = v ∧ h1 = h.set id (strm L a2) ∧ x1 = []) : Gen f args L a a2 v := by
  intro h id K hh
  have hid := get_lt hh
  have : h.set id (strm L a) = h := by
    apply List.ext_getElem?
    intro i
    rw [List.getElem?_set]
    split
    · rename_i e; subst e; rw [hh]
    · rfl
  have k := H h id hid
  rw [this] at k
  exact rule k
end
/-- A method of the stream whose yield is told by what holds of it. -/
def GenE (f : Nat) (args : List AV) (L : List Int) (a : Int) (Q : AV → Int → Prop) : Prop := ∀ (h : Heap) (id : Nat), h[id]? = some (strm L a) → ∃ v a2, Q v a2 ∧ ∀ K : Post, ACall X f (.ref id 0 :: args) h K = K v (h.set id (strm L a2)) []
section
variable {f : Nat} {args : List AV} {L : List Int} {a : Int} {Q : AV → Int → Prop}
theorem GenE.set (g : GenE f args L a Q) {h : Heap} {id : Nat} (hid : id < h.length) : ∃ v a2, Q v a2 ∧ ∀ K : Post, ACall X f (.ref id 0 :: args) (h.set id (strm L a)) K = K v (h.set id (strm L a2)) [] := by
  obtain ⟨v, a2, q, r⟩ := g _ _ (set_get' hid)
  exact ⟨v, a2, q, fun K => by rw [r, List.set_set]⟩
theorem GenE.app (g : GenE f args L a Q) {h l : Heap} {id : Nat} (hid : id < h.length) : ∃ v a2, Q v a2 ∧ ∀ K : Post, ACall X f (.ref id 0 :: args) (h.set id (strm L a) ++ l) K = K v (h.set id (strm L a2) ++ l) [] := by
  obtain ⟨v, a2, q, r⟩ := g (h.set id (strm L a) ++ l) id (by rw [get_app (by simpa using hid)]; exact set_get' hid)
  exact ⟨v, a2, q, fun K => by rw [r, set_app (by simpa using hid), List.set_set]⟩
theorem GenE.hd (g : GenE f args L a Q) {l : Heap} : ∃ v a2, Q v a2 ∧ ∀ K : Post, ACall X f (.ref 0 0 :: args) (strm L a :: l) K = K v (strm L a2 :: l) [] := g (strm L a :: l) 0 rfl
theorem GenE.of (H : ∀ (h : Heap) (id : Nat), id < h.length → ACall X f (.ref id 0 :: args) (h.set id (strm L a)) fun v1 h1 x1 => ∃ a2, Q v1 a2 ∧ h1 = h.set id (strm L a2) ∧ x1 = []) : GenE f args L a Q := by
  intro h id hh
  have hid := get_lt hh
  have : h.set id (strm L a) = h := by
    apply List.ext_getElem?
    intro i
    rw [List.getElem?_set]
    split
    · rename_i e; subst e; rw [hh]
    · rfl
  have k := H h id hid
  rw [this] at k
  obtain ⟨v, h', x, ⟨a2, q, e1, e2⟩, r⟩ := ACall.one X_noNext k
  subst e1; subst e2
  exact ⟨v, a2, q, r⟩
end
def pickV (l : List Int) (L : List Int) (a : Int) : Int := l.getD (nextV L a l.length).toNat 0
theorem pickV_mem {l L : List Int} {a : Int} (hl : 0 < l.length) (hl2 : l.length < 4611686018427387904) : pickV l L a ∈ l := by
  obtain ⟨b1, b2⟩ := nextV_bd L a l.length (by omega) (by omega)
  unfold pickV
  have : (nextV L a l.length).toNat < l.length := by omega
  simp only [List.getD, List.getElem?_eq_getElem this, Option.getD_some]
  exact List.getElem_mem _
def isI : PV → Bool
  | .int .i64 _ => true
  | _ => false
def unI : PV → Int
  | .int _ n => n
  | _ => 0
theorem unI_map {xs : List PV} (h : xs.all isI = true) : xs = (xs.map unI).map eI := by
  induction xs with
  | nil => rfl
  | cons x r ih =>
    simp only [List.all_cons, Bool.and_eq_true] at h
    simp only [List.map_cons]
    rw [← ih h.2]
    cases x with
    | int k n => cases k <;> first | rfl | cases h.1
    | _ => cases h.1
set_option maxHeartbeats 400000 in
theorem g_Next (L : List Int) (a n : Int) (hp : posN 0 a) : Gen f_scanmake_Stream_Next [AI n] L a (a + 1) (AI (nextV L a n)) := by
  refine Gen.of fun h id hid => ?_
  rw [c_scanmake_Stream_Next rfl]
  obtain ⟨h0, h1⟩ := hp
  have w1 : IntKind.i64.wrap (a + 1) = a + 1 := i64_wrap _ (by omega) (by omega)
  have w2 : IntKind.i64.wrap (a + 1 - 1) = a := by rw [i64_wrap _ (by omega) (by omega)]; omega
  have hs : ∀ o', (h.set id o')[id]? = some o' := fun o' => set_get' hid
  rcases Nat.eq_zero_or_pos L.length with hl | hl
  · simp only [d_scanmake_Stream_Next, go_sem, hs, s_Below, hl, w1]
    simp only [nextV, hl, if_true]
  · have e1 : ((L.length : Int) = 0) = False := by simp only [eq_iff_iff, iff_false]; omega
    have e2 : 0 ≤ a.tmod L.length := Int.tmod_nonneg _ h0
    have e3 : a.tmod L.length < L.length := Int.tmod_lt_of_pos _ (by omega)
    have e4 := natOf_int (k := .i64) e2
    have e5 : (L.map eI)[(a.tmod L.length).toNat]? = some (eI (L.getD (a.tmod L.length).toNat 0)) := by
      rw [map_get eI (show (a.tmod L.length).toNat < L.length by omega)]
      simp [List.getD, show (a.tmod L.length).toNat < L.length by omega]
    simp only [d_scanmake_Stream_Next, go_sem, hs, s_Below, e1, w1, w2, e4, e5]
    simp only [nextV, show ¬ L.length = 0 by omega, if_false]
section
variable {L : List Int} {a : Int} {h l : Heap} {id : Nat} {K : Post}
theorem s_Next_set (hid : id < h.length) (hp : posN 0 a) (n : Int) : ACall X f_scanmake_Stream_Next [.ref id 0, AI n] (h.set id (strm L a)) K = K (AI (nextV L a n)) (h.set id (strm L (a + 1))) [] := (g_Next L a n hp).set hid
theorem s_Next_app (hid : id < h.length) (hp : posN 0 a) (n : Int) : ACall X f_scanmake_Stream_Next [.ref id 0, AI n] (h.set id (strm L a) ++ l) K = K (AI (nextV L a n)) (h.set id (strm L (a + 1)) ++ l) [] := (g_Next L a n hp).app hid
theorem s_Next_hd (hp : posN 0 a) (n : Int) : ACall X f_scanmake_Stream_Next [.ref 0 0, AI n] (strm L a :: l) K = K (AI (nextV L a n)) (strm L (a + 1) :: l) [] := (g_Next L a n hp).hd
theorem g_Flip (hp : posN 0 a) (n : Int) : Gen f_scanmake_Stream_Flip [AI n] L a (a + 1) (AB (decide (nextV L a n = 0))) := by
  refine Gen.of fun h id hid => ?_
  rw [c_scanmake_Stream_Flip rfl]
  simp only [d_scanmake_Stream_Flip, go_sem, s_Next_set hid hp]
theorem s_Flip_set (hid : id < h.length) (hp : posN 0 a) (n : Int) : ACall X f_scanmake_Stream_Flip [.ref id 0, AI n] (h.set id (strm L a)) K = K (AB (decide (nextV L a n = 0))) (h.set id (strm L (a + 1))) [] := (g_Flip hp n).set hid
theorem s_Flip_app (hid : id < h.length) (hp : posN 0 a) (n : Int) : ACall X f_scanmake_Stream_Flip [.ref id 0, AI n] (h.set id (strm L a) ++ l) K = K (AB (decide (nextV L a n = 0))) (h.set id (strm L (a + 1)) ++ l) [] := (g_Flip hp n).app hid
theorem s_Flip_hd (hp : posN 0 a) (n : Int) : ACall X f_scanmake_Stream_Flip [.ref 0 0, AI n] (strm L a :: l) K = K (AB (decide (nextV L a n = 0))) (strm L (a + 1) :: l) [] := (g_Flip hp n).hd
theorem g_Pick (hp : posN 0 a) (xs : List PV) (hx : xs.all isI = true) (hl : 0 < xs.length) (hl2 : xs.length < 4611686018427387904) :
    Gen f_scanmake_Stream_Pick [.p (.sl none xs)] L a (a + 1) (AI (pickV (xs.map unI) L a)) := by
  refine Gen.of fun h id hid => ?_
  rw [c_scanmake_Stream_Pick rfl]
  obtain ⟨b1, b2⟩ := nextV_bd L a xs.length (by omega) (by omega)
  have e4 := natOf_int (k := .i64) b1
  have e5 : xs[(nextV L a xs.length).toNat]? = some (eI (pickV (xs.map unI) L a)) := by
      have hm := unI_map hx
      generalize hq : xs.map unI = q at *
      subst hm
      simp only [List.length_map] at *
      rw [map_get eI (show (nextV L a q.length).toNat < q.length by omega)]
      simp [pickV, List.getD, show (nextV L a q.length).toNat < q.length by omega]
  simp only [d_scanmake_Stream_Pick, go_sem, s_Next_set hid hp, e4, e5]
theorem s_Pick_set (hid : id < h.length) (hp : posN 0 a) {xs : List PV} (hx : xs.all isI = true) (hl : 0 < xs.length) (hl2 : xs.length < 4611686018427387904) :
    ACall X f_scanmake_Stream_Pick [.ref id 0, .p (.sl none xs)] (h.set id (strm L a)) K = K (AI (pickV (xs.map unI) L a)) (h.set id (strm L (a + 1))) [] := (g_Pick hp xs hx hl hl2).set hid
theorem s_Pick_app (hid : id < h.length) (hp : posN 0 a) {xs : List PV} (hx : xs.all isI = true) (hl : 0 < xs.length) (hl2 : xs.length < 4611686018427387904) :
    ACall X f_scanmake_Stream_Pick [.ref id 0, .p (.sl none xs)] (h.set id (strm L a) ++ l) K = K (AI (pickV (xs.map unI) L a)) (h.set id (strm L (a + 1)) ++ l) [] := (g_Pick hp xs hx hl hl2).app hid
theorem s_Pick_hd (hp : posN 0 a) {xs : List PV} (hx : xs.all isI = true) (hl : 0 < xs.length) (hl2 : xs.length < 4611686018427387904) :
    ACall X f_scanmake_Stream_Pick [.ref 0 0, .p (.sl none xs)] (strm L a :: l) K = K (AI (pickV (xs.map unI) L a)) (strm L (a + 1) :: l) [] := (g_Pick hp xs hx hl hl2).hd
/-- A number from a to b. -/
def rangeV (u v : Int) (L : List Int) (a : Int) : Int := u + nextV L a (v - u + 1)
theorem rangeV_bd {u v : Int} (L : List Int) (a : Int) (h1 : u ≤ v) (h2 : v ≤ u + 4611686018427387900) : u ≤ rangeV u v L a ∧ rangeV u v L a ≤ v := by
  have := nextV_bd L a (v - u + 1) (by omega) (by omega)
  unfold rangeV; omega
theorem g_Range (hp : posN 0 a) (u v : Int) (huv : u ≤ v) (hu : -1152921504606846976 ≤ u) (hv : v ≤ 1152921504606846976) :
    Gen f_scanmake_Stream_Range [AI u, AI v] L a (a + 1) (AI (rangeV u v L a)) := by
  refine Gen.of fun h id hid => ?_
  rw [c_scanmake_Stream_Range rfl]
  obtain ⟨b1, b2⟩ := rangeV_bd L a huv (by omega)
  have w1 : IntKind.i64.wrap (v - u) = v - u := i64_wrap _ (by omega) (by omega)
  have w2 : IntKind.i64.wrap (v - u + 1) = v - u + 1 := i64_wrap _ (by omega) (by omega)
  have w3 : IntKind.i64.wrap (u + nextV L a (v - u + 1)) = rangeV u v L a := i64_wrap (rangeV u v L a) (by omega) (by omega)
  simp only [d_scanmake_Stream_Range, go_sem, show ¬ v < u by omega, w1, w2, s_Next_set hid hp, w3]
theorem s_Range_set (hid : id < h.length) (hp : posN 0 a) {u v : Int} (huv : u ≤ v) (hu : -1152921504606846976 ≤ u) (hv : v ≤ 1152921504606846976) :
    ACall X f_scanmake_Stream_Range [.ref id 0, AI u, AI v] (h.set id (strm L a)) K = K (AI (rangeV u v L a)) (h.set id (strm L (a + 1))) [] := (g_Range hp u v huv hu hv).set hid
theorem s_Range_app (hid : id < h.length) (hp : posN 0 a) {u v : Int} (huv : u ≤ v) (hu : -1152921504606846976 ≤ u) (hv : v ≤ 1152921504606846976) :
    ACall X f_scanmake_Stream_Range [.ref id 0, AI u, AI v] (h.set id (strm L a) ++ l) K = K (AI (rangeV u v L a)) (h.set id (strm L (a + 1)) ++ l) [] := (g_Range hp u v huv hu hv).app hid
theorem s_Range_hd (hp : posN 0 a) {u v : Int} (huv : u ≤ v) (hu : -1152921504606846976 ≤ u) (hv : v ≤ 1152921504606846976) :
    ACall X f_scanmake_Stream_Range [.ref 0 0, AI u, AI v] (strm L a :: l) K = K (AI (rangeV u v L a)) (strm L (a + 1) :: l) [] := (g_Range hp u v huv hu hv).hd
end
attribute [go_sem ↓] s_Next_set s_Next_app s_Next_hd s_Flip_set s_Flip_app s_Flip_hd s_Pick_set s_Pick_app s_Pick_hd s_Range_set s_Range_app s_Range_hd
attribute [go_sem] s_Next_set s_Next_app s_Next_hd s_Flip_set s_Flip_app s_Flip_hd s_Pick_set s_Pick_app s_Pick_hd s_Range_set s_Range_app s_Range_hd isI unI
end Go.Am
end
section
/- Plain laws of fractions in lowest terms. -/
namespace Go.Am
/-- In lowest terms. -/
def low (a b : Int) : Int × Int := (a.tdiv (Int.gcd a b), b.tdiv (Int.gcd a b))
theorem gcd_pos (a b : Int) (hb : 0 < b) : 0 < (Int.gcd a b : Int) := by
  have : Int.gcd a b ≠ 0 := by
    intro h
    have := (Int.gcd_eq_zero_iff.1 h).2
    omega
  omega
theorem low_num (a b : Int) : (low a b).1 * (Int.gcd a b : Int) = a := by
  unfold low
  exact Int.tdiv_mul_cancel (Int.gcd_dvd_left ..)
theorem low_den (a b : Int) : (low a b).2 * (Int.gcd a b : Int) = b := by
  unfold low
  exact Int.tdiv_mul_cancel (Int.gcd_dvd_right ..)
theorem low_den_pos (a b : Int) (hb : 0 < b) : 0 < (low a b).2 := by
  have h1 := low_den a b
  have h2 := gcd_pos a b hb
  rcases Int.lt_trichotomy (low a b).2 0 with h | h | h
  · have := Int.mul_neg_of_neg_of_pos h h2; omega
  · rw [h] at h1; omega
  · exact h
theorem low_den_le (a b : Int) (hb : 0 < b) : (low a b).2 ≤ b := by
  have h1 := low_den a b
  have h2 := gcd_pos a b hb
  have h3 := low_den_pos a b hb
  have : (low a b).2 * 1 ≤ (low a b).2 * (Int.gcd a b : Int) := Int.mul_le_mul_of_nonneg_left (by omega) (by omega)
  omega
theorem low_abs (a b : Int) (hb : 0 < b) : (low a b).1.natAbs ≤ a.natAbs := by
  have h1 := low_num a b
  have h2 := gcd_pos a b hb
  have h3 : ((low a b).1 * (Int.gcd a b : Int)).natAbs = a.natAbs := by rw [h1]
  rw [Int.natAbs_mul] at h3
  rw [← h3]
  exact Nat.le_mul_of_pos_right _ (by omega)
end Go.Am
end
section
/- Small functions of numbers and of lists of numbers. -/
open Go
namespace Go.Am
variable {h : Heap} {K : Post}
theorem s_Out (n a b : Int) : ACall X f_base_Out [AI n, AI a, AI b] h K = K (AB (decide (n < a) || decide (b < n))) h [] := by
  refine rule ?_
  rw [c_base_Out rfl]
  by_cases h1 : n < a <;> simp only [d_base_Out, go_sem, h1]
theorem s_in (n a b : Int) : ACall X f_scanref2_in [AI n, AI a, AI b] h K = K (AB (decide (a ≤ n) && decide (n ≤ b))) h [] := by
  refine rule ?_
  rw [c_scanref2_in rfl]
  by_cases h1 : a ≤ n <;> simp only [d_scanref2_in, go_sem, h1]
theorem out_eq (n a b : Int) : (decide (n < a) || decide (b < n)) = !(decide (a ≤ n) && decide (n ≤ b)) := by
  rw [Bool.eq_iff_iff]; simp
theorem s_sign (n : Int) : ACall X f_scanref2_sign [AI n] h K = K (AI n.sign) h [] := by
  refine rule ?_
  rw [c_scanref2_sign rfl]
  rcases Int.lt_trichotomy n 0 with h1 | h1 | h1
  · simp only [d_scanref2_sign, go_sem, h1, Int.sign_eq_neg_one_of_neg h1]
  · subst h1; simp only [d_scanref2_sign, go_sem, Int.sign_zero]
  · simp only [d_scanref2_sign, go_sem, show ¬ n < 0 by omega, h1, Int.sign_eq_one_of_pos h1]
/-! ### greatest common divisors -/
theorem gcd_step (a b : Int) : Int.gcd b (a.tmod b) = Int.gcd a b := by
  unfold Int.gcd
  rw [Int.natAbs_tmod, Nat.gcd_comm, ← Nat.gcd_rec, Nat.gcd_comm]
theorem s_Gcd (a b : Int) (ha : 0 ≤ a) (hb : 0 ≤ b) : ACall X f_base_Gcd [AI a, AI b] h K = K (AI (Int.gcd a b)) h [] := by
  refine rule ?_
  rw [c_base_Gcd rfl]
  simp only [d_base_Gcd, go_sem]
  refine N_loop (fun t : Int × Int => ⟨[(0, AI t.1), (1, AI t.2)], h, []⟩) (fun t => 0 ≤ t.1 ∧ 0 ≤ t.2 ∧ Int.gcd t.1 t.2 = Int.gcd a b) (fun t => t.2.toNat) (a, b) rfl ⟨ha, hb, rfl⟩ ?_
  rintro ⟨u, v⟩ ⟨h1, h2, h3⟩
  dsimp only at h1 h2 h3
  by_cases hv : v = 0
  · subst hv
    simp only [go_sem]
    rw [← h3]; simp; omega
  · simp only [go_sem, hv]
    exact ⟨(v, u.tmod v), rfl, ⟨h2, Int.tmod_nonneg _ h1, by rw [gcd_step]; exact h3⟩, by have := Int.tmod_lt_of_pos u (show 0 < v by omega); dsimp only; omega⟩
theorem s_Fraction (a b : Int) (ha : -9223372036854775807 ≤ a ∧ a ≤ 9223372036854775807) (hb : 0 < b ∧ b ≤ 9223372036854775807) : ACall X f_base_Fraction [AI a, AI b] h K = K (.p (.agg [eI (low a b).1, eI (low a b).2])) h [] := by
  refine rule ?_
  rw [c_base_Fraction rfl]
  have w : IntKind.i64.wrap (-a) = -a := i64_wrap _ (by omega) (by omega)
  have e : Int.gcd (max a (-a)) b = Int.gcd a b := by
    rcases Int.le_total 0 a with h | h
    · rw [show max a (-a) = a by omega]
    · rw [show max a (-a) = -a by omega, Int.neg_gcd]
  have hg := gcd_pos a b hb.1
  have hd := low_den_le a b hb.1
  have hp := low_den_pos a b hb.1
  have hn := low_abs a b hb.1
  have w1 : IntKind.i64.wrap (a.tdiv (Int.gcd a b)) = (low a b).1 := i64_wrap (low a b).1 (by omega) (by omega)
  have w2 : IntKind.i64.wrap (b.tdiv (Int.gcd a b)) = (low a b).2 := i64_wrap (low a b).2 (by omega) (by omega)
  have e0 : ((Int.gcd a b : Int) = 0) = False := by simp only [eq_iff_iff, iff_false]; omega
  simp only [d_base_Fraction, go_sem, w, s_Gcd (max a (-a)) b (by omega) (by omega), e, e0, w1, w2]
/-! ### products of 128 bits -/
theorem u64_wrap (n : Int) (h1 : 0 ≤ n) (h2 : n < 18446744073709551616) : IntKind.u64.wrap n = n := by
  simp [IntKind.wrap, IntKind.bits, IntKind.signed]; omega
abbrev AU (n : Int) : AV := .p (.int .u64 n)
theorem mul_bd {a b A B : Int} (h1 : 0 ≤ a) (h2 : a ≤ A) (h3 : 0 ≤ b) (h4 : b ≤ B) : 0 ≤ a * b ∧ a * b ≤ A * B :=
  ⟨Int.mul_nonneg h1 h3, Int.mul_le_mul h2 h4 h3 (by omega)⟩
def cmp3 (x y : Int) : Int := if x < y then -1 else if x = y then 0 else 1
theorem cmp3_sign (x y : Int) : cmp3 x y = (x - y).sign := by
  unfold cmp3
  rcases Int.lt_trichotomy x y with h | h | h
  · rw [if_pos h, Int.sign_eq_neg_one_of_neg (by omega)]
  · rw [if_neg (by omega), if_pos h, h]; simp
  · rw [if_neg (by omega), if_neg (by omega), Int.sign_eq_one_of_pos (by omega)]
end Go.Am
end
section
/- Functions of lists. -/
open Go
namespace Go.Am
variable {h : Heap} {K : Post}
theorem s_isNaN (a : Int) : ACall X f_cmp_isNaN_int [AI a] h K = K (AB false) h [] := by
  refine rule ?_
  rw [c_cmp_isNaN_int rfl]
  simp only [d_cmp_isNaN_int, go_sem]
theorem s_cmpCompare (a b : Int) : ACall X f_cmp_Compare_int [AI a, AI b] h K = K (AI (cmp3 a b)) h [] := by
  refine rule ?_
  rw [c_cmp_Compare_int rfl]
  unfold cmp3
  by_cases h1 : a < b
  · simp only [d_cmp_Compare_int, go_sem, s_isNaN, h1]
  · by_cases h2 : b < a
    · simp only [d_cmp_Compare_int, go_sem, s_isNaN, h1, h2, show ¬ a = b by omega]
    · simp only [d_cmp_Compare_int, go_sem, s_isNaN, h1, h2, show a = b by omega, Int.lt_irrefl]
/-! ### sums, greatest, least -/
theorem sum_take_succ (l : List Int) (k : Nat) (hk : k < l.length) : (l.take (k + 1)).sum = (l.take k).sum + l[k] := by
  rw [List.take_succ_eq_append_getElem hk, List.sum_append]; simp
theorem sum_bd (l : List Int) (a b : Int) (hv : ∀ n ∈ l, a ≤ n ∧ n ≤ b) : (l.length : Int) * a ≤ l.sum ∧ l.sum ≤ (l.length : Int) * b := by
  induction l with
  | nil => simp
  | cons x r ih =>
    obtain ⟨i1, i2⟩ := ih (fun n hn => hv n (by simp [hn]))
    obtain ⟨x1, x2⟩ := hv x (by simp)
    simp only [List.length_cons, List.sum_cons, Int.natCast_add, Int.add_mul]
    omega
theorem sum_bd' {l : List Int} {B : Int} (hv : ∀ n ∈ l, -B ≤ n ∧ n ≤ B) {N : Nat} (hl : l.length ≤ N) (hB : 0 ≤ B) : -(N * B) ≤ l.sum ∧ l.sum ≤ N * B := by
  obtain ⟨h1, h2⟩ := sum_bd l (-B) B hv
  have : (l.length : Int) * B ≤ N * B := Int.mul_le_mul_of_nonneg_right (by omega) hB
  rw [Int.mul_neg] at h1
  omega
theorem sum_bd_take {l : List Int} {B : Int} (hv : ∀ n ∈ l, -B ≤ n ∧ n ≤ B) {N : Nat} (hl : l.length ≤ N) (hB : 0 ≤ B) (k : Nat) : -(N * B) ≤ (l.take k).sum ∧ (l.take k).sum ≤ N * B :=
  sum_bd' (fun n hn => hv n (List.mem_of_mem_take hn)) (by simp; omega) hB
/-! ### equality, finding -/
theorem s_EqualI (l m : List Int) (hl : l.length ≤ 1000000000) : ACall X f_slices_Equal_int_int [AL l, AL m] h K = K (AB (decide (l = m))) h [] := by
  refine rule ?_
  rw [c_slices_Equal_int_int rfl]
  by_cases hlen : l.length = m.length
  · simp only [d_slices_Equal_int_int, go_sem, hlen]
    refine N_loop (fun k : Nat => ⟨[(0, AL l), (1, AL m), (12, AI m.length), (13, AI k)], h, []⟩) (fun k => k ≤ m.length ∧ l.take k = m.take k) (fun k => m.length - k) 0 rfl (by simp) ?_
    rintro k ⟨hk, hp⟩
    rcases Nat.lt_or_ge k m.length with hlt | hge
    · have hg1 := map_get eI (show k < l.length by omega)
      have hg2 := map_get eI hlt
      have w2 : IntKind.i64.wrap ((k : Int) + 1) = ((k + 1 : Nat) : Int) := i64_wrap _ (by omega) (by omega)
      by_cases he : l[k] = m[k]
      · simp only [go_sem, hlt, hg1, hg2, w2, he]
        exact ⟨k + 1, rfl, ⟨by omega, by rw [List.take_succ_eq_append_getElem (by omega), List.take_succ_eq_append_getElem hlt, hp, he]⟩, by omega⟩
      · simp only [go_sem, hlt, hg1, hg2, w2, he]
        have : ¬ l = m := fun h => he (by simp only [h])
        simp [this]
    · have e1 : k = m.length := by omega
      have e2 : l = m := by rw [← List.take_length (l := l), ← List.take_length (l := m), hlen, ← e1, hp]
      subst e1
      simp only [go_sem, Nat.lt_irrefl]
      simp [e2]
  · have e1 : ((l.length : Int) = m.length) = False := by simp only [eq_iff_iff, iff_false]; omega
    simp only [d_slices_Equal_int_int, go_sem, e1]
    have : ¬ l = m := fun h => hlen (by rw [h])
    simp [this]
/-- A function value that tells of a value whether it has a property. -/
def Tells (g : Nat) (caps : List AV) (p : PV → Bool) (xs : List PV) (h : Heap) : Prop := ∀ x ∈ xs, ∀ K : Post, ACall X g (.p x :: caps) h K = K (AB (p x)) h []
def idxP (p : PV → Bool) (xs : List PV) : Int := if xs.findIdx p < xs.length then (xs.findIdx p : Int) else -1
theorem idxP_any (p : PV → Bool) (xs : List PV) : decide (0 ≤ idxP p xs) = xs.any p := by
  unfold idxP
  rw [Bool.eq_iff_iff]
  by_cases h : xs.findIdx p < xs.length
  · rw [if_pos h]; simp only [decide_eq_true_eq, List.any_eq_true]
    exact ⟨fun _ => ⟨_, List.getElem_mem h, List.findIdx_getElem⟩, fun _ => by omega⟩
  · rw [if_neg h]; simp only [decide_eq_true_eq, List.any_eq_true]
    refine ⟨fun h => by omega, fun ⟨x, hx, hp⟩ => absurd (List.findIdx_lt_length_of_exists ⟨x, hx, hp⟩) h⟩
def firstErr : List Int → Int
  | [] => 0
  | e :: r => if e = 0 then firstErr r else e
theorem s_errs (l : List Int) (hl : l.length ≤ 1000) : ACall X f_scanlaw2_errs [AL l] h K = K (AI (firstErr l)) h [] := by
  refine rule ?_
  rw [c_scanlaw2_errs rfl]
  simp only [d_scanlaw2_errs, go_sem]
  refine N_loop (fun k : Nat => ⟨[(5, AL l), (6, AI l.length), (7, AI k)], h, []⟩) (fun k => k ≤ l.length ∧ firstErr (l.drop k) = firstErr l) (fun k => l.length - k) 0 rfl (by simp) ?_
  rintro k ⟨hk, hp⟩
  rcases Nat.lt_or_ge k l.length with hlt | hge
  · have hg := map_get eI hlt
    have w2 : IntKind.i64.wrap ((k : Int) + 1) = ((k + 1 : Nat) : Int) := i64_wrap _ (by omega) (by omega)
    rw [List.drop_eq_getElem_cons hlt, firstErr] at hp
    by_cases he : l[k] = 0
    · rw [if_pos he] at hp
      simp only [go_sem, hlt, hg, w2, he]
      exact ⟨k + 1, rfl, ⟨by omega, hp⟩, by omega⟩
    · rw [if_neg he] at hp
      simp only [go_sem, hlt, hg, w2, he]
      rw [hp]
  · have e1 : k = l.length := by omega
    subst e1
    simp only [go_sem, Nat.lt_irrefl]
    rw [List.drop_length] at hp
    rw [← hp]; rfl
end Go.Am
end
section
/- Plain lists: insertion sort as Go's package slices does it on short lists; deleting; compacting. -/
namespace Go.Am
variable {α : Type}
/-- A value laid into a list that is kept with its last element first. -/
def insR (lt : α → α → Bool) (x : α) : List α → List α
  | [] => [x]
  | y :: r => bif lt x y then y :: insR lt x r else x :: y :: r
def isortR (lt : α → α → Bool) (l : List α) : List α := l.foldl (fun r x => insR lt x r) []
def isort (lt : α → α → Bool) (l : List α) : List α := (isortR lt l).reverse
theorem insR_perm (lt : α → α → Bool) (x : α) : ∀ r : List α, (insR lt x r).Perm (x :: r)
  | [] => .refl _
  | y :: r => by
    unfold insR
    cases lt x y with
    | true => exact ((insR_perm lt x r).cons y).trans (.swap _ _ _)
    | false => exact .refl _
theorem isortR_perm_aux (lt : α → α → Bool) : ∀ (l r : List α), (l.foldl (fun r x => insR lt x r) r).Perm (l ++ r)
  | [], r => .refl _
  | x :: l, r => by
    simp only [List.foldl_cons, List.cons_append]
    refine (isortR_perm_aux lt l _).trans ?_
    exact ((insR_perm lt x r).append_left l).trans (List.perm_middle)
theorem isortR_perm (lt : α → α → Bool) (l : List α) : (isortR lt l).Perm l := by
  have := isortR_perm_aux lt l []
  rwa [List.append_nil] at this
theorem isort_perm (lt : α → α → Bool) (l : List α) : (isort lt l).Perm l := (List.reverse_perm _).trans (isortR_perm lt l)
theorem isort_len (lt : α → α → Bool) (l : List α) : (isort lt l).length = l.length := (isort_perm lt l).length_eq
theorem isort_mem {lt : α → α → Bool} {l : List α} {x : α} : x ∈ isort lt l ↔ x ∈ l := (isort_perm lt l).mem_iff
theorem isortR_len (lt : α → α → Bool) (l : List α) : (isortR lt l).length = l.length := (isortR_perm lt l).length_eq
/-- The order's laws that sorting asks for. -/
structure Weak (lt : α → α → Bool) : Prop where
  asym : ∀ a b, lt a b = true → lt b a = false
  ntrans : ∀ a b c, lt b a = false → lt c b = false → lt c a = false
theorem insR_sorted {lt : α → α → Bool} (w : Weak lt) (x : α) : ∀ r : List α, r.Pairwise (fun a b => lt a b = false) → (insR lt x r).Pairwise (fun a b => lt a b = false)
  | [], _ => by simp [insR]
  | y :: r, h => by
    unfold insR
    rw [List.pairwise_cons] at h
    cases hxy : lt x y with
    | true =>
      rw [cond_true, List.pairwise_cons]
      refine ⟨fun z hz => ?_, insR_sorted w x r h.2⟩
      rcases List.mem_cons.1 ((insR_perm lt x r).mem_iff.1 hz) with rfl | hz
      · exact w.asym _ _ hxy
      · exact h.1 z hz
    | false =>
      rw [cond_false, List.pairwise_cons, List.pairwise_cons]
      refine ⟨fun z hz => ?_, h⟩
      rcases List.mem_cons.1 hz with rfl | hz
      · exact hxy
      · exact w.ntrans _ _ _ (h.1 z hz) hxy
theorem isortR_sorted_aux {lt : α → α → Bool} (w : Weak lt) : ∀ (l r : List α), r.Pairwise (fun a b => lt a b = false) → (l.foldl (fun r x => insR lt x r) r).Pairwise (fun a b => lt a b = false)
  | [], r, h => h
  | x :: l, r, h => isortR_sorted_aux w l _ (insR_sorted w x r h)
theorem isort_sorted {lt : α → α → Bool} (w : Weak lt) (l : List α) : (isort lt l).Pairwise (fun a b => lt b a = false) := by
  unfold isort
  rw [List.pairwise_reverse]
  exact isortR_sorted_aux w l [] .nil
theorem isortR_take_succ (lt : α → α → Bool) (l : List α) (k : Nat) (hk : k < l.length) : isortR lt (l.take (k + 1)) = insR lt l[k] (isortR lt (l.take k)) := by
  rw [List.take_succ_eq_append_getElem hk]; unfold isortR; rw [List.foldl_append]; rfl
theorem map_insR {β : Type} (f : α → β) {lt : α → α → Bool} {lt' : β → β → Bool} (h : ∀ a b, lt' (f a) (f b) = lt a b) (x : α) : ∀ r : List α, insR lt' (f x) (r.map f) = (insR lt x r).map f
  | [] => rfl
  | y :: r => by
    simp only [List.map_cons, insR, h]
    cases lt x y with
    | true => simp only [cond_true, List.map_cons, map_insR f h x r]
    | false => rfl
theorem insR_split (lt : α → α → Bool) (x : α) (A : List α) : ∀ B : List α, (∀ b ∈ B, lt x b = true) → insR lt x (B ++ A) = B ++ insR lt x A
  | [], _ => rfl
  | b :: B, h => by
    simp only [List.cons_append, insR, h b (by simp), cond_true]
    rw [insR_split lt x A B (fun b hb => h b (by simp [hb]))]
theorem ins_get (A C : List α) (x : α) : (A.reverse ++ x :: C)[A.length]? = some x := by
  rw [List.getElem?_append_right (by simp)]; simp
theorem ins_get1 (A C : List α) (x y : α) : ((y :: A).reverse ++ x :: C)[A.length]? = some y := by
  rw [List.getElem?_append_left (by simp)]; simp
theorem ins_swap (A C : List α) (x y : α) : (((y :: A).reverse ++ x :: C).set (A.length + 1) y).set A.length x = A.reverse ++ x :: y :: C := by
  have e : (y :: A).reverse ++ x :: C = A.reverse ++ y :: x :: C := by simp
  rw [e, List.set_append_right _ _ (by simp), List.length_reverse, Nat.add_sub_cancel_left, List.set_append_right _ _ (by simp), List.length_reverse, Nat.sub_self]
  rfl
/-- Where a value comes to rest. -/
theorem ins_done (lt : α → α → Bool) (x : α) (A B : List α) (hB : ∀ b ∈ B, lt x b = true) (hA : ∀ y r, A = y :: r → lt x y = false) : insR lt x (B ++ A) = B ++ x :: A := by
  rw [insR_split lt x A B hB]
  cases A with
  | nil => rfl
  | cons y r => simp only [insR, hA y r rfl, cond_false]
theorem isort_map {β : Type} (f : α → β) {lt : α → α → Bool} {lt' : β → β → Bool} (h : ∀ a b, lt' (f a) (f b) = lt a b) (l : List α) : isort lt' (l.map f) = (isort lt l).map f := by
  have key : ∀ (l r : List α), (l.map f).foldl (fun r x => insR lt' x r) (r.map f) = (l.foldl (fun r x => insR lt x r) r).map f := by
    intro l
    induction l with
    | nil => intro r; rfl
    | cons x l ih => intro r; simp only [List.map_cons, List.foldl_cons, map_insR f h, ih]
  unfold isort isortR
  have := key l []
  simp only [List.map_nil] at this
  rw [this, List.map_reverse]
end Go.Am
namespace Go.Am
variable {α : Type}
/-- What is alike the one before is left out. -/
def cmpctFrom (q : α → α → Bool) (prev : α) : List α → List α
  | [] => []
  | x :: r => bif q x prev then cmpctFrom q x r else x :: cmpctFrom q x r
def compactL (q : α → α → Bool) : List α → List α
  | [] => []
  | x :: r => x :: cmpctFrom q x r
theorem cmpctFrom_len (q : α → α → Bool) : ∀ (l : List α) (p : α), (cmpctFrom q p l).length ≤ l.length
  | [], _ => Nat.le_refl _
  | x :: r, p => by
    unfold cmpctFrom
    have := cmpctFrom_len q r x
    cases q x p with
    | true => simp only [cond_true, List.length_cons]; omega
    | false => simp only [cond_false, List.length_cons]; omega
theorem compactL_len (q : α → α → Bool) (l : List α) : (compactL q l).length ≤ l.length := by
  cases l with
  | nil => exact Nat.le_refl _
  | cons x r => have := cmpctFrom_len q r x; simp only [compactL, List.length_cons]; omega
theorem cmpctFrom_mem (q : α → α → Bool) : ∀ (l : List α) (p : α), ∀ x ∈ cmpctFrom q p l, x ∈ l
  | [], _, x, h => h
  | y :: r, p, x, h => by
    unfold cmpctFrom at h
    cases hq : q y p with
    | true => rw [hq] at h; exact List.mem_cons_of_mem _ (cmpctFrom_mem q r y x h)
    | false =>
      rw [hq] at h
      rcases List.mem_cons.1 h with rfl | h
      · simp
      · exact List.mem_cons_of_mem _ (cmpctFrom_mem q r y x h)
theorem compactL_mem {q : α → α → Bool} {l : List α} {x : α} (h : x ∈ compactL q l) : x ∈ l := by
  cases l with
  | nil => exact h
  | cons y r =>
    rcases List.mem_cons.1 h with rfl | h
    · simp
    · exact List.mem_cons_of_mem _ (cmpctFrom_mem q r y x h)
theorem cmpctFrom_snoc (q : α → α → Bool) (z : α) : ∀ (l : List α) (p : α), cmpctFrom q p (l ++ [z]) = cmpctFrom q p l ++ (bif q z ((p :: l).getLast (by simp)) then [] else [z])
  | [], p => by simp only [List.nil_append, cmpctFrom, List.getLast_singleton]
  | x :: r, p => by
    simp only [List.cons_append, cmpctFrom, cmpctFrom_snoc q z r x]
    have e : (p :: x :: r).getLast (by simp) = (x :: r).getLast (by simp) := List.getLast_cons (by simp)
    rw [e]
    cases q x p <;> rfl
theorem compactL_take_succ (q : α → α → Bool) (l : List α) (k : Nat) (hk : k + 1 < l.length) : compactL q (l.take (k + 1 + 1)) = compactL q (l.take (k + 1)) ++ (bif q l[k + 1] l[k] then [] else [l[k + 1]]) := by
  rw [List.take_succ_eq_append_getElem hk]
  cases l with
  | nil => simp at hk
  | cons x r =>
    simp only [List.take_succ_cons, List.cons_append, compactL, cmpctFrom_snoc]
    have e : (x :: r.take k).getLast (by simp) = (x :: r)[k] := by
      have : x :: r.take k = (x :: r).take (k + 1) := rfl
      simp only [this]
      rw [List.getLast_eq_getElem]
      simp only [List.getElem_take]
      congr 1
      simp only [List.length_take, List.length_cons] at hk ⊢
      omega
    rw [e]
theorem compactL_map {β : Type} (f : α → β) {q : α → α → Bool} {q' : β → β → Bool} (h : ∀ a b, q' (f a) (f b) = q a b) (l : List α) : compactL q' (l.map f) = (compactL q l).map f := by
  have key : ∀ (l : List α) (p : α), cmpctFrom q' (f p) (l.map f) = (cmpctFrom q p l).map f := by
    intro l
    induction l with
    | nil => intro p; rfl
    | cons x r ih =>
      intro p
      simp only [List.map_cons, cmpctFrom, h, ih]
      cases q x p <;> rfl
  cases l with
  | nil => rfl
  | cons x r => simp only [List.map_cons, compactL, key]
end Go.Am
end
section
/- Values of a shape: loads and stores in rows. -/
open Go
namespace Go.Am
variable {h : Heap} {K : Post}
theorem shp_cut {sh : Sh} {x : PV} (hx : x.shp sh = true) : cutP sh 0 x = some x := by
  cases sh with
  | none => exact cutP_sc hx
  | some n =>
    cases x with
    | agg cs =>
      simp only [PV.shp, Bool.and_eq_true, beq_iff_eq] at hx
      simp [cutP, hx.1]
      exact List.take_of_length_le (by omega)
    | _ => cases hx
theorem shp_len {sh : Sh} {x : PV} (hx : x.shp sh = true) : x.cells.length = shSize sh := by
  cases sh with
  | none => cases x <;> first | rfl | cases hx
  | some n =>
    cases x with
    | agg cs => simp only [PV.shp, Bool.and_eq_true, beq_iff_eq] at hx; exact hx.1
    | _ => cases hx
theorem shp_all {sh : Sh} {x : PV} (hx : x.shp sh = true) : x.cells.all PV.sc = true := by
  cases sh with
  | none => cases x <;> first | rfl | cases hx
  | some n =>
    cases x with
    | agg cs => simp only [PV.shp, Bool.and_eq_true, beq_iff_eq] at hx; exact hx.2
    | _ => cases hx
theorem shp_st {sh : Sh} {x y : PV} (hx : x.shp sh = true) (hy : y.shp sh = true) (id i fz : Nat) (xs : List PV) (h1 : Heap) : stE sh id i 0 fz sh xs x h1 (some y) = some (.und, h1.set id (.row sh (xs.set i x) fz), []) := by
  cases sh with
  | none =>
    cases y with
    | agg cs => cases hy
    | _ => simp only [PV.shp] at hx; simp [stE, hx]
  | some n =>
    cases y with
    | agg cs =>
      cases x with
      | agg ds =>
        simp only [PV.shp, Bool.and_eq_true, beq_iff_eq] at hx hy
        simp [stE, PV.cells, splice, hx.1, hy.1, show cs.drop n = [] from List.drop_of_length_le (by omega)]
      | _ => cases hx
    | _ => cases hy
def shps (sh : Sh) (xs : List PV) : Prop := ∀ x ∈ xs, x.shp sh = true
theorem shps_get {sh : Sh} {xs : List PV} (hx : shps sh xs) {i : Nat} (hi : i < xs.length) : xs[i].shp sh = true := hx _ (List.getElem_mem hi)
theorem set_self {h : Heap} {id : Nat} {o : Obj} (hh : h[id]? = some o) : h.set id o = h := by
  apply List.ext_getElem?
  intro i
  rw [List.getElem?_set]
  split
  · rename_i e; subst e; rw [hh]; simp [get_lt hh]
  · rfl
/-- A comparison of values that is told by whole numbers, whatever lies in a row. -/
def Cmps (g : Nat) (caps : List AV) (c : PV → PV → Int) (xs : List PV) (id : Nat) (h : Heap) : Prop := ∀ (o : Obj) (x : PV), x ∈ xs → ∀ y, y ∈ xs → ∀ K : Post, ACall X g (.p x :: .p y :: caps) (h.set id o) K = K (AI (c x y)) (h.set id o) []
def ltC (c : PV → PV → Int) (a b : PV) : Bool := decide (c a b < 0)
/-- A value that shows a list. -/
structure Shows (sh : Sh) (v : AV) (xs : List PV) (h : Heap) : Prop where
  len : oLen v = some (AI xs.length)
  get : ∀ (k : Nat) (hk : k < xs.length), ∃ a, oIaddr sh v (AI k) h = some a ∧ oLoad sh a h = some (.p xs[k])
theorem shows_sl {sh : Sh} {xs : List PV} (hs : shps sh xs) : Shows sh (.p (.sl sh xs)) xs h := by
  refine ⟨rfl, fun k hk => ⟨.vp xs[k], ?_, ?_⟩⟩
  · simp [oIaddr, natOf, hk]
  · simp only [load_vp, shp_cut (shps_get hs hk)]; rfl
theorem shows_own {sh : Sh} {id off len fz : Nat} {xs : List PV} (hs : shps sh xs) (hh : h[id]? = some (.row sh xs fz)) (hl : off + len ≤ xs.length) : Shows sh (.own id xs.length off len) (win xs off len) h := by
  have hw : (win xs off len).length = len := by simp [win]; omega
  refine ⟨by rw [hw]; rfl, fun k hk => ⟨.rref id xs.length (off + k) 0, ?_, ?_⟩⟩
  · rw [hw] at hk
    simp [oIaddr, natOf, hh, hl, hk]
  · have hk' : off + k < xs.length := by rw [hw] at hk; omega
    have e : (win xs off len)[k] = xs[off + k] := by simp [win]
    rw [e]
    simp only [load_rref, hh, ldR_row, if_true, List.getElem?_eq_getElem hk', Option.bind_some, shp_cut (shps_get hs hk'), Option.map_some]
theorem shows_full {sh : Sh} {id fz : Nat} {xs : List PV} (hs : shps sh xs) (hh : h[id]? = some (.row sh xs fz)) : Shows sh (.own id xs.length 0 xs.length) xs h := by
  have := shows_own hs hh (off := 0) (len := xs.length) (by omega)
  rwa [win_all] at this
/-- A function value that tells of two values whether they are alike, whatever lies in a row. -/
def Alikes (g : Nat) (caps : List AV) (q : PV → PV → Bool) (xs : List PV) (id : Nat) (h : Heap) : Prop := ∀ (o : Obj) (x : PV), x ∈ xs → ∀ y, y ∈ xs → ∀ K : Post, ACall X g (.p x :: .p y :: caps) (h.set id o) K = K (AB (q x y)) (h.set id o) []
end Go.Am
end
section
/- Strings: keys, the library's functions without text. -/
open Go
set_option linter.unusedSimpArgs false
namespace Go.Am
variable {h : Heap} {K : Post}
abbrev AS (s : List UInt8) : AV := .p (.str s)
theorem X_ext : X.ext = extF f_internal_bytealg_IndexByteString f_internal_bytealg_abigen_runtime_cmpstring := rfl
theorem s_idxExt (s : List UInt8) (c : UInt8) : ACall X f_internal_bytealg_IndexByteString [AS s, .p (.int .u8 c.toNat)] h K = K (AI (idxB s c)) h [] := by
  have := ext_call (X := X) (f := f_internal_bytealg_IndexByteString) (as := [AS s, .p (.int .u8 c.toNat)]) (vs := [.str s, .int .u8 c.toNat]) (h := h) (h1 := h) (r := .int .i64 (idxB s c)) (K := K) (by kernel_rfl) rfl rfl rfl ?_
  · exact this
  · rw [X_ext]
    unfold extF
    rw [show Nat.beq f_internal_bytealg_IndexByteString f_internal_bytealg_IndexByteString = true from by kernel_rfl]
    simp
theorem s_cmpExt (a b : List UInt8) : ACall X f_internal_bytealg_abigen_runtime_cmpstring [AS a, AS b] h K = K (AI (cmpL a b)) h [] := by
  have := ext_call (X := X) (f := f_internal_bytealg_abigen_runtime_cmpstring) (as := [AS a, AS b]) (vs := [.str a, .str b]) (h := h) (h1 := h) (r := .int .i64 (cmpL a b)) (K := K) (by kernel_rfl) rfl rfl rfl ?_
  · exact this
  · rw [X_ext]
    unfold extF
    rw [show Nat.beq f_internal_bytealg_abigen_runtime_cmpstring f_internal_bytealg_IndexByteString = false from by kernel_rfl, show Nat.beq f_internal_bytealg_abigen_runtime_cmpstring f_internal_bytealg_abigen_runtime_cmpstring = true from by kernel_rfl]
    rfl
theorem s_strCompare (a b : List UInt8) : ACall X f_strings_Compare [AS a, AS b] h K = K (AI (cmpL a b)) h [] := by
  have key : ∀ (h : Heap) (K : Post), ACall X f_internal_bytealg_CompareString [AS a, AS b] h K = K (AI (cmpL a b)) h [] := by
    intro h K
    refine rule ?_
    rw [c_internal_bytealg_CompareString rfl]
    simp only [d_internal_bytealg_CompareString, go_sem, s_cmpExt]
  refine rule ?_
  rw [c_strings_Compare rfl]
  simp only [d_strings_Compare, go_sem, key]
theorem s_IndexByte (s : List UInt8) (c : UInt8) : ACall X f_strings_IndexByte [AS s, .p (.int .u8 c.toNat)] h K = K (AI (idxB s c)) h [] := by
  have key : ∀ (h : Heap) (K : Post), ACall X f_internal_stringslite_IndexByte [AS s, .p (.int .u8 c.toNat)] h K = K (AI (idxB s c)) h [] := by
    intro h K
    refine rule ?_
    rw [c_internal_stringslite_IndexByte rfl]
    simp only [d_internal_stringslite_IndexByte, go_sem, s_idxExt]
  refine rule ?_
  rw [c_strings_IndexByte rfl]
  simp only [d_strings_IndexByte, go_sem, key]
theorem cmpL_eq : ∀ {a b : List UInt8}, cmpL a b = 0 → a = b
  | [], [], _ => rfl
  | [], _ :: _, h => by simp [cmpL] at h
  | _ :: _, [], h => by simp [cmpL] at h
  | x :: a, y :: b, h => by
    simp only [cmpL] at h
    split at h
    · cases h
    · split at h
      · cases h
      · rename_i h1 h2
        have : x = y := UInt8.le_antisymm (UInt8.not_lt.1 h2) (UInt8.not_lt.1 h1)
        rw [this, cmpL_eq h]
theorem cmpL_neg : ∀ a b, cmpL b a = - cmpL a b
  | [], [] => rfl
  | [], _ :: _ => rfl
  | _ :: _, [] => rfl
  | x :: a, y :: b => by
    simp only [cmpL]
    by_cases h1 : x < y
    · have h2 : ¬ y < x := UInt8.lt_asymm h1
      simp [h1, h2]
    · by_cases h2 : y < x
      · simp [h1, h2]
      · simp [h1, h2, cmpL_neg a b]
theorem cmpL_trans : ∀ {a b c : List UInt8}, cmpL a b < 0 → cmpL b c < 0 → cmpL a c < 0
  | [], [], _, h, _ => by simp [cmpL] at h
  | [], _ :: _, [], _, h => by simp [cmpL] at h
  | [], _ :: _, _ :: _, _, _ => by simp [cmpL]
  | _ :: _, [], _, h, _ => by simp [cmpL] at h
  | _ :: _, _ :: _, [], _, h => by simp [cmpL] at h
  | x :: a, y :: b, z :: c, h1, h2 => by
    simp only [cmpL] at h1 h2 ⊢
    by_cases hxy : x < y
    · by_cases hyz : y < z
      · simp [UInt8.lt_trans hxy hyz]
      · by_cases hzy : z < y
        · simp [hyz, hzy] at h2
        · have : y = z := UInt8.le_antisymm (UInt8.not_lt.1 hzy) (UInt8.not_lt.1 hyz)
          subst this; simp [hxy]
    · by_cases hyx : y < x
      · simp [hxy, hyx] at h1
      · have : x = y := UInt8.le_antisymm (UInt8.not_lt.1 hyx) (UInt8.not_lt.1 hxy)
        subst this
        simp only [UInt8.lt_irrefl, if_false] at h1
        by_cases hyz : x < z
        · simp [hyz]
        · by_cases hzy : z < x
          · simp [hyz, hzy] at h2
          · simp only [hyz, hzy, if_false] at h2 ⊢
            exact cmpL_trans h1 h2
/-! ### keys -/
def keyCh (c : UInt8) : Bool := decide ((97 : Int) ≤ c.toNat) && decide ((c.toNat : Int) ≤ 122) || decide ((48 : Int) ≤ c.toNat) && decide ((c.toNat : Int) ≤ 57) || decide ((c.toNat : Int) = 45) || decide ((c.toNat : Int) = 95)
def keyB (s : List UInt8) : Bool := match s with
  | [] => false
  | c :: r => decide (r.length < 40) && (decide ((97 : Int) ≤ c.toNat) && decide ((c.toNat : Int) ≤ 122)) && (c :: r).all keyCh
theorem s_Key (s : List UInt8) (hl : s.length ≤ 1000000000) : ACall X f_base_Key [AS s] h K = K (AB (keyB s)) h [] := by
  refine rule ?_
  rw [c_base_Key rfl]
  cases s with
  | nil => simp only [d_base_Key, go_sem, keyB]
  | cons c r =>
    have n0 : ((c :: r) = []) = False := by simp
    have e1 : (((r.length + 1 : Nat) : Int) ≤ 40) = (r.length < 40) := by simp only [eq_iff_iff]; omega
    by_cases h1 : (40 : Int) < ((r.length + 1 : Nat) : Int)
    · have : ¬ r.length < 40 := by omega
      simp only [d_base_Key, go_sem, n0, h1, keyB, this]
    have h1' : r.length < 40 := by omega
    by_cases h2 : (c.toNat : Int) < 97
    · have : ¬ (97 : Int) ≤ c.toNat := by omega
      simp only [d_base_Key, go_sem, n0, h1, h2, keyB, this, h1']
    have h2' : (97 : Int) ≤ c.toNat := by omega
    by_cases h3 : (122 : Int) < c.toNat
    · have : ¬ (c.toNat : Int) ≤ 122 := by omega
      simp only [d_base_Key, go_sem, n0, h1, h2, h3, keyB, this, h1', h2']
    have h3' : (c.toNat : Int) ≤ 122 := by omega
    have ek : keyB (c :: r) = (c :: r).all keyCh := by simp [keyB, h1', h2', h3']
    rw [ek]
    generalize hB : (c :: r).all keyCh = B
    simp only [d_base_Key, go_sem, n0, h1, h2, h3]
    have hlen : (c :: r).length = r.length + 1 := rfl
    rw [← hlen]
    generalize c :: r = s at *
    refine N_loop (fun k : Nat => ⟨[(0, AS s), (23, AI s.length), (24, AI k)], h, []⟩) (fun k => k ≤ s.length ∧ (s.take k).all keyCh = true) (fun k => s.length - k) 0 rfl ⟨by omega, rfl⟩ ?_
    rintro k ⟨hk, hp⟩
    rcases Nat.lt_or_ge k s.length with hlt | hge
    · have hg : s[k]? = some s[k] := List.getElem?_eq_getElem hlt
      have w2 : IntKind.i64.wrap ((k : Int) + 1) = ((k + 1 : Nat) : Int) := i64_wrap _ (by omega) (by omega)
      generalize hc : s[k] = c at *
      have key : (decide ((97 : Int) ≤ c.toNat) && decide ((c.toNat : Int) ≤ 122) || decide ((48 : Int) ≤ c.toNat) && decide ((c.toNat : Int) ≤ 57) || decide ((c.toNat : Int) = 45) || decide ((c.toNat : Int) = 95)) = keyCh c := rfl
      cases hkc : keyCh c with
      | true =>
        rw [hkc] at key
        have hn : (s.take (k + 1)).all keyCh = true := by rw [List.take_succ_eq_append_getElem hlt, List.all_append, hp, hc]; simp [hkc]
        by_cases b1 : (97 : Int) ≤ c.toNat <;> by_cases b2 : (c.toNat : Int) ≤ 122 <;> by_cases b3 : (48 : Int) ≤ c.toNat <;> by_cases b4 : (c.toNat : Int) ≤ 57 <;> by_cases b5 : (c.toNat : Int) = 45 <;> by_cases b6 : (c.toNat : Int) = 95
        all_goals first
          | (simp only [b1, b2, b3, b4, b5, b6, decide_true, decide_false, Bool.and_self, Bool.and_true, Bool.and_false, Bool.or_self, Bool.or_true, Bool.or_false, Bool.true_or, Bool.false_or, Bool.false_and, reduceCtorEq] at key; done)
          | (exfalso; omega)
          | (simp only [go_sem, hlt, hg, w2, b1, b2, b3, b4, b5, b6]
             exact ⟨k + 1, rfl, ⟨by omega, hn⟩, by omega⟩)
      | false =>
        rw [hkc] at key
        have hn : s.all keyCh = false := by rw [List.all_eq_false]; exact ⟨_, List.getElem_mem hlt, by rw [hc, hkc]; simp⟩
        rw [hn] at hB
        subst hB
        by_cases b1 : (97 : Int) ≤ c.toNat <;> by_cases b2 : (c.toNat : Int) ≤ 122 <;> by_cases b3 : (48 : Int) ≤ c.toNat <;> by_cases b4 : (c.toNat : Int) ≤ 57 <;> by_cases b5 : (c.toNat : Int) = 45 <;> by_cases b6 : (c.toNat : Int) = 95
        all_goals first
          | (simp only [b1, b2, b3, b4, b5, b6, decide_true, decide_false, Bool.and_self, Bool.and_true, Bool.and_false, Bool.or_self, Bool.or_true, Bool.or_false, Bool.true_or, Bool.false_or, Bool.false_and, reduceCtorEq] at key; done)
          | (exfalso; omega)
          | (simp only [go_sem, hlt, hg, b1, b2, b3, b4, b5, b6])
    · have ek : k = s.length := by omega
      subst ek
      rw [List.take_length, hB] at hp
      subst hp
      simp only [go_sem, Nat.lt_irrefl]
theorem idxB_neg (s : List UInt8) (c : UInt8) : decide (idxB s c < 0) = !s.contains c := by
  unfold idxB
  rw [Bool.eq_iff_iff]
  by_cases hf : s.findIdx (· == c) < s.length
  · rw [if_pos hf]
    have := List.findIdx_getElem (w := hf)
    simp only [beq_iff_eq] at this
    have hm : c ∈ s := by rw [← this]; exact List.getElem_mem hf
    simp [hm]
  · rw [if_neg hf]
    have hm : ¬ c ∈ s := fun hm => hf (List.findIdx_lt_length_of_exists ⟨c, hm, by simp⟩)
    simp [hm]
theorem s_only (s t : List UInt8) (hl : s.length ≤ 1000000000) : ACall X f_scanref2_only [AS s, AS t] h K = K (AB (s.all fun c => t.contains c)) h [] := by
  refine rule ?_
  rw [c_scanref2_only rfl]
  simp only [d_scanref2_only, go_sem]
  refine N_loop (fun k : Nat => ⟨[(0, AS s), (1, AS t), (7, AI s.length), (8, AI k)], h, []⟩) (fun k => k ≤ s.length ∧ (s.take k).all (fun c => t.contains c) = true) (fun k => s.length - k) 0 rfl ⟨by omega, rfl⟩ ?_
  rintro k ⟨hk, hp⟩
  rcases Nat.lt_or_ge k s.length with hlt | hge
  · have hg : s[k]? = some s[k] := List.getElem?_eq_getElem hlt
    have w2 : IntKind.i64.wrap ((k : Int) + 1) = ((k + 1 : Nat) : Int) := i64_wrap _ (by omega) (by omega)
    have hi := idxB_neg t s[k]
    by_cases hc : idxB t s[k] < 0
    · have : s.all (fun c => t.contains c) = false := by
        rw [List.all_eq_false]
        refine ⟨_, List.getElem_mem hlt, ?_⟩
        rw [decide_eq_true hc] at hi
        cases hq : t.contains s[k] with
        | true => rw [hq] at hi; cases hi
        | false => simp
      simp only [go_sem, hlt, hg, s_IndexByte, hc, this]
    · rw [decide_eq_false hc] at hi
      have hq : t.contains s[k] = true := by cases hq : t.contains s[k] with | true => rfl | false => rw [hq] at hi; cases hi
      simp only [go_sem, hlt, hg, s_IndexByte, hc, w2]
      exact ⟨k + 1, rfl, ⟨by omega, by rw [List.take_succ_eq_append_getElem hlt, List.all_append, hp]; simp only [List.all_cons, List.all_nil, hq]; rfl⟩, by omega⟩
  · have ek : k = s.length := by omega
    subst ek
    rw [List.take_length] at hp
    simp only [go_sem, Nat.lt_irrefl, hp]
def smallsL : List UInt8 := [97, 98, 99, 100, 101, 102, 103, 104, 105, 106, 107, 108, 109, 110, 111, 112, 113, 114, 115, 116, 117, 118, 119, 120, 121, 122]
def keysL : List UInt8 := [97, 98, 99, 100, 101, 102, 103, 104, 105, 106, 107, 108, 109, 110, 111, 112, 113, 114, 115, 116, 117, 118, 119, 120, 121, 122, 48, 49, 50, 51, 52, 53, 54, 55, 56, 57, 45, 95]
theorem u8_all {p : UInt8 → Bool} (h : ((List.range 256).all fun n => p (UInt8.ofNat n)) = true) (c : UInt8) : p c = true := by
  have := List.all_eq_true.1 h c.toNat (by simp; exact c.toNat_lt)
  rwa [UInt8.ofNat_toNat] at this
theorem smalls_iff (c : UInt8) : smallsL.contains c = (decide ((97 : Int) ≤ c.toNat) && decide ((c.toNat : Int) ≤ 122)) := by
  have := u8_all (p := fun c => smallsL.contains c == (decide ((97 : Int) ≤ c.toNat) && decide ((c.toNat : Int) ≤ 122))) (by kernel_rfl) c
  simpa using this
theorem keys_iff (c : UInt8) : keysL.contains c = keyCh c := by
  have := u8_all (p := fun c => keysL.contains c == keyCh c) (by kernel_rfl) c
  simpa using this
theorem s_refKey (s : List UInt8) (hl : s.length ≤ 1000000000) : ACall X f_scanref2_Key [AS s] h K = K (AB (keyB s)) h [] := by
  refine rule ?_
  rw [c_scanref2_Key rfl]
  have o1 := fun h K => s_only (h := h) (K := K) s keysL hl
  have e2 : (s.all fun c => keysL.contains c) = s.all keyCh := by congr 1; funext c; exact keys_iff c
  rw [e2] at o1
  unfold keysL at o1
  cases s with
  | nil => simp only [d_scanref2_Key, go_sem, s_in, keyB]
  | cons c r =>
    have o2 := fun h K => s_only (h := h) (K := K) [c] smallsL (by simp)
    have e3 : ([c].all fun c => smallsL.contains c) = (decide ((97 : Int) ≤ c.toNat) && decide ((c.toNat : Int) ≤ 122)) := by simp only [List.all_cons, List.all_nil, Bool.and_true]; exact smalls_iff c
    rw [e3] at o2
    unfold smallsL at o2
    have q1 : (1 : Int) ≤ ((r.length + 1 : Nat) : Int) := by omega
    have q2 : 1 ≤ r.length + 1 := by omega
    by_cases h1 : r.length < 40
    · have h1' : ((r.length + 1 : Nat) : Int) ≤ 40 := by omega
      cases h2 : (decide ((97 : Int) ≤ c.toNat) && decide ((c.toNat : Int) ≤ 122)) with
      | true =>
        have ek : keyB (c :: r) = (c :: r).all keyCh := by
          simp only [keyB, h1, decide_true, Bool.true_and, h2]
        rw [ek]
        simp only [d_scanref2_Key, go_sem, s_in, h1', q1, q2, win, ↓o2, o2, h2, ↓o1, o1]
      | false =>
        have ek : keyB (c :: r) = false := by simp only [keyB, h1, decide_true, Bool.true_and, h2, Bool.false_and]
        rw [ek]
        simp only [d_scanref2_Key, go_sem, s_in, h1', q1, q2, win, ↓o2, o2, h2]
    · have h1' : ¬ ((r.length + 1 : Nat) : Int) ≤ 40 := by omega
      have ek : keyB (c :: r) = false := by simp only [keyB, h1, decide_false, Bool.false_and]
      rw [ek]
      simp only [d_scanref2_Key, go_sem, s_in, h1', q1]
end Go.Am
end
section
/- Finding values in lists: printed by program. -/
open Go
set_option linter.unusedSimpArgs false
namespace Go.Am
attribute [-go_sem] PV.cells
variable {h : Heap} {K : Post}
theorem IndexFunc_int {v : AV} {g : Nat} {caps : List AV} {p : PV → Bool} {xs : List PV} (hv : Shows none v xs h) (hp : Tells g caps p xs h) (hl : xs.length ≤ 1000000000) :
    ACall X f_slices_IndexFunc_int_int [v, .fn g caps] h K = K (AI (idxP p xs)) h [] := by
  refine rule ?_
  rw [c_slices_IndexFunc_int_int]
  have vl := hv.len
  simp only [d_slices_IndexFunc_int_int, go_sem, vl]
  refine N_loop (fun k : Nat => ⟨[(0, v), (1, .fn g caps), (7, AI xs.length), (8, AI k)], h, []⟩) (fun k => k ≤ xs.length ∧ ∀ x ∈ xs.take k, p x = false) (fun k => xs.length - k) 0 rfl (by simp) ?_
  rintro k ⟨hk, hn⟩
  rcases Nat.lt_or_ge k xs.length with hlt | hge
  · obtain ⟨a, ha, hb⟩ := hv.get k hlt
    have w2 : IntKind.i64.wrap ((k : Int) + 1) = ((k + 1 : Nat) : Int) := i64_wrap _ (by omega) (by omega)
    have ht := hp _ (List.getElem_mem hlt)
    cases hpk : p xs[k] with
    | true =>
      have hf : xs.findIdx p = k := by
        rw [List.findIdx_eq hlt]
        refine ⟨hpk, fun j hj => ?_⟩
        have := hn xs[j] (by rw [List.mem_take_iff_getElem]; exact ⟨j, by omega, rfl⟩)
        simpa using this
      simp only [go_sem, hlt, ha, hb, ht, hpk, w2]
      simp only [idxP, hf, hlt, if_true]
    | false =>
      simp only [go_sem, hlt, ha, hb, ht, hpk, w2]
      refine ⟨k + 1, rfl, ⟨by omega, fun x hx => ?_⟩, by omega⟩
      rw [List.take_succ_eq_append_getElem hlt, List.mem_append, List.mem_singleton] at hx
      rcases hx with hx | hx
      · exact hn x hx
      · rw [hx]; exact hpk
  · have e1 : k = xs.length := by omega
    subst e1
    simp only [go_sem, Nat.lt_irrefl]
    rw [List.take_length] at hn
    have : ¬ xs.findIdx p < xs.length := by
      rw [Nat.not_lt, Nat.le_iff_lt_or_eq]; right
      exact (List.findIdx_eq_length.2 (fun x hx => by simp [hn x hx])).symm
    simp [idxP, this]
theorem IndexFunc_Limit {v : AV} {g : Nat} {caps : List AV} {p : PV → Bool} {xs : List PV} (hv : Shows (some 4) v xs h) (hp : Tells g caps p xs h) (hl : xs.length ≤ 1000000000) :
    ACall X f_slices_IndexFunc_api_Limit_api_Limit [v, .fn g caps] h K = K (AI (idxP p xs)) h [] := by
  refine rule ?_
  rw [c_slices_IndexFunc_api_Limit_api_Limit]
  have vl := hv.len
  simp only [d_slices_IndexFunc_api_Limit_api_Limit, go_sem, vl]
  refine N_loop (fun k : Nat => ⟨[(0, v), (1, .fn g caps), (7, AI xs.length), (8, AI k)], h, []⟩) (fun k => k ≤ xs.length ∧ ∀ x ∈ xs.take k, p x = false) (fun k => xs.length - k) 0 rfl (by simp) ?_
  rintro k ⟨hk, hn⟩
  rcases Nat.lt_or_ge k xs.length with hlt | hge
  · obtain ⟨a, ha, hb⟩ := hv.get k hlt
    have w2 : IntKind.i64.wrap ((k : Int) + 1) = ((k + 1 : Nat) : Int) := i64_wrap _ (by omega) (by omega)
    have ht := hp _ (List.getElem_mem hlt)
    cases hpk : p xs[k] with
    | true =>
      have hf : xs.findIdx p = k := by
        rw [List.findIdx_eq hlt]
        refine ⟨hpk, fun j hj => ?_⟩
        have := hn xs[j] (by rw [List.mem_take_iff_getElem]; exact ⟨j, by omega, rfl⟩)
        simpa using this
      simp only [go_sem, hlt, ha, hb, ht, hpk, w2]
      simp only [idxP, hf, hlt, if_true]
    | false =>
      simp only [go_sem, hlt, ha, hb, ht, hpk, w2]
      refine ⟨k + 1, rfl, ⟨by omega, fun x hx => ?_⟩, by omega⟩
      rw [List.take_succ_eq_append_getElem hlt, List.mem_append, List.mem_singleton] at hx
      rcases hx with hx | hx
      · exact hn x hx
      · rw [hx]; exact hpk
  · have e1 : k = xs.length := by omega
    subst e1
    simp only [go_sem, Nat.lt_irrefl]
    rw [List.take_length] at hn
    have : ¬ xs.findIdx p < xs.length := by
      rw [Nat.not_lt, Nat.le_iff_lt_or_eq]; right
      exact (List.findIdx_eq_length.2 (fun x hx => by simp [hn x hx])).symm
    simp [idxP, this]
theorem IndexFunc_Record {v : AV} {g : Nat} {caps : List AV} {p : PV → Bool} {xs : List PV} (hv : Shows (some 4) v xs h) (hp : Tells g caps p xs h) (hl : xs.length ≤ 1000000000) :
    ACall X f_slices_IndexFunc_api_Record_api_Record [v, .fn g caps] h K = K (AI (idxP p xs)) h [] := by
  refine rule ?_
  rw [c_slices_IndexFunc_api_Record_api_Record]
  have vl := hv.len
  simp only [d_slices_IndexFunc_api_Record_api_Record, go_sem, vl]
  refine N_loop (fun k : Nat => ⟨[(0, v), (1, .fn g caps), (7, AI xs.length), (8, AI k)], h, []⟩) (fun k => k ≤ xs.length ∧ ∀ x ∈ xs.take k, p x = false) (fun k => xs.length - k) 0 rfl (by simp) ?_
  rintro k ⟨hk, hn⟩
  rcases Nat.lt_or_ge k xs.length with hlt | hge
  · obtain ⟨a, ha, hb⟩ := hv.get k hlt
    have w2 : IntKind.i64.wrap ((k : Int) + 1) = ((k + 1 : Nat) : Int) := i64_wrap _ (by omega) (by omega)
    have ht := hp _ (List.getElem_mem hlt)
    cases hpk : p xs[k] with
    | true =>
      have hf : xs.findIdx p = k := by
        rw [List.findIdx_eq hlt]
        refine ⟨hpk, fun j hj => ?_⟩
        have := hn xs[j] (by rw [List.mem_take_iff_getElem]; exact ⟨j, by omega, rfl⟩)
        simpa using this
      simp only [go_sem, hlt, ha, hb, ht, hpk, w2]
      simp only [idxP, hf, hlt, if_true]
    | false =>
      simp only [go_sem, hlt, ha, hb, ht, hpk, w2]
      refine ⟨k + 1, rfl, ⟨by omega, fun x hx => ?_⟩, by omega⟩
      rw [List.take_succ_eq_append_getElem hlt, List.mem_append, List.mem_singleton] at hx
      rcases hx with hx | hx
      · exact hn x hx
      · rw [hx]; exact hpk
  · have e1 : k = xs.length := by omega
    subst e1
    simp only [go_sem, Nat.lt_irrefl]
    rw [List.take_length] at hn
    have : ¬ xs.findIdx p < xs.length := by
      rw [Nat.not_lt, Nat.le_iff_lt_or_eq]; right
      exact (List.findIdx_eq_length.2 (fun x hx => by simp [hn x hx])).symm
    simp [idxP, this]
theorem ContainsFunc_int {g : Nat} {caps : List AV} {p : PV → Bool} {xs : List PV} (hp : Tells g caps p xs h) (hs : shps none xs) (hl : xs.length ≤ 1000000000) :
    ACall X f_slices_ContainsFunc_int_int [.p (.sl none xs), .fn g caps] h K = K (AB (xs.any p)) h [] := by
  refine rule ?_
  rw [c_slices_ContainsFunc_int_int]
  have vi := fun K => IndexFunc_int (h := h) (K := K) (shows_sl hs) hp hl
  simp only [d_slices_ContainsFunc_int_int, go_sem, vi, idxP_any]
end Go.Am
end
section
/- Limits: what they are, what is wrong with them. -/
open Go
namespace Go.Am
variable {h : Heap} {K : Post}
structure Lim where
  key : List UInt8
  lo : Int
  hi : Int
  bin : Int
def Lim.pv (x : Lim) : PV := .agg [.str x.key, eI x.lo, eI x.hi, eI x.bin]
abbrev ALim (l : List Lim) : AV := .p (.sl (some 4) (l.map Lim.pv))
theorem lim_shps {l : List Lim} : shps (some 4) (l.map Lim.pv) := fun x hx => by obtain ⟨n, _, rfl⟩ := List.mem_map.1 hx; rfl
def keyIs (key : List UInt8) : PV → Bool
  | .agg (.str k :: _) => decide (k = key)
  | _ => false
def findK (l : List Lim) (key : List UInt8) : Int := idxP (keyIs key) (l.map Lim.pv)
def inB (a n b : Int) : Bool := decide (a ≤ n) && decide (n ≤ b)
theorem s_OutB (n a b : Int) : ACall X f_base_Out [AI n, AI a, AI b] h K = K (AB (!inB a n b)) h [] := by rw [s_Out, out_eq]; rfl
theorem s_inB (n a b : Int) : ACall X f_scanref2_in [AI n, AI a, AI b] h K = K (AB (inB a n b)) h [] := s_in n a b
def limBad (x : Lim) : Bool := !inB (-100000) x.lo x.hi || decide (100000 < x.hi) || !inB 2 x.bin 100
def limsFaultFrom (pre : List Lim) : List Lim → Int
  | [] => 0
  | x :: r => if keyB x.key = false then 5 else if 0 ≤ findK pre x.key then 6 else if limBad x then 1 else limsFaultFrom (pre ++ [x]) r
def limsFault (l : List Lim) : Int := if l.length = 0 then 8 else if (100 : Int) < l.length then 2 else limsFaultFrom [] l
end Go.Am
end
section
/- What is wrong with limits, both ways: printed by program. -/
open Go
set_option linter.unusedSimpArgs false
namespace Go.Am
variable {h : Heap} {K : Post}
theorem s_find1 (x : Lim) (key : List UInt8) (id : Nat) (hh : h[id]? = some (.box [AS key])) : ACall X f_lot_find_1 [.p x.pv, .ref id 0] h K = K (AB (decide (x.key = key))) h [] := by
  refine rule ?_
  rw [c_lot_find_1 rfl]
  have hg : ∀ l, (h ++ l)[id]? = some (.box [AS key]) := fun l => by rw [get_app (get_lt hh), hh]
  simp only [d_lot_find_1, Lim.pv, go_sem, hg]
theorem s_find (l : List Lim) (key : List UInt8) (hl : l.length ≤ 1000000) : ACall X f_lot_find [ALim l, AS key] h K = K (AI (findK l key)) h [] := by
  refine rule ?_
  rw [c_lot_find rfl]
  have hi := fun K => IndexFunc_Limit (h := h ++ [.box [AS key]]) (K := K) (g := f_lot_find_1) (caps := [.ref h.length 0]) (p := keyIs key) (xs := l.map Lim.pv) (shows_sl lim_shps)
    (fun y hy K => by obtain ⟨x, _, rfl⟩ := List.mem_map.1 hy; exact s_find1 x key _ (by simp)) (by simpa using (by omega : l.length ≤ 1000000000))
  simp only [d_lot_find, go_sem, hi]
  rfl
set_option maxHeartbeats 1000000 in
theorem s_CheckLimits (l : List Lim) (hk : ∀ x ∈ l, x.key.length ≤ 1000) (hl : l.length ≤ 1000000) : ACall X f_lot_CheckLimits [ALim l] h K = K (AI (limsFault l)) h [] := by
  refine rule ?_
  rw [c_lot_CheckLimits rfl]
  unfold limsFault
  by_cases h0 : l.length = 0
  · have h0' : (l.length : Int) = 0 := by omega
    simp only [d_lot_CheckLimits, go_sem, h0', h0]
  have h0' : ¬ (l.length : Int) = 0 := by omega
  by_cases h1 : (100 : Int) < l.length
  · simp only [d_lot_CheckLimits, go_sem, h0', h0, h1]
  simp only [d_lot_CheckLimits, go_sem, h0', h0, h1]
  refine N_loop (fun k : Nat => ⟨[(0, ALim l), (13, ALim l), (14, AI l.length), (15, AI k)], h, []⟩) (fun k => k ≤ l.length ∧ limsFaultFrom (l.take k) (l.drop k) = limsFaultFrom [] l) (fun k => l.length - k) 0 rfl ⟨by omega, rfl⟩ ?_
  rintro k ⟨hkl, hp⟩
  rcases Nat.lt_or_ge k l.length with hlt | hge
  · have hg := map_get Lim.pv hlt
    have w2 : IntKind.i64.wrap ((k : Int) + 1) = ((k + 1 : Nat) : Int) := i64_wrap _ (by omega) (by omega)
    have hkx := hk _ (List.getElem_mem hlt)
    rw [List.drop_eq_getElem_cons hlt, limsFaultFrom, ← List.take_succ_eq_append_getElem hlt] at hp
    have ewin : win (l.map Lim.pv) 0 k = (l.take k).map Lim.pv := by simp [win, List.map_take]
    have fnd := fun h K => s_find (h := h) (K := K) (l.take k) l[k].key (by simp; omega)
    generalize l[k] = x at *
    have ky := fun h K => s_Key (h := h) (K := K) x.key (by omega)
    generalize hw : findK (l.take k) x.key = w at *
    cases h2 : keyB x.key with
    | false =>
      rw [h2] at hp
      simp only [if_true] at hp
      simp only [go_sem, Lim.pv, hlt, hg, ky, h2]
      rw [← hp]
    | true =>
      rw [h2] at hp
      simp only [reduceCtorEq, if_false] at hp
      by_cases h3 : 0 ≤ w
      · rw [if_pos h3] at hp
        simp only [go_sem, Lim.pv, hlt, hg, ky, h2, hkl, ewin, fnd, h3]
        rw [← hp]
      · rw [if_neg h3] at hp
        unfold limBad at hp
        cases h4 : inB (-100000) x.lo x.hi with
        | false =>
          simp only [h4, Bool.not_false, Bool.true_or, if_true] at hp
          simp only [go_sem, Lim.pv, hlt, hg, ky, h2, hkl, ewin, fnd, h3, s_OutB, h4]
          rw [← hp]
        | true =>
          by_cases h5 : 100000 < x.hi
          · simp only [h4, h5, Bool.not_true, Bool.false_or, decide_true, Bool.true_or, if_true] at hp
            simp only [go_sem, Lim.pv, hlt, hg, ky, h2, hkl, ewin, fnd, h3, s_OutB, h4, h5]
            rw [← hp]
          · cases h6 : inB 2 x.bin 100 with
            | false =>
              simp only [h4, h5, h6, Bool.not_true, Bool.false_or, decide_false, Bool.not_false, if_true] at hp
              simp only [go_sem, Lim.pv, hlt, hg, ky, h2, hkl, ewin, fnd, h3, s_OutB, h4, h5, h6]
              rw [← hp]
            | true =>
              simp only [h4, h5, h6, Bool.not_true, Bool.false_or, decide_false, Bool.or_self, reduceCtorEq, if_false] at hp
              simp only [go_sem, Lim.pv, hlt, hg, ky, h2, hkl, ewin, fnd, h3, s_OutB, h4, h5, h6, w2]
              exact ⟨k + 1, rfl, ⟨by omega, hp⟩, by omega⟩
  · have ek : k = l.length := by omega
    subst ek
    rw [List.drop_length] at hp
    simp only [go_sem, Nat.lt_irrefl]
    rw [← hp]; rfl
theorem s_TestAt1 (x : Lim) (key : List UInt8) (id : Nat) (hh : h[id]? = some (.box [AS key])) : ACall X f_scanref2_TestAt_1 [.p x.pv, .ref id 0] h K = K (AB (decide (x.key = key))) h [] := by
  refine rule ?_
  rw [c_scanref2_TestAt_1 rfl]
  have hg : ∀ l, (h ++ l)[id]? = some (.box [AS key]) := fun l => by rw [get_app (get_lt hh), hh]
  simp only [d_scanref2_TestAt_1, Lim.pv, go_sem, hg]
theorem s_TestAt (l : List Lim) (key : List UInt8) (hl : l.length ≤ 1000000) : ACall X f_scanref2_TestAt [ALim l, AS key] h K = K (AI (findK l key)) h [] := by
  refine rule ?_
  rw [c_scanref2_TestAt rfl]
  have hi := fun K => IndexFunc_Limit (h := h ++ [.box [AS key]]) (K := K) (g := f_scanref2_TestAt_1) (caps := [.ref h.length 0]) (p := keyIs key) (xs := l.map Lim.pv) (shows_sl lim_shps)
    (fun y hy K => by obtain ⟨x, _, rfl⟩ := List.mem_map.1 hy; exact s_TestAt1 x key _ (by simp)) (by simpa using (by omega : l.length ≤ 1000000000))
  simp only [d_scanref2_TestAt, go_sem, hi]
  rfl
set_option maxHeartbeats 1000000 in
theorem s_LimitsFault (l : List Lim) (hk : ∀ x ∈ l, x.key.length ≤ 1000) (hl : l.length ≤ 1000000) : ACall X f_scanref2_LimitsFault [ALim l] h K = K (AI (limsFault l)) h [] := by
  refine rule ?_
  rw [c_scanref2_LimitsFault rfl]
  unfold limsFault
  by_cases h0 : l.length = 0
  · have h0' : (l.length : Int) = 0 := by omega
    simp only [d_scanref2_LimitsFault, go_sem, h0', h0]
  have h0' : ¬ (l.length : Int) = 0 := by omega
  by_cases h1 : (100 : Int) < l.length
  · simp only [d_scanref2_LimitsFault, go_sem, h0', h0, h1]
  simp only [d_scanref2_LimitsFault, go_sem, h0', h0, h1]
  refine N_loop (fun k : Nat => ⟨[(0, ALim l), (13, ALim l), (14, AI l.length), (15, AI k)], h, []⟩) (fun k => k ≤ l.length ∧ limsFaultFrom (l.take k) (l.drop k) = limsFaultFrom [] l) (fun k => l.length - k) 0 rfl ⟨by omega, rfl⟩ ?_
  rintro k ⟨hkl, hp⟩
  rcases Nat.lt_or_ge k l.length with hlt | hge
  · have hg := map_get Lim.pv hlt
    have w2 : IntKind.i64.wrap ((k : Int) + 1) = ((k + 1 : Nat) : Int) := i64_wrap _ (by omega) (by omega)
    have hkx := hk _ (List.getElem_mem hlt)
    rw [List.drop_eq_getElem_cons hlt, limsFaultFrom, ← List.take_succ_eq_append_getElem hlt] at hp
    have ewin : win (l.map Lim.pv) 0 k = (l.take k).map Lim.pv := by simp [win, List.map_take]
    have fnd := fun h K => s_TestAt (h := h) (K := K) (l.take k) l[k].key (by simp; omega)
    generalize l[k] = x at *
    have ky := fun h K => s_refKey (h := h) (K := K) x.key (by omega)
    generalize hw : findK (l.take k) x.key = w at *
    cases h2 : keyB x.key with
    | false =>
      rw [h2] at hp
      simp only [if_true] at hp
      simp only [go_sem, Lim.pv, hlt, hg, ky, h2]
      rw [← hp]
    | true =>
      rw [h2] at hp
      simp only [reduceCtorEq, if_false] at hp
      by_cases h3 : 0 ≤ w
      · rw [if_pos h3] at hp
        simp only [go_sem, Lim.pv, hlt, hg, ky, h2, hkl, ewin, fnd, h3]
        rw [← hp]
      · rw [if_neg h3] at hp
        unfold limBad at hp
        cases h4 : inB (-100000) x.lo x.hi with
        | false =>
          simp only [h4, Bool.not_false, Bool.true_or, if_true] at hp
          simp only [go_sem, Lim.pv, hlt, hg, ky, h2, hkl, ewin, fnd, h3, s_inB, h4]
          rw [← hp]
        | true =>
          by_cases h5 : 100000 < x.hi
          · simp only [h4, h5, Bool.not_true, Bool.false_or, decide_true, Bool.true_or, if_true] at hp
            simp only [go_sem, Lim.pv, hlt, hg, ky, h2, hkl, ewin, fnd, h3, s_inB, h4, h5]
            rw [← hp]
          · cases h6 : inB 2 x.bin 100 with
            | false =>
              simp only [h4, h5, h6, Bool.not_true, Bool.false_or, decide_false, Bool.not_false, if_true] at hp
              simp only [go_sem, Lim.pv, hlt, hg, ky, h2, hkl, ewin, fnd, h3, s_inB, h4, h5, h6]
              rw [← hp]
            | true =>
              simp only [h4, h5, h6, Bool.not_true, Bool.false_or, decide_false, Bool.or_self, reduceCtorEq, if_false] at hp
              simp only [go_sem, Lim.pv, hlt, hg, ky, h2, hkl, ewin, fnd, h3, s_inB, h4, h5, h6, w2]
              exact ⟨k + 1, rfl, ⟨by omega, hp⟩, by omega⟩
  · have ek : k = l.length := by omega
    subst ek
    rw [List.drop_length] at hp
    simp only [go_sem, Nat.lt_irrefl]
    rw [← hp]; rfl
end Go.Am
end
section
/- Package lot on measured values, and what the reference says of them. -/
open Go
namespace Go.Am
variable {h : Heap} {K : Post}
def isM (n : Int) : Bool := decide (-100000 ≤ n) && decide (n ≤ 100000)
def measFault (l : List Int) (least : Int) : Int := if (l.length : Int) < least then 8 else if 5000 < (l.length : Int) then 2 else if l.all isM then 0 else 1
theorem all_eI' {l : List Int} : shps none (l.map eI) := fun x hx => by obtain ⟨n, _, rfl⟩ := List.mem_map.1 hx; rfl
theorem s_isMeasure (n : Int) : ACall X f_lot_isMeasure [AI n] h K = K (AB (isM n)) h [] := by
  refine rule ?_
  rw [c_lot_isMeasure rfl]
  simp only [d_lot_isMeasure, go_sem, s_Out, out_eq, Bool.not_not]
  rfl
theorem s_vf1 (n : Int) : ACall X f_lot_valuesFault_1 [AI n] h K = K (AB (!isM n)) h [] := by
  refine rule ?_
  rw [c_lot_valuesFault_1 rfl]
  simp only [d_lot_valuesFault_1, go_sem, s_isMeasure]
def noM : PV → Bool := fun x => match x with | .int _ n => !isM n | _ => false
theorem any_noM (l : List Int) : (l.map eI).any noM = !l.all isM := by
  induction l with
  | nil => rfl
  | cons x r ih => simp only [List.map_cons, List.any_cons, List.all_cons, ih, Bool.not_and]; rfl
theorem s_valuesFault (l : List Int) (n : Int) (hl : l.length ≤ 1000000000) : ACall X f_lot_valuesFault [AL l, AI n] h K = K (AI (measFault l n)) h [] := by
  refine rule ?_
  rw [c_lot_valuesFault rfl]
  have c := fun K => ContainsFunc_int (h := h) (K := K) (g := f_lot_valuesFault_1) (caps := []) (p := noM) (xs := l.map eI) (fun x hx K => by obtain ⟨n, _, rfl⟩ := List.mem_map.1 hx; exact s_vf1 n) all_eI' (by simpa using hl)
  rw [any_noM] at c
  unfold measFault
  by_cases h1 : (l.length : Int) < n
  · simp only [d_lot_valuesFault, go_sem, h1]
  · by_cases h2 : (5000 : Int) < l.length
    · simp only [d_lot_valuesFault, go_sem, h1, h2]
    · cases h3 : l.all isM <;> simp only [d_lot_valuesFault, go_sem, h1, h2, c, h3]
/-- Right values. -/
structure Meas (l : List Int) : Prop where
  len : l.length ≤ 5000
  bd : ∀ n ∈ l, -100000 ≤ n ∧ n ≤ 100000
theorem measFault_ok {l : List Int} {n : Int} (h : measFault l n = 0) : Meas l ∧ n ≤ l.length := by
  unfold measFault at h
  split at h
  · cases h
  · split at h
    · cases h
    · split at h
      · rename_i h1 h2 h3
        refine ⟨⟨by omega, fun x hx => ?_⟩, by omega⟩
        have := List.all_eq_true.1 h3 x hx
        simpa [isM] using this
      · cases h
def sqs (l : List Int) : Int := (l.map fun n => n * n).sum
theorem sqs_take_succ (l : List Int) (k : Nat) (hk : k < l.length) : sqs (l.take (k + 1)) = sqs (l.take k) + l[k] * l[k] := by
  unfold sqs; rw [List.take_succ_eq_append_getElem hk, List.map_append, List.sum_append]; simp
theorem sq_bd {n B : Int} (h : -B ≤ n ∧ n ≤ B) : 0 ≤ n * n ∧ n * n ≤ B * B := by
  have h1 : n.natAbs * n.natAbs ≤ B.natAbs * B.natAbs := Nat.mul_le_mul (by omega) (by omega)
  have e1 := Int.natAbs_mul_self (a := n)
  have e2 := Int.natAbs_mul_self (a := B)
  have h2 : ((n.natAbs * n.natAbs : Nat) : Int) ≤ ((B.natAbs * B.natAbs : Nat) : Int) := by exact_mod_cast h1
  exact ⟨by rw [← e1]; omega, by rw [← e1, ← e2]; exact h2⟩
theorem sqs_bd {l : List Int} (hm : Meas l) (k : Nat) : 0 ≤ sqs (l.take k) ∧ sqs (l.take k) ≤ 50000000000000 := by
  have h1 : ∀ n ∈ (l.take k).map (fun n => n * n), 0 ≤ n ∧ n ≤ 10000000000 := by
    intro n hn
    obtain ⟨x, hx, rfl⟩ := List.mem_map.1 hn
    have := sq_bd (hm.bd x (List.mem_of_mem_take hx))
    omega
  have h2 := sum_bd _ _ _ h1
  have h3 := hm.len
  simp only [List.length_map, List.length_take] at h2
  unfold sqs
  omega
theorem Meas.sum {l : List Int} (hm : Meas l) (k : Nat) : -500000000 ≤ (l.take k).sum ∧ (l.take k).sum ≤ 500000000 := by
  have := sum_bd_take hm.bd hm.len (by omega) k
  omega
def spreadN (l : List Int) : Int := l.length * sqs l - l.sum * l.sum
theorem spread_bds {l : List Int} (hm : Meas l) : (0 ≤ l.length * sqs l ∧ l.length * sqs l ≤ 250000000000000000) ∧ (0 ≤ l.sum * l.sum ∧ l.sum * l.sum ≤ 250000000000000000) := by
  have h1 := sqs_bd hm l.length
  have h2 := hm.sum l.length
  rw [List.take_length] at h1 h2
  have h3 := hm.len
  exact ⟨mul_bd (by omega) (show (l.length : Int) ≤ 5000 by omega) h1.1 h1.2, sq_bd h2⟩
theorem s_sums (l : List Int) (hm : Meas l) : ACall X f_lot_sums [AL l] h K = K (.tup [AI l.sum, AI (spreadN l)]) h [] := by
  refine rule ?_
  rw [c_lot_sums rfl]
  simp only [d_lot_sums, go_sem]
  refine N_loop (fun k : Nat => ⟨[(0, AL l), (2, AI (l.take k).sum), (4, AI (sqs (l.take k))), (7, AL l), (8, AI l.length), (9, AI k)], h, []⟩) (fun k => k ≤ l.length) (fun k => l.length - k) 0 rfl (by simp) ?_
  intro k hk
  have h3 := hm.len
  rcases Nat.lt_or_ge k l.length with hlt | hge
  · have hg := map_get eI hlt
    have e1 := sum_take_succ l k hlt
    have e2 := sqs_take_succ l k hlt
    have b1 := hm.sum (k + 1)
    have b2 := sqs_bd hm (k + 1)
    have b3 := sq_bd (hm.bd _ (List.getElem_mem hlt))
    have w1 : IntKind.i64.wrap ((l.take k).sum + l[k]) = (l.take (k + 1)).sum := by rw [← e1]; exact i64_wrap _ (by omega) (by omega)
    have w2 : IntKind.i64.wrap (l[k] * l[k]) = l[k] * l[k] := i64_wrap _ (by omega) (by omega)
    have w3 : IntKind.i64.wrap (sqs (l.take k) + l[k] * l[k]) = sqs (l.take (k + 1)) := by rw [← e2]; exact i64_wrap _ (by omega) (by omega)
    have w4 : IntKind.i64.wrap ((k : Int) + 1) = ((k + 1 : Nat) : Int) := i64_wrap _ (by omega) (by omega)
    simp only [go_sem, hlt, hg, w1, w2, w3, w4]
    exact ⟨k + 1, rfl, by omega, by omega⟩
  · have : k = l.length := by omega
    subst this
    obtain ⟨⟨b1, b2⟩, b3, b4⟩ := spread_bds hm
    have w1 : IntKind.i64.wrap (l.length * sqs l) = l.length * sqs l := i64_wrap _ (by omega) (by omega)
    have w2 : IntKind.i64.wrap (l.sum * l.sum) = l.sum * l.sum := i64_wrap _ (by omega) (by omega)
    have w3 : IntKind.i64.wrap (l.length * sqs l - l.sum * l.sum) = spreadN l := i64_wrap _ (by omega) (by omega)
    simp only [go_sem, Nat.lt_irrefl, List.take_length, w1, w2, w3]
def fracP (x : Int × Int) : PV := .agg [eI x.1, eI x.2]
theorem spreadN_bd {l : List Int} (hm : Meas l) : -250000000000000000 ≤ spreadN l ∧ spreadN l ≤ 250000000000000000 := by
  obtain ⟨⟨b1, b2⟩, b3, b4⟩ := spread_bds hm
  unfold spreadN; omega
def spreadV (l : List Int) : AV := if measFault l 1 = 0 then .tup [.p (fracP (low l.sum l.length)), .p (fracP (low (spreadN l) (l.length * l.length))), AI 0] else .tup [.p (fracP (0, 0)), .p (fracP (0, 0)), AI (measFault l 1)]
theorem s_Spread (l : List Int) (hl : l.length ≤ 1000000000) : ACall X f_lot_Spread [AL l] h K = K (spreadV l) h [] := by
  refine rule ?_
  rw [c_lot_Spread rfl]
  have vf := fun h K => s_valuesFault (h := h) (K := K) l 1 hl
  unfold spreadV
  by_cases hf : measFault l 1 = 0
  · obtain ⟨hm, hn⟩ := measFault_ok hf
    have h3 := hm.len
    have b1 := hm.sum l.length
    rw [List.take_length] at b1
    have b2 := spreadN_bd hm
    have b3 := mul_bd (show 0 ≤ (l.length : Int) by omega) (show (l.length : Int) ≤ 5000 by omega) (show 0 ≤ (l.length : Int) by omega) (show (l.length : Int) ≤ 5000 by omega)
    have b4 : 0 < (l.length : Int) * l.length := Int.mul_pos (by omega) (by omega)
    have w : IntKind.i64.wrap (l.length * l.length) = l.length * l.length := i64_wrap _ (by omega) (by omega)
    rw [hf] at vf
    simp only [d_lot_Spread, go_sem, vf, hf, s_sums l hm, s_Fraction l.sum l.length (by omega) (by omega), w, s_Fraction (spreadN l) (l.length * l.length) (by omega) (by omega)]
    rfl
  · simp only [d_lot_Spread, go_sem, vf, hf]
    rfl
end Go.Am
end
section
/- Records: what they are, what is wrong with them. -/
open Go
set_option linter.unusedSimpArgs false
namespace Go.Am
variable {h : Heap} {K : Post}
theorem retK_keep {b : Nat} {P : Post} {vs : List AV} {h : Heap} : retK true b P (some vs) h [] = P (oneOf vs) (h.take (max b (oneOf vs).top)) [] := by
  simp [retK, close, closed]
attribute [go_sem] retK_keep
structure Rec where
  unit : List UInt8
  time : Int
  site : List UInt8
  res : List Int
def Rec.pv (r : Rec) : PV := .agg [.str r.unit, eI r.time, .str r.site, .sl none (r.res.map eI)]
abbrev ARec (l : List Rec) : AV := .p (.sl (some 4) (l.map Rec.pv))
theorem rec_shps {l : List Rec} : shps (some 4) (l.map Rec.pv) := fun x hx => by obtain ⟨n, _, rfl⟩ := List.mem_map.1 hx; rfl
structure RecOk (r : Rec) : Prop where
  u : r.unit.length ≤ 1000
  s : r.site.length ≤ 1000
  n : r.res.length ≤ 1000
structure LimOk (l : List Lim) : Prop where
  n : l.length ≤ 1000
  k : ∀ x ∈ l, x.key.length ≤ 1000
def good (x : Lim) (n : Int) : Bool := inB x.lo n x.hi
def goods (l : List Lim) (res : List Int) : List Bool := List.zipWith good l res
def failIdx (l : List Lim) (res : List Int) : Int := if (goods l res).findIdx (fun b => !b) < (goods l res).length then ((goods l res).findIdx (fun b => !b) : Int) else -1
def formB (l : List Lim) (res : List Int) : Bool := inB 1 res.length l.length && !(decide (0 ≤ failIdx l res) && decide (failIdx l res ≠ (res.length : Int) - 1)) && !(decide (failIdx l res < 0) && decide ((res.length : Int) ≠ l.length))
def momentB (n : Int) : Bool := inB 0 n 345686399999
def recFault (l : List Lim) (r : Rec) : Int := if (keyB r.unit && keyB r.site) = false then 5 else if momentB r.time = false then 1 else if r.res.all isM = false then 1 else if formB l r.res = false then 3 else 0
def recCmp (a b : Rec) : Int := if cmp3 a.time b.time ≠ 0 then cmp3 a.time b.time else cmpL a.unit b.unit
def recsFaultFrom (l : List Lim) : Option Rec → List Rec → Int
  | _, [] => 0
  | p, x :: r => if recFault l x ≠ 0 then recFault l x else if (match p with | some q => decide (recCmp x q ≤ 0) | none => false) = true then 7 else recsFaultFrom l (some x) r
def recsFault0 (l : List Lim) (r : List Rec) : Int := if (5000 : Int) < r.length then 2 else recsFaultFrom l none r
def recsFault (l : List Lim) (r : List Rec) : Int := if limsFault l ≠ 0 then limsFault l else recsFault0 l r
theorem cmp3_neg (x y : Int) : cmp3 y x = - cmp3 x y := by
  unfold cmp3; split <;> split <;> (try split) <;> (try split) <;> omega
theorem recCmp_neg (a b : Rec) : recCmp b a = - recCmp a b := by
  unfold recCmp
  rw [cmp3_neg a.time b.time, cmpL_neg a.unit b.unit]
  by_cases hc : cmp3 a.time b.time = 0
  · simp [hc]
  · rw [if_pos (by omega), if_pos hc]
theorem s_good (x : Lim) (n : Int) : ACall X f_lot_good [.p x.pv, AI n] h K = K (AB (good x n)) h [] := by
  refine rule ?_
  rw [c_lot_good rfl]
  simp only [d_lot_good, Lim.pv, go_sem, s_OutB, Bool.not_not]
  rfl
theorem s_Moment (n : Int) : ACall X f_base_Moment [AI n] h K = K (AB (momentB n)) h [] := by
  refine rule ?_
  rw [c_base_Moment rfl]
  simp only [d_base_Moment, go_sem, s_OutB, Bool.not_not]
  rfl
theorem s_refMoment (n : Int) : ACall X f_scanref2_Moment [AI n] h K = K (AB (momentB n)) h [] := by
  refine rule ?_
  rw [c_scanref2_Moment rfl]
  simp only [d_scanref2_Moment, go_sem, s_inB]
  rfl
theorem goods_len {l : List Lim} {res : List Int} (h : res.length ≤ l.length) : (goods l res).length = res.length := by simp [goods]; omega
theorem goods_get {l : List Lim} {res : List Int} {i : Nat} (h1 : i < l.length) (h2 : i < res.length) : (goods l res)[i]? = some (good l[i] res[i]) := by
  unfold goods; rw [List.getElem?_zipWith]; simp [h1, h2]
/-- No result ahead of this place fails. -/
def okTo (l : List Lim) (res : List Int) (k : Nat) : Prop := ∀ i, i < k → (goods l res)[i]? ≠ some false
theorem failIdx_of {l : List Lim} {res : List Int} {k : Nat} (h1 : okTo l res k) (h2 : (goods l res)[k]? = some false) : failIdx l res = k := by
  obtain ⟨hk, e⟩ := List.getElem?_eq_some_iff.1 h2
  have : (goods l res).findIdx (fun b => !b) = k := by
    rw [List.findIdx_eq hk]
    refine ⟨by simp [e], fun j hj => ?_⟩
    have := h1 j hj
    rw [List.getElem?_eq_getElem (by omega)] at this
    cases hq : (goods l res)[j] with
    | true => rfl
    | false => rw [hq] at this; exact absurd rfl this
  unfold failIdx
  rw [this, if_pos hk]
theorem failIdx_none {l : List Lim} {res : List Int} (h1 : okTo l res (goods l res).length) : failIdx l res = -1 := by
  unfold failIdx
  rw [if_neg]
  intro h
  have := List.findIdx_getElem (w := h)
  have h2 := h1 _ h
  rw [List.getElem?_eq_getElem h] at h2
  simp at this
  rw [this] at h2
  exact h2 rfl
theorem s_fails (l : List Lim) (r : Rec) (h1 : 1 ≤ r.res.length) (h2 : r.res.length ≤ l.length) (hn : l.length ≤ 1000) :
    ACall X f_lot_fails [ALim l, .p r.pv] h K = K (AI (if good l[r.res.length - 1] r.res[r.res.length - 1] then -1 else (r.res.length : Int) - 1)) h [] := by
  refine rule ?_
  rw [c_lot_fails rfl]
  have w : IntKind.i64.wrap ((r.res.length : Int) - 1) = ((r.res.length - 1 : Nat) : Int) := by rw [i64_wrap _ (by omega) (by omega)]; omega
  have g1 := map_get Lim.pv (show r.res.length - 1 < l.length by omega)
  have g2 := map_get eI (show r.res.length - 1 < r.res.length by omega)
  have e : (r.res.length : Int) - 1 = ((r.res.length - 1 : Nat) : Int) := by omega
  have cx : cutP (some 4) 0 (l[r.res.length - 1].pv) = some l[r.res.length - 1].pv := rfl
  rw [e]
  cases hg : good l[r.res.length - 1] r.res[r.res.length - 1] with
  | true => simp only [d_lot_fails, Rec.pv, go_sem, w, g1, g2, cx, s_good, hg]
  | false => simp only [d_lot_fails, Rec.pv, go_sem, w, g1, g2, cx, s_good, hg]
theorem s_complete (l : List Lim) (r : Rec) (hl : l.length ≤ 1000) (hr : r.res.length ≤ 1000) : ACall X f_lot_complete [ALim l, .p r.pv] h K = K (AB (formB l r.res)) h [] := by
  refine rule ?_
  rw [c_lot_complete rfl]
  by_cases h1 : r.res.length = 0
  · have h1' : (r.res.length : Int) = 0 := by omega
    have : formB l r.res = false := by simp [formB, inB, h1]
    simp only [d_lot_complete, Rec.pv, go_sem, h1', this]
  have h1' : ¬ (r.res.length : Int) = 0 := by omega
  by_cases h2 : (l.length : Int) < r.res.length
  · have : formB l r.res = false := by simp [formB, inB]; intro; omega
    simp only [d_lot_complete, Rec.pv, go_sem, h1', h2, this]
  have hle : r.res.length ≤ l.length := by omega
  have w : IntKind.i64.wrap ((r.res.length : Int) - 1) = ((r.res.length - 1 : Nat) : Int) := by rw [i64_wrap _ (by omega) (by omega)]; omega
  have hn1 : r.res.length - 1 ≤ r.res.length := by omega
  have ewin : win (r.res.map eI) 0 (r.res.length - 1) = (r.res.take (r.res.length - 1)).map eI := by simp [win, List.map_take]
  have hfm : inB 1 r.res.length l.length = true := by simp [inB]; omega
  simp only [d_lot_complete, Rec.pv, go_sem, h1', h2, w, hn1, ewin]
  have etl : min (r.res.length - 1) r.res.length = r.res.length - 1 := by omega
  refine N_loop (fun k : Nat => ⟨[(0, ALim l), (3, .ref h.length 0), (5, AI r.res.length), (23, AL (r.res.take (r.res.length - 1))), (24, AI ((r.res.length - 1 : Nat) : Int)), (25, AI k)], h ++ [.box [AS r.unit, AI r.time, AS r.site, AL r.res]], []⟩) (fun k => k ≤ r.res.length - 1 ∧ okTo l r.res k) (fun k => r.res.length - k) 0 ?_ ⟨by omega, fun i hi => by omega⟩ ?_
  · simp [etl]
  rintro k ⟨hk, hok⟩
  rcases Nat.lt_or_ge k (r.res.length - 1) with hlt | hge
  · have g1 := map_get Lim.pv (show k < l.length by omega)
    have g2 : ((r.res.take (r.res.length - 1)).map eI)[k]? = some (eI r.res[k]) := by simp [List.getElem?_take, hlt, show k < r.res.length by omega]
    have cx : cutP (some 4) 0 (l[k].pv) = some l[k].pv := rfl
    have gg := goods_get (l := l) (res := r.res) (show k < l.length by omega) (show k < r.res.length by omega)
    have w2 : IntKind.i64.wrap ((k : Int) + 1) = ((k + 1 : Nat) : Int) := i64_wrap _ (by omega) (by omega)
    have hlt' : k < r.res.length - 1 := hlt
    cases hg : good l[k] r.res[k] with
    | false =>
      rw [hg] at gg
      have hf := failIdx_of hok gg
      have : formB l r.res = false := by
        unfold formB
        rw [hf]
        have q1 : decide ((0 : Int) ≤ (k : Int)) = true := by simp
        have q2 : decide ((k : Int) ≠ (r.res.length : Int) - 1) = true := by simp; omega
        rw [q1, q2]; simp
      simp only [go_sem, hlt', g1, g2, cx, s_good, hg, this]
    | true =>
      simp only [go_sem, hlt', g1, g2, cx, s_good, hg, w2]
      refine ⟨k + 1, rfl, ⟨by omega, fun i hi => ?_⟩, by omega⟩
      rcases Nat.lt_or_ge i k with h3 | h3
      · exact hok i h3
      · have : i = k := by omega
        subst this; rw [gg, hg]; simp
  · have ek : k = r.res.length - 1 := by omega
    subst ek
    have hb : ¬ (r.res.length - 1 < r.res.length - 1) := by omega
    have gg := goods_get (l := l) (res := r.res) (show r.res.length - 1 < l.length by omega) (show r.res.length - 1 < r.res.length by omega)
    have cx : cutP (some 4) 0 (PV.agg [.str r.unit, eI r.time, .str r.site, .sl none (r.res.map eI)]) = some r.pv := rfl
    have fl := fun h K => s_fails (h := h) (K := K) l r (by omega) hle hl
    have hF : formB l r.res = (decide ((r.res.length : Int) = l.length) || !good l[r.res.length - 1] r.res[r.res.length - 1]) := by
      unfold formB
      rw [hfm]
      cases hg : good l[r.res.length - 1] r.res[r.res.length - 1] with
      | false =>
        rw [hg] at gg
        rw [failIdx_of hok gg]
        have q1 : decide (((r.res.length - 1 : Nat) : Int) ≠ (r.res.length : Int) - 1) = false := by simp; omega
        have q2 : decide (((r.res.length - 1 : Nat) : Int) < 0) = false := by simp
        rw [q1, q2]; simp
      | true =>
        have hokn : okTo l r.res (goods l r.res).length := by
          rw [goods_len hle]
          intro i hi
          rcases Nat.lt_or_ge i (r.res.length - 1) with h3 | h3
          · exact hok i h3
          · have : i = r.res.length - 1 := by omega
            subst this; rw [gg, hg]; simp
        rw [failIdx_none hokn]
        simp
    rw [hF]
    by_cases he : (r.res.length : Int) = l.length
    · simp only [go_sem, hb, he]
    · cases hg : good l[r.res.length - 1] r.res[r.res.length - 1] with
      | true =>
        have fl' := fun h K => fl h K
        simp only [hg, if_true, Rec.pv] at fl'
        simp only [go_sem, hb, he, fl', Rec.pv]
      | false =>
        have fl' := fun h K => fl h K
        have hz : (0 : Int) ≤ (r.res.length : Int) - 1 := by omega
        simp only [hg, Rec.pv, reduceCtorEq, if_false] at fl'
        simp only [go_sem, hb, he, fl', Rec.pv, hz]
end Go.Am
end
section
/- What is drawn: numbers, measured values. -/
open Go
namespace Go.Am
variable {L : List Int} {a : Int}
theorem g_Odd (hp : posN 14 a) (u v : Int) (huv : u ≤ v) (hu : -1000000000000 ≤ u) (hv : v ≤ 1000000000000) : ∃ k a2 : Int, a ≤ a2 ∧ a2 ≤ a + 2 ∧ -1099511627776 ≤ k ∧ k ≤ 1099511627776 ∧
    Gen f_scanmake_Stream_Odd [AI u, AI v] L a a2 (AI k) := by
  have w1 : IntKind.i64.wrap (u - 1) = u - 1 := i64_wrap _ (by omega) (by omega)
  have w2 : IntKind.i64.wrap (v + 1) = v + 1 := i64_wrap _ (by omega) (by omega)
  by_cases hf : nextV L a 12 = 0
  · have hm := pickV_mem (L := L) (a := a + 1) (l := [u - 1, v + 1, u, v, -1099511627776, 1099511627776]) (by simp) (by simp)
    simp only [List.mem_cons, List.not_mem_nil, or_false] at hm
    refine ⟨pickV [u - 1, v + 1, u, v, -1099511627776, 1099511627776] L (a + 1), a + 1 + 1, by omega, by omega, by omega, by omega, Gen.of fun h id hid => ?_⟩
    rw [c_scanmake_Stream_Odd rfl]
    simp only [d_scanmake_Stream_Odd, go_sem, hid, posAll hp, hf, w1, w2]
  · have hm := rangeV_bd L (a + 1) huv (by omega)
    refine ⟨rangeV u v L (a + 1), a + 1 + 1, by omega, by omega, by omega, by omega, Gen.of fun h id hid => ?_⟩
    rw [c_scanmake_Stream_Odd rfl]
    simp only [d_scanmake_Stream_Odd, go_sem, hid, posAll hp, hf, w1, w2, huv, show -1152921504606846976 ≤ u by omega, show v ≤ 1152921504606846976 by omega]
end Go.Am
end
section
/- What is drawn: strings, limits. -/
open Go
set_option linter.unusedSimpArgs false
namespace Go.Am
variable {L : List Int} {a : Int} {h l : Heap} {id : Nat} {K : Post}
def isS : PV → Bool
  | .str _ => true
  | _ => false
def unS : PV → List UInt8
  | .str s => s
  | _ => []
def pickS (l : List (List UInt8)) (L : List Int) (a : Int) : List UInt8 := l.getD (nextV L a l.length).toNat []
theorem pickS_mem {l : List (List UInt8)} {L : List Int} {a : Int} (hl : 0 < l.length) (hl2 : l.length < 4611686018427387904) : pickS l L a ∈ l := by
  obtain ⟨b1, b2⟩ := nextV_bd L a l.length (by omega) (by omega)
  unfold pickS
  have : (nextV L a l.length).toNat < l.length := by omega
  simp only [List.getD, List.getElem?_eq_getElem this, Option.getD_some]
  exact List.getElem_mem _
theorem unS_map {xs : List PV} (h : xs.all isS = true) : xs = (xs.map unS).map PV.str := by
  induction xs with
  | nil => rfl
  | cons x r ih =>
    simp only [List.all_cons, Bool.and_eq_true] at h
    simp only [List.map_cons]
    rw [← ih h.2]
    cases x <;> first | rfl | cases h.1
theorem g_Some (hp : posN 0 a) (xs : List PV) (hx : xs.all isS = true) (hl : 0 < xs.length) (hl2 : xs.length < 4611686018427387904) :
    Gen f_scanmake_Stream_Some [.p (.sl none xs)] L a (a + 1) (AS (pickS (xs.map unS) L a)) := by
  refine Gen.of fun h id hid => ?_
  rw [c_scanmake_Stream_Some rfl]
  obtain ⟨b1, b2⟩ := nextV_bd L a xs.length (by omega) (by omega)
  have e4 := natOf_int (k := .i64) b1
  have e5 : xs[(nextV L a xs.length).toNat]? = some (.str (pickS (xs.map unS) L a)) := by
      have hm := unS_map hx
      generalize hq : xs.map unS = q at *
      subst hm
      simp only [List.length_map] at *
      rw [map_get PV.str (show (nextV L a q.length).toNat < q.length by omega)]
      simp [pickS, List.getD, show (nextV L a q.length).toNat < q.length by omega]
  simp only [d_scanmake_Stream_Some, go_sem, s_Next_set hid hp, e4, e5]
theorem s_Some_set (hid : id < h.length) (hp : posN 0 a) {xs : List PV} (hx : xs.all isS = true) (hl : 0 < xs.length) (hl2 : xs.length < 4611686018427387904) :
    ACall X f_scanmake_Stream_Some [.ref id 0, .p (.sl none xs)] (h.set id (strm L a)) K = K (AS (pickS (xs.map unS) L a)) (h.set id (strm L (a + 1))) [] := (g_Some hp xs hx hl hl2).set hid
theorem s_Some_app (hid : id < h.length) (hp : posN 0 a) {xs : List PV} (hx : xs.all isS = true) (hl : 0 < xs.length) (hl2 : xs.length < 4611686018427387904) :
    ACall X f_scanmake_Stream_Some [.ref id 0, .p (.sl none xs)] (h.set id (strm L a) ++ l) K = K (AS (pickS (xs.map unS) L a)) (h.set id (strm L (a + 1)) ++ l) [] := (g_Some hp xs hx hl hl2).app hid
theorem s_Some_hd (hp : posN 0 a) {xs : List PV} (hx : xs.all isS = true) (hl : 0 < xs.length) (hl2 : xs.length < 4611686018427387904) :
    ACall X f_scanmake_Stream_Some [.ref 0 0, .p (.sl none xs)] (strm L a :: l) K = K (AS (pickS (xs.map unS) L a)) (strm L (a + 1) :: l) [] := (g_Some hp xs hx hl hl2).hd
attribute [go_sem ↓] s_Some_set s_Some_app s_Some_hd
attribute [go_sem] s_Some_set s_Some_app s_Some_hd isS unS
structure LimBd (x : Lim) : Prop where
  k : x.key.length ≤ 1000
  lo : -200000 ≤ x.lo ∧ x.lo ≤ 200000
  hi : -200000 ≤ x.hi ∧ x.hi ≤ 200000
theorem g_LimitList (hp : posN 60 a) : GenE f_scanmake_Stream_LimitList [] L a (fun v a2 => a ≤ a2 ∧ a2 ≤ a + 12 ∧ ∃ l : List Lim, 1 ≤ l.length ∧ l.length ≤ 3 ∧ (∀ x ∈ l, LimBd x) ∧ v = ALim l) := by
  refine GenE.of fun h id hid => ?_
  rw [c_scanmake_Stream_LimitList rfl]
  have P := posAll (posN_le hp (Int.le_refl a) (by omega))
  obtain ⟨n1, n2⟩ := rangeV_bd (u := 1) (v := 3) L (a + 1) (by omega) (by omega)
  obtain ⟨n, hn⟩ := Int.eq_ofNat_of_zero_le (show 0 ≤ rangeV 1 3 L (a + 1) by omega)
  have hn3 : n ≤ 3 := by omega
  have l1 : LimBd ⟨[118, 111, 108, 116], 0, 10, 5⟩ := ⟨by simp, by simp, by simp⟩
  have l2 : LimBd ⟨[97, 109, 112], -5, 5, pickV [5, 6, 2] L a⟩ := ⟨by simp, by simp, by simp⟩
  have l3 : LimBd ⟨[104, 122], 3, 8, 9⟩ := ⟨by simp, by simp, by simp⟩
  have hb : h.length ≤ h.length := Nat.le_refl _
  by_cases hf : nextV L (a + 1 + 1) 15 = 0
  · obtain ⟨m1, m2⟩ := nextV_bd L (a + 1 + 1 + 1) n (by omega) (by omega)
    obtain ⟨m, hm⟩ := Int.eq_ofNat_of_zero_le m1
    have hmn : m < n := by omega
    have hm3 : m < 3 := by omega
    obtain ⟨kv, a3, c1, c2, _, _, O⟩ := g_Odd (L := L) (a := a + 1 + 1 + 1 + 1 + 1 + 1 + 1) (posN_le hp (by omega) (by omega)) 2 100 (by omega) (by omega) (by omega)
    have O' := fun l K => O.app (h := h) (id := id) (l := l) (K := K) hid
    have p1 := pickS_mem (l := [[118, 111, 108, 116], [], [122]]) (L := L) (a := a + 1 + 1 + 1 + 1) (by simp) (by simp)
    have p2 := pickV_mem (l := [0, -100000, -100001, 20]) (L := L) (a := a + 1 + 1 + 1 + 1 + 1) (by simp) (by simp)
    have p3 := pickV_mem (l := [10, 100000, 100001]) (L := L) (a := a + 1 + 1 + 1 + 1 + 1 + 1) (by simp) (by simp)
    simp only [List.mem_cons, List.not_mem_nil, or_false] at p1 p2 p3
    have l4 : LimBd ⟨pickS [[118, 111, 108, 116], [], [122]] L (a + 1 + 1 + 1 + 1), pickV [0, -100000, -100001, 20] L (a + 1 + 1 + 1 + 1 + 1), pickV [10, 100000, 100001] L (a + 1 + 1 + 1 + 1 + 1 + 1), kv⟩ :=
      ⟨by rcases p1 with p1 | p1 | p1 <;> simp [p1], by dsimp only; omega, by dsimp only; omega⟩
    have hw : ∃ y, [PV.agg [.str [118, 111, 108, 116], eI 0, eI 10, eI 5], .agg [.str [97, 109, 112], eI (-5), eI 5, eI (pickV [5, 6, 2] L a)], .agg [.str [104, 122], eI 3, eI 8, eI 9]][m]? = some (.agg y) ∧ y.length = 4 := by
      rcases m with _ | _ | _ | m
      · exact ⟨_, rfl, rfl⟩
      · exact ⟨_, rfl, rfl⟩
      · exact ⟨_, rfl, rfl⟩
      · omega
    obtain ⟨y, hy, hyl⟩ := hw
    simp only [d_scanmake_Stream_LimitList, go_sem, hid, P, hn, hn3, hf, hm, hmn, hm3, ↓O', O', hy, hyl]
    have ed : List.drop 4 y = [] := List.drop_of_length_le (by omega)
    refine ⟨a3, ⟨by omega, by omega, win ([⟨[118, 111, 108, 116], 0, 10, 5⟩, ⟨[97, 109, 112], -5, 5, pickV [5, 6, 2] L a⟩, ⟨[104, 122], 3, 8, 9⟩].set m ⟨pickS [[118, 111, 108, 116], [], [122]] L (a + 1 + 1 + 1 + 1), pickV [0, -100000, -100001, 20] L (a + 1 + 1 + 1 + 1 + 1), pickV [10, 100000, 100001] L (a + 1 + 1 + 1 + 1 + 1 + 1), kv⟩) 0 n, by simp [win]; omega, by simp [win]; omega, fun x hx => ?_, ?_⟩, rfl⟩
    · have hx2 := List.mem_of_mem_drop (List.mem_of_mem_take hx)
      rcases List.mem_or_eq_of_mem_set hx2 with hx3 | rfl
      · simp only [List.mem_cons, List.not_mem_nil, or_false] at hx3
        rcases hx3 with rfl | rfl | rfl
        · exact l1
        · exact l2
        · exact l3
      · exact l4
    · rw [ed]
      show _ = AV.p (.sl (some 4) ((win _ 0 n).map Lim.pv))
      rw [← win_map, List.map_set]; rfl
  · simp only [d_scanmake_Stream_LimitList, go_sem, hid, P, hn, hn3, hf]
    refine ⟨a + 1 + 1 + 1, ⟨by omega, by omega, win [⟨[118, 111, 108, 116], 0, 10, 5⟩, ⟨[97, 109, 112], -5, 5, pickV [5, 6, 2] L a⟩, ⟨[104, 122], 3, 8, 9⟩] 0 n, by simp [win]; omega, by simp [win]; omega, fun x hx => ?_, ?_⟩, rfl⟩
    · have hx3 := List.mem_of_mem_drop (List.mem_of_mem_take hx)
      simp only [List.mem_cons, List.not_mem_nil, or_false] at hx3
      rcases hx3 with rfl | rfl | rfl
      · exact l1
      · exact l2
      · exact l3
    · show _ = AV.p (.sl (some 4) ((win _ 0 n).map Lim.pv))
      rw [← win_map]; rfl
end Go.Am
end
