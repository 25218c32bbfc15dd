/- Texts of this claim, merged; no condition. -/
import Derived.Test.YtijkdabmegbcjaaGreatDoorU06
import Derived.Test.YtijkdabmegbcjaaGreatDoorU00
set_option linter.all false
namespace Go.Proofs.YtijkdabmegbcjaaGreatDoor
open Go.RowKit

set_option maxRecDepth 100000 in
set_option maxHeartbeats 4000000 in
theorem refMiddle_any (c : Nat) (w : World) : Calls Tryz.prog 104 #[.int .u8 c] w fun e w' => e = .returned (infoV (rowGet c middleRows)) ∧ Below w.heap.size w w' := by
  by_cases h29 : c = 29
  · subst h29
    go_enter Tryz.func104, Tryz.ntmps104
    go_wp2
    refine bodyPost_ret (v := .agg #[.string { data := #[83, 65, 82] }, .int .i64 2, .int .i64 1, .int .u64 3, .bool true, .int .i64 0]) (by simp [results, Tryz.results104, go_sem]) rfl ⟨rfl, ?_⟩
    repeat (first | exact xrefl _ | refine xalloc ?_ _ | refine xset ?_ (by simp) _)
  by_cases h32 : c = 32
  · subst h32
    go_enter Tryz.func104, Tryz.ntmps104
    go_wp2
    refine bodyPost_ret (v := .agg #[.string { data := #[75, 69, 67, 67, 65, 75, 50, 53, 54] }, .int .i64 2, .int .i64 1, .int .u64 30, .bool false, .int .i64 0]) (by simp [results, Tryz.results104, go_sem]) rfl ⟨rfl, ?_⟩
    repeat (first | exact xrefl _ | refine xalloc ?_ _ | refine xset ?_ (by simp) _)
  by_cases h48 : c = 48
  · subst h48
    go_enter Tryz.func104, Tryz.ntmps104
    go_wp2
    refine bodyPost_ret (v := .agg #[.string { data := #[65, 68, 68, 82, 69, 83, 83] }, .int .i64 0, .int .i64 1, .int .u64 2, .bool true, .int .i64 0]) (by simp [results, Tryz.results104, go_sem]) rfl ⟨rfl, ?_⟩
    repeat (first | exact xrefl _ | refine xalloc ?_ _ | refine xset ?_ (by simp) _)
  by_cases h49 : c = 49
  · subst h49
    go_enter Tryz.func104, Tryz.ntmps104
    go_wp2
    refine bodyPost_ret (v := .agg #[.string { data := #[66, 65, 76, 65, 78, 67, 69] }, .int .i64 1, .int .i64 1, .int .u64 0, .bool false, .int .i64 0]) (by simp [results, Tryz.results104, go_sem]) rfl ⟨rfl, ?_⟩
    repeat (first | exact xrefl _ | refine xalloc ?_ _ | refine xset ?_ (by simp) _)
  by_cases h50 : c = 50
  · subst h50
    go_enter Tryz.func104, Tryz.ntmps104
    go_wp2
    refine bodyPost_ret (v := .agg #[.string { data := #[79, 82, 73, 71, 73, 78] }, .int .i64 0, .int .i64 1, .int .u64 2, .bool true, .int .i64 0]) (by simp [results, Tryz.results104, go_sem]) rfl ⟨rfl, ?_⟩
    repeat (first | exact xrefl _ | refine xalloc ?_ _ | refine xset ?_ (by simp) _)
  by_cases h51 : c = 51
  · subst h51
    go_enter Tryz.func104, Tryz.ntmps104
    go_wp2
    refine bodyPost_ret (v := .agg #[.string { data := #[67, 65, 76, 76, 69, 82] }, .int .i64 0, .int .i64 1, .int .u64 2, .bool true, .int .i64 0]) (by simp [results, Tryz.results104, go_sem]) rfl ⟨rfl, ?_⟩
    repeat (first | exact xrefl _ | refine xalloc ?_ _ | refine xset ?_ (by simp) _)
  by_cases h52 : c = 52
  · subst h52
    go_enter Tryz.func104, Tryz.ntmps104
    go_wp2
    refine bodyPost_ret (v := .agg #[.string { data := #[67, 65, 76, 76, 86, 65, 76, 85, 69] }, .int .i64 0, .int .i64 1, .int .u64 2, .bool true, .int .i64 0]) (by simp [results, Tryz.results104, go_sem]) rfl ⟨rfl, ?_⟩
    repeat (first | exact xrefl _ | refine xalloc ?_ _ | refine xset ?_ (by simp) _)
  by_cases h53 : c = 53
  · subst h53
    go_enter Tryz.func104, Tryz.ntmps104
    go_wp2
    refine bodyPost_ret (v := .agg #[.string { data := #[67, 65, 76, 76, 68, 65, 84, 65, 76, 79, 65, 68] }, .int .i64 1, .int .i64 1, .int .u64 3, .bool false, .int .i64 0]) (by simp [results, Tryz.results104, go_sem]) rfl ⟨rfl, ?_⟩
    repeat (first | exact xrefl _ | refine xalloc ?_ _ | refine xset ?_ (by simp) _)
  by_cases h54 : c = 54
  · subst h54
    go_enter Tryz.func104, Tryz.ntmps104
    go_wp2
    refine bodyPost_ret (v := .agg #[.string { data := #[67, 65, 76, 76, 68, 65, 84, 65, 83, 73, 90, 69] }, .int .i64 0, .int .i64 1, .int .u64 2, .bool true, .int .i64 0]) (by simp [results, Tryz.results104, go_sem]) rfl ⟨rfl, ?_⟩
    repeat (first | exact xrefl _ | refine xalloc ?_ _ | refine xset ?_ (by simp) _)
  by_cases h55 : c = 55
  · subst h55
    go_enter Tryz.func104, Tryz.ntmps104
    go_wp2
    refine bodyPost_ret (v := .agg #[.string { data := #[67, 65, 76, 76, 68, 65, 84, 65, 67, 79, 80, 89] }, .int .i64 3, .int .i64 0, .int .u64 3, .bool false, .int .i64 0]) (by simp [results, Tryz.results104, go_sem]) rfl ⟨rfl, ?_⟩
    repeat (first | exact xrefl _ | refine xalloc ?_ _ | refine xset ?_ (by simp) _)
  by_cases h56 : c = 56
  · subst h56
    go_enter Tryz.func104, Tryz.ntmps104
    go_wp2
    refine bodyPost_ret (v := .agg #[.string { data := #[67, 79, 68, 69, 83, 73, 90, 69] }, .int .i64 0, .int .i64 1, .int .u64 2, .bool true, .int .i64 0]) (by simp [results, Tryz.results104, go_sem]) rfl ⟨rfl, ?_⟩
    repeat (first | exact xrefl _ | refine xalloc ?_ _ | refine xset ?_ (by simp) _)
  by_cases h57 : c = 57
  · subst h57
    go_enter Tryz.func104, Tryz.ntmps104
    go_wp2
    refine bodyPost_ret (v := .agg #[.string { data := #[67, 79, 68, 69, 67, 79, 80, 89] }, .int .i64 3, .int .i64 0, .int .u64 3, .bool false, .int .i64 0]) (by simp [results, Tryz.results104, go_sem]) rfl ⟨rfl, ?_⟩
    repeat (first | exact xrefl _ | refine xalloc ?_ _ | refine xset ?_ (by simp) _)
  by_cases h58 : c = 58
  · subst h58
    go_enter Tryz.func104, Tryz.ntmps104
    go_wp2
    refine bodyPost_ret (v := .agg #[.string { data := #[71, 65, 83, 80, 82, 73, 67, 69] }, .int .i64 0, .int .i64 1, .int .u64 2, .bool true, .int .i64 0]) (by simp [results, Tryz.results104, go_sem]) rfl ⟨rfl, ?_⟩
    repeat (first | exact xrefl _ | refine xalloc ?_ _ | refine xset ?_ (by simp) _)
  by_cases h59 : c = 59
  · subst h59
    go_enter Tryz.func104, Tryz.ntmps104
    go_wp2
    refine bodyPost_ret (v := .agg #[.string { data := #[69, 88, 84, 67, 79, 68, 69, 83, 73, 90, 69] }, .int .i64 1, .int .i64 1, .int .u64 0, .bool false, .int .i64 0]) (by simp [results, Tryz.results104, go_sem]) rfl ⟨rfl, ?_⟩
    repeat (first | exact xrefl _ | refine xalloc ?_ _ | refine xset ?_ (by simp) _)
  by_cases h60 : c = 60
  · subst h60
    go_enter Tryz.func104, Tryz.ntmps104
    go_wp2
    refine bodyPost_ret (v := .agg #[.string { data := #[69, 88, 84, 67, 79, 68, 69, 67, 79, 80, 89] }, .int .i64 4, .int .i64 0, .int .u64 0, .bool false, .int .i64 0]) (by simp [results, Tryz.results104, go_sem]) rfl ⟨rfl, ?_⟩
    repeat (first | exact xrefl _ | refine xalloc ?_ _ | refine xset ?_ (by simp) _)
  by_cases h61 : c = 61
  · subst h61
    go_enter Tryz.func104, Tryz.ntmps104
    go_wp2
    refine bodyPost_ret (v := .agg #[.string { data := #[82, 69, 84, 85, 82, 78, 68, 65, 84, 65, 83, 73, 90, 69] }, .int .i64 0, .int .i64 1, .int .u64 2, .bool true, .int .i64 0]) (by simp [results, Tryz.results104, go_sem]) rfl ⟨rfl, ?_⟩
    repeat (first | exact xrefl _ | refine xalloc ?_ _ | refine xset ?_ (by simp) _)
  by_cases h62 : c = 62
  · subst h62
    go_enter Tryz.func104, Tryz.ntmps104
    go_wp2
    refine bodyPost_ret (v := .agg #[.string { data := #[82, 69, 84, 85, 82, 78, 68, 65, 84, 65, 67, 79, 80, 89] }, .int .i64 3, .int .i64 0, .int .u64 3, .bool false, .int .i64 0]) (by simp [results, Tryz.results104, go_sem]) rfl ⟨rfl, ?_⟩
    repeat (first | exact xrefl _ | refine xalloc ?_ _ | refine xset ?_ (by simp) _)
  by_cases h63 : c = 63
  · subst h63
    go_enter Tryz.func104, Tryz.ntmps104
    go_wp2
    refine bodyPost_ret (v := .agg #[.string { data := #[69, 88, 84, 67, 79, 68, 69, 72, 65, 83, 72] }, .int .i64 1, .int .i64 1, .int .u64 0, .bool false, .int .i64 0]) (by simp [results, Tryz.results104, go_sem]) rfl ⟨rfl, ?_⟩
    repeat (first | exact xrefl _ | refine xalloc ?_ _ | refine xset ?_ (by simp) _)
  by_cases h64 : c = 64
  · subst h64
    go_enter Tryz.func104, Tryz.ntmps104
    go_wp2
    refine bodyPost_ret (v := .agg #[.string { data := #[66, 76, 79, 67, 75, 72, 65, 83, 72] }, .int .i64 1, .int .i64 1, .int .u64 20, .bool false, .int .i64 0]) (by simp [results, Tryz.results104, go_sem]) rfl ⟨rfl, ?_⟩
    repeat (first | exact xrefl _ | refine xalloc ?_ _ | refine xset ?_ (by simp) _)
  by_cases h65 : c = 65
  · subst h65
    go_enter Tryz.func104, Tryz.ntmps104
    go_wp2
    refine bodyPost_ret (v := .agg #[.string { data := #[67, 79, 73, 78, 66, 65, 83, 69] }, .int .i64 0, .int .i64 1, .int .u64 2, .bool true, .int .i64 0]) (by simp [results, Tryz.results104, go_sem]) rfl ⟨rfl, ?_⟩
    repeat (first | exact xrefl _ | refine xalloc ?_ _ | refine xset ?_ (by simp) _)
  by_cases h66 : c = 66
  · subst h66
    go_enter Tryz.func104, Tryz.ntmps104
    go_wp2
    refine bodyPost_ret (v := .agg #[.string { data := #[84, 73, 77, 69, 83, 84, 65, 77, 80] }, .int .i64 0, .int .i64 1, .int .u64 2, .bool true, .int .i64 0]) (by simp [results, Tryz.results104, go_sem]) rfl ⟨rfl, ?_⟩
    repeat (first | exact xrefl _ | refine xalloc ?_ _ | refine xset ?_ (by simp) _)
  by_cases h67 : c = 67
  · subst h67
    go_enter Tryz.func104, Tryz.ntmps104
    go_wp2
    refine bodyPost_ret (v := .agg #[.string { data := #[78, 85, 77, 66, 69, 82] }, .int .i64 0, .int .i64 1, .int .u64 2, .bool true, .int .i64 0]) (by simp [results, Tryz.results104, go_sem]) rfl ⟨rfl, ?_⟩
    repeat (first | exact xrefl _ | refine xalloc ?_ _ | refine xset ?_ (by simp) _)
  by_cases h68 : c = 68
  · subst h68
    go_enter Tryz.func104, Tryz.ntmps104
    go_wp2
    refine bodyPost_ret (v := .agg #[.string { data := #[80, 82, 69, 86, 82, 65, 78, 68, 65, 79] }, .int .i64 0, .int .i64 1, .int .u64 2, .bool true, .int .i64 0]) (by simp [results, Tryz.results104, go_sem]) rfl ⟨rfl, ?_⟩
    repeat (first | exact xrefl _ | refine xalloc ?_ _ | refine xset ?_ (by simp) _)
  by_cases h69 : c = 69
  · subst h69
    go_enter Tryz.func104, Tryz.ntmps104
    go_wp2
    refine bodyPost_ret (v := .agg #[.string { data := #[71, 65, 83, 76, 73, 77, 73, 84] }, .int .i64 0, .int .i64 1, .int .u64 2, .bool true, .int .i64 0]) (by simp [results, Tryz.results104, go_sem]) rfl ⟨rfl, ?_⟩
    repeat (first | exact xrefl _ | refine xalloc ?_ _ | refine xset ?_ (by simp) _)
  by_cases h70 : c = 70
  · subst h70
    go_enter Tryz.func104, Tryz.ntmps104
    go_wp2
    refine bodyPost_ret (v := .agg #[.string { data := #[67, 72, 65, 73, 78, 73, 68] }, .int .i64 0, .int .i64 1, .int .u64 2, .bool true, .int .i64 0]) (by simp [results, Tryz.results104, go_sem]) rfl ⟨rfl, ?_⟩
    repeat (first | exact xrefl _ | refine xalloc ?_ _ | refine xset ?_ (by simp) _)
  · rw [show rowGet c middleRows = noInfo by simp [rowGet, middleRows, h29, h32, h48, h49, h50, h51, h52, h53, h54, h55, h56, h57, h58, h59, h60, h61, h62, h63, h64, h65, h66, h67, h68, h69, h70]]
    replace h29 : ((c : Int) == 29) = false := by rw [beq_eq_false_iff_ne]; omega
    replace h32 : ((c : Int) == 32) = false := by rw [beq_eq_false_iff_ne]; omega
    replace h48 : ((c : Int) == 48) = false := by rw [beq_eq_false_iff_ne]; omega
    replace h49 : ((c : Int) == 49) = false := by rw [beq_eq_false_iff_ne]; omega
    replace h50 : ((c : Int) == 50) = false := by rw [beq_eq_false_iff_ne]; omega
    replace h51 : ((c : Int) == 51) = false := by rw [beq_eq_false_iff_ne]; omega
    replace h52 : ((c : Int) == 52) = false := by rw [beq_eq_false_iff_ne]; omega
    replace h53 : ((c : Int) == 53) = false := by rw [beq_eq_false_iff_ne]; omega
    replace h54 : ((c : Int) == 54) = false := by rw [beq_eq_false_iff_ne]; omega
    replace h55 : ((c : Int) == 55) = false := by rw [beq_eq_false_iff_ne]; omega
    replace h56 : ((c : Int) == 56) = false := by rw [beq_eq_false_iff_ne]; omega
    replace h57 : ((c : Int) == 57) = false := by rw [beq_eq_false_iff_ne]; omega
    replace h58 : ((c : Int) == 58) = false := by rw [beq_eq_false_iff_ne]; omega
    replace h59 : ((c : Int) == 59) = false := by rw [beq_eq_false_iff_ne]; omega
    replace h60 : ((c : Int) == 60) = false := by rw [beq_eq_false_iff_ne]; omega
    replace h61 : ((c : Int) == 61) = false := by rw [beq_eq_false_iff_ne]; omega
    replace h62 : ((c : Int) == 62) = false := by rw [beq_eq_false_iff_ne]; omega
    replace h63 : ((c : Int) == 63) = false := by rw [beq_eq_false_iff_ne]; omega
    replace h64 : ((c : Int) == 64) = false := by rw [beq_eq_false_iff_ne]; omega
    replace h65 : ((c : Int) == 65) = false := by rw [beq_eq_false_iff_ne]; omega
    replace h66 : ((c : Int) == 66) = false := by rw [beq_eq_false_iff_ne]; omega
    replace h67 : ((c : Int) == 67) = false := by rw [beq_eq_false_iff_ne]; omega
    replace h68 : ((c : Int) == 68) = false := by rw [beq_eq_false_iff_ne]; omega
    replace h69 : ((c : Int) == 69) = false := by rw [beq_eq_false_iff_ne]; omega
    replace h70 : ((c : Int) == 70) = false := by rw [beq_eq_false_iff_ne]; omega
    go_enter Tryz.func104, Tryz.ntmps104
    go_wp2
    refine bodyPost_ret (v := .agg #[.string { data := #[] }, .int .i64 0, .int .i64 0, .int .u64 0, .bool false, .int .i64 0]) (by simp [results, Tryz.results104, go_sem]) rfl ⟨rfl, ?_⟩
    repeat (first | exact xrefl _ | refine xalloc ?_ _ | refine xset ?_ (by simp) _)
end Go.Proofs.YtijkdabmegbcjaaGreatDoor
namespace Go.Proofs.YtijkdabmegbcjaaGreatDoor
open Go.RowKit

set_option maxRecDepth 100000 in
set_option maxHeartbeats 4000000 in
theorem refHigh_any (c : Nat) (w : World) : Calls Tryz.prog 105 #[.int .u8 c] w fun e w' => e = .returned (infoV (rowGet c highRows)) ∧ Below w.heap.size w w' := by
  by_cases h71 : c = 71
  · subst h71
    go_enter Tryz.func105, Tryz.ntmps105
    go_wp2
    refine bodyPost_ret (v := .agg #[.string { data := #[83, 69, 76, 70, 66, 65, 76, 65, 78, 67, 69] }, .int .i64 0, .int .i64 1, .int .u64 5, .bool false, .int .i64 0]) (by simp [results, Tryz.results105, go_sem]) rfl ⟨rfl, ?_⟩
    repeat (first | exact xrefl _ | refine xalloc ?_ _ | refine xset ?_ (by simp) _)
  by_cases h72 : c = 72
  · subst h72
    go_enter Tryz.func105, Tryz.ntmps105
    go_wp2
    refine bodyPost_ret (v := .agg #[.string { data := #[66, 65, 83, 69, 70, 69, 69] }, .int .i64 0, .int .i64 1, .int .u64 2, .bool true, .int .i64 0]) (by simp [results, Tryz.results105, go_sem]) rfl ⟨rfl, ?_⟩
    repeat (first | exact xrefl _ | refine xalloc ?_ _ | refine xset ?_ (by simp) _)
  by_cases h80 : c = 80
  · subst h80
    go_enter Tryz.func105, Tryz.ntmps105
    go_wp2
    refine bodyPost_ret (v := .agg #[.string { data := #[80, 79, 80] }, .int .i64 1, .int .i64 0, .int .u64 2, .bool true, .int .i64 0]) (by simp [results, Tryz.results105, go_sem]) rfl ⟨rfl, ?_⟩
    repeat (first | exact xrefl _ | refine xalloc ?_ _ | refine xset ?_ (by simp) _)
  by_cases h81 : c = 81
  · subst h81
    go_enter Tryz.func105, Tryz.ntmps105
    go_wp2
    refine bodyPost_ret (v := .agg #[.string { data := #[77, 76, 79, 65, 68] }, .int .i64 1, .int .i64 1, .int .u64 3, .bool false, .int .i64 0]) (by simp [results, Tryz.results105, go_sem]) rfl ⟨rfl, ?_⟩
    repeat (first | exact xrefl _ | refine xalloc ?_ _ | refine xset ?_ (by simp) _)
  by_cases h82 : c = 82
  · subst h82
    go_enter Tryz.func105, Tryz.ntmps105
    go_wp2
    refine bodyPost_ret (v := .agg #[.string { data := #[77, 83, 84, 79, 82, 69] }, .int .i64 2, .int .i64 0, .int .u64 3, .bool false, .int .i64 0]) (by simp [results, Tryz.results105, go_sem]) rfl ⟨rfl, ?_⟩
    repeat (first | exact xrefl _ | refine xalloc ?_ _ | refine xset ?_ (by simp) _)
  by_cases h83 : c = 83
  · subst h83
    go_enter Tryz.func105, Tryz.ntmps105
    go_wp2
    refine bodyPost_ret (v := .agg #[.string { data := #[77, 83, 84, 79, 82, 69, 56] }, .int .i64 2, .int .i64 0, .int .u64 3, .bool false, .int .i64 0]) (by simp [results, Tryz.results105, go_sem]) rfl ⟨rfl, ?_⟩
    repeat (first | exact xrefl _ | refine xalloc ?_ _ | refine xset ?_ (by simp) _)
  by_cases h84 : c = 84
  · subst h84
    go_enter Tryz.func105, Tryz.ntmps105
    go_wp2
    refine bodyPost_ret (v := .agg #[.string { data := #[83, 76, 79, 65, 68] }, .int .i64 1, .int .i64 1, .int .u64 0, .bool false, .int .i64 0]) (by simp [results, Tryz.results105, go_sem]) rfl ⟨rfl, ?_⟩
    repeat (first | exact xrefl _ | refine xalloc ?_ _ | refine xset ?_ (by simp) _)
  by_cases h85 : c = 85
  · subst h85
    go_enter Tryz.func105, Tryz.ntmps105
    go_wp2
    refine bodyPost_ret (v := .agg #[.string { data := #[83, 83, 84, 79, 82, 69] }, .int .i64 2, .int .i64 0, .int .u64 0, .bool false, .int .i64 0]) (by simp [results, Tryz.results105, go_sem]) rfl ⟨rfl, ?_⟩
    repeat (first | exact xrefl _ | refine xalloc ?_ _ | refine xset ?_ (by simp) _)
  by_cases h86 : c = 86
  · subst h86
    go_enter Tryz.func105, Tryz.ntmps105
    go_wp2
    refine bodyPost_ret (v := .agg #[.string { data := #[74, 85, 77, 80] }, .int .i64 1, .int .i64 0, .int .u64 8, .bool false, .int .i64 0]) (by simp [results, Tryz.results105, go_sem]) rfl ⟨rfl, ?_⟩
    repeat (first | exact xrefl _ | refine xalloc ?_ _ | refine xset ?_ (by simp) _)
  by_cases h87 : c = 87
  · subst h87
    go_enter Tryz.func105, Tryz.ntmps105
    go_wp2
    refine bodyPost_ret (v := .agg #[.string { data := #[74, 85, 77, 80, 73] }, .int .i64 2, .int .i64 0, .int .u64 10, .bool false, .int .i64 0]) (by simp [results, Tryz.results105, go_sem]) rfl ⟨rfl, ?_⟩
    repeat (first | exact xrefl _ | refine xalloc ?_ _ | refine xset ?_ (by simp) _)
  by_cases h88 : c = 88
  · subst h88
    go_enter Tryz.func105, Tryz.ntmps105
    go_wp2
    refine bodyPost_ret (v := .agg #[.string { data := #[80, 67] }, .int .i64 0, .int .i64 1, .int .u64 2, .bool true, .int .i64 0]) (by simp [results, Tryz.results105, go_sem]) rfl ⟨rfl, ?_⟩
    repeat (first | exact xrefl _ | refine xalloc ?_ _ | refine xset ?_ (by simp) _)
  by_cases h89 : c = 89
  · subst h89
    go_enter Tryz.func105, Tryz.ntmps105
    go_wp2
    refine bodyPost_ret (v := .agg #[.string { data := #[77, 83, 73, 90, 69] }, .int .i64 0, .int .i64 1, .int .u64 2, .bool true, .int .i64 0]) (by simp [results, Tryz.results105, go_sem]) rfl ⟨rfl, ?_⟩
    repeat (first | exact xrefl _ | refine xalloc ?_ _ | refine xset ?_ (by simp) _)
  by_cases h90 : c = 90
  · subst h90
    go_enter Tryz.func105, Tryz.ntmps105
    go_wp2
    refine bodyPost_ret (v := .agg #[.string { data := #[71, 65, 83] }, .int .i64 0, .int .i64 1, .int .u64 2, .bool false, .int .i64 0]) (by simp [results, Tryz.results105, go_sem]) rfl ⟨rfl, ?_⟩
    repeat (first | exact xrefl _ | refine xalloc ?_ _ | refine xset ?_ (by simp) _)
  by_cases h91 : c = 91
  · subst h91
    go_enter Tryz.func105, Tryz.ntmps105
    go_wp2
    refine bodyPost_ret (v := .agg #[.string { data := #[74, 85, 77, 80, 68, 69, 83, 84] }, .int .i64 0, .int .i64 0, .int .u64 1, .bool true, .int .i64 0]) (by simp [results, Tryz.results105, go_sem]) rfl ⟨rfl, ?_⟩
    repeat (first | exact xrefl _ | refine xalloc ?_ _ | refine xset ?_ (by simp) _)
  by_cases h95 : c = 95
  · subst h95
    go_enter Tryz.func105, Tryz.ntmps105
    go_wp2
    refine bodyPost_ret (v := .agg #[.string { data := #[80, 85, 83, 72, 48] }, .int .i64 0, .int .i64 1, .int .u64 2, .bool true, .int .i64 0]) (by simp [results, Tryz.results105, go_sem]) rfl ⟨rfl, ?_⟩
    repeat (first | exact xrefl _ | refine xalloc ?_ _ | refine xset ?_ (by simp) _)
  by_cases h240 : c = 240
  · subst h240
    go_enter Tryz.func105, Tryz.ntmps105
    go_wp2
    refine bodyPost_ret (v := .agg #[.string { data := #[67, 82, 69, 65, 84, 69] }, .int .i64 3, .int .i64 1, .int .u64 32000, .bool false, .int .i64 0]) (by simp [results, Tryz.results105, go_sem]) rfl ⟨rfl, ?_⟩
    repeat (first | exact xrefl _ | refine xalloc ?_ _ | refine xset ?_ (by simp) _)
  by_cases h241 : c = 241
  · subst h241
    go_enter Tryz.func105, Tryz.ntmps105
    go_wp2
    refine bodyPost_ret (v := .agg #[.string { data := #[67, 65, 76, 76] }, .int .i64 7, .int .i64 1, .int .u64 0, .bool false, .int .i64 0]) (by simp [results, Tryz.results105, go_sem]) rfl ⟨rfl, ?_⟩
    repeat (first | exact xrefl _ | refine xalloc ?_ _ | refine xset ?_ (by simp) _)
  by_cases h242 : c = 242
  · subst h242
    go_enter Tryz.func105, Tryz.ntmps105
    go_wp2
    refine bodyPost_ret (v := .agg #[.string { data := #[67, 65, 76, 76, 67, 79, 68, 69] }, .int .i64 7, .int .i64 1, .int .u64 0, .bool false, .int .i64 0]) (by simp [results, Tryz.results105, go_sem]) rfl ⟨rfl, ?_⟩
    repeat (first | exact xrefl _ | refine xalloc ?_ _ | refine xset ?_ (by simp) _)
  by_cases h243 : c = 243
  · subst h243
    go_enter Tryz.func105, Tryz.ntmps105
    go_wp2
    refine bodyPost_ret (v := .agg #[.string { data := #[82, 69, 84, 85, 82, 78] }, .int .i64 2, .int .i64 0, .int .u64 0, .bool false, .int .i64 0]) (by simp [results, Tryz.results105, go_sem]) rfl ⟨rfl, ?_⟩
    repeat (first | exact xrefl _ | refine xalloc ?_ _ | refine xset ?_ (by simp) _)
  by_cases h244 : c = 244
  · subst h244
    go_enter Tryz.func105, Tryz.ntmps105
    go_wp2
    refine bodyPost_ret (v := .agg #[.string { data := #[68, 69, 76, 69, 71, 65, 84, 69, 67, 65, 76, 76] }, .int .i64 6, .int .i64 1, .int .u64 0, .bool false, .int .i64 0]) (by simp [results, Tryz.results105, go_sem]) rfl ⟨rfl, ?_⟩
    repeat (first | exact xrefl _ | refine xalloc ?_ _ | refine xset ?_ (by simp) _)
  by_cases h245 : c = 245
  · subst h245
    go_enter Tryz.func105, Tryz.ntmps105
    go_wp2
    refine bodyPost_ret (v := .agg #[.string { data := #[67, 82, 69, 65, 84, 69, 50] }, .int .i64 4, .int .i64 1, .int .u64 32000, .bool false, .int .i64 0]) (by simp [results, Tryz.results105, go_sem]) rfl ⟨rfl, ?_⟩
    repeat (first | exact xrefl _ | refine xalloc ?_ _ | refine xset ?_ (by simp) _)
  by_cases h250 : c = 250
  · subst h250
    go_enter Tryz.func105, Tryz.ntmps105
    go_wp2
    refine bodyPost_ret (v := .agg #[.string { data := #[83, 84, 65, 84, 73, 67, 67, 65, 76, 76] }, .int .i64 6, .int .i64 1, .int .u64 0, .bool false, .int .i64 0]) (by simp [results, Tryz.results105, go_sem]) rfl ⟨rfl, ?_⟩
    repeat (first | exact xrefl _ | refine xalloc ?_ _ | refine xset ?_ (by simp) _)
  by_cases h253 : c = 253
  · subst h253
    go_enter Tryz.func105, Tryz.ntmps105
    go_wp2
    refine bodyPost_ret (v := .agg #[.string { data := #[82, 69, 86, 69, 82, 84] }, .int .i64 2, .int .i64 0, .int .u64 0, .bool false, .int .i64 0]) (by simp [results, Tryz.results105, go_sem]) rfl ⟨rfl, ?_⟩
    repeat (first | exact xrefl _ | refine xalloc ?_ _ | refine xset ?_ (by simp) _)
  by_cases h254 : c = 254
  · subst h254
    go_enter Tryz.func105, Tryz.ntmps105
    go_wp2
    refine bodyPost_ret (v := .agg #[.string { data := #[73, 78, 86, 65, 76, 73, 68] }, .int .i64 0, .int .i64 0, .int .u64 0, .bool false, .int .i64 0]) (by simp [results, Tryz.results105, go_sem]) rfl ⟨rfl, ?_⟩
    repeat (first | exact xrefl _ | refine xalloc ?_ _ | refine xset ?_ (by simp) _)
  by_cases h255 : c = 255
  · subst h255
    go_enter Tryz.func105, Tryz.ntmps105
    go_wp2
    refine bodyPost_ret (v := .agg #[.string { data := #[83, 69, 76, 70, 68, 69, 83, 84, 82, 85, 67, 84] }, .int .i64 1, .int .i64 0, .int .u64 5000, .bool false, .int .i64 0]) (by simp [results, Tryz.results105, go_sem]) rfl ⟨rfl, ?_⟩
    repeat (first | exact xrefl _ | refine xalloc ?_ _ | refine xset ?_ (by simp) _)
  · rw [show rowGet c highRows = noInfo by simp [rowGet, highRows, h71, h72, h80, h81, h82, h83, h84, h85, h86, h87, h88, h89, h90, h91, h95, h240, h241, h242, h243, h244, h245, h250, h253, h254, h255]]
    replace h71 : ((c : Int) == 71) = false := by rw [beq_eq_false_iff_ne]; omega
    replace h72 : ((c : Int) == 72) = false := by rw [beq_eq_false_iff_ne]; omega
    replace h80 : ((c : Int) == 80) = false := by rw [beq_eq_false_iff_ne]; omega
    replace h81 : ((c : Int) == 81) = false := by rw [beq_eq_false_iff_ne]; omega
    replace h82 : ((c : Int) == 82) = false := by rw [beq_eq_false_iff_ne]; omega
    replace h83 : ((c : Int) == 83) = false := by rw [beq_eq_false_iff_ne]; omega
    replace h84 : ((c : Int) == 84) = false := by rw [beq_eq_false_iff_ne]; omega
    replace h85 : ((c : Int) == 85) = false := by rw [beq_eq_false_iff_ne]; omega
    replace h86 : ((c : Int) == 86) = false := by rw [beq_eq_false_iff_ne]; omega
    replace h87 : ((c : Int) == 87) = false := by rw [beq_eq_false_iff_ne]; omega
    replace h88 : ((c : Int) == 88) = false := by rw [beq_eq_false_iff_ne]; omega
    replace h89 : ((c : Int) == 89) = false := by rw [beq_eq_false_iff_ne]; omega
    replace h90 : ((c : Int) == 90) = false := by rw [beq_eq_false_iff_ne]; omega
    replace h91 : ((c : Int) == 91) = false := by rw [beq_eq_false_iff_ne]; omega
    replace h95 : ((c : Int) == 95) = false := by rw [beq_eq_false_iff_ne]; omega
    replace h240 : ((c : Int) == 240) = false := by rw [beq_eq_false_iff_ne]; omega
    replace h241 : ((c : Int) == 241) = false := by rw [beq_eq_false_iff_ne]; omega
    replace h242 : ((c : Int) == 242) = false := by rw [beq_eq_false_iff_ne]; omega
    replace h243 : ((c : Int) == 243) = false := by rw [beq_eq_false_iff_ne]; omega
    replace h244 : ((c : Int) == 244) = false := by rw [beq_eq_false_iff_ne]; omega
    replace h245 : ((c : Int) == 245) = false := by rw [beq_eq_false_iff_ne]; omega
    replace h250 : ((c : Int) == 250) = false := by rw [beq_eq_false_iff_ne]; omega
    replace h253 : ((c : Int) == 253) = false := by rw [beq_eq_false_iff_ne]; omega
    replace h254 : ((c : Int) == 254) = false := by rw [beq_eq_false_iff_ne]; omega
    replace h255 : ((c : Int) == 255) = false := by rw [beq_eq_false_iff_ne]; omega
    go_enter Tryz.func105, Tryz.ntmps105
    go_wp2
    refine bodyPost_ret (v := .agg #[.string { data := #[] }, .int .i64 0, .int .i64 0, .int .u64 0, .bool false, .int .i64 0]) (by simp [results, Tryz.results105, go_sem]) rfl ⟨rfl, ?_⟩
    repeat (first | exact xrefl _ | refine xalloc ?_ _ | refine xset ?_ (by simp) _)
end Go.Proofs.YtijkdabmegbcjaaGreatDoor
