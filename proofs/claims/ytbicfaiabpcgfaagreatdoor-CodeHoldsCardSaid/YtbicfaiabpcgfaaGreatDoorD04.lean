/- Texts of this claim, merged; no condition. -/
import Derived.Test.YtbicfaiabpcgfaaGreatDoorD00
set_option linter.all false
namespace Go.Proofs.YtbicfaiabpcgfaaGreatDoor
open Go.RowKit

set_option maxRecDepth 100000 in
set_option maxHeartbeats 4000000 in
theorem refLow_any (c : Nat) (w : World) : Calls Tryz.prog 27 #[.int .u8 c] w fun e w' => e = .returned (infoV (rowGet c lowRows)) ∧ Below w.heap.size w w' := by
  by_cases h0 : c = 0
  · subst h0
    go_enter Tryz.func27, Tryz.ntmps27
    go_wp2
    refine bodyPost_ret (v := .agg #[.string { data := #[83, 84, 79, 80] }, .int .i64 0, .int .i64 0, .int .u64 0, .bool false, .int .i64 0]) (by simp [results, Tryz.results27, go_sem]) rfl ⟨rfl, ?_⟩
    repeat (first | exact xrefl _ | refine xalloc ?_ _ | refine xset ?_ (by simp) _)
  by_cases h1 : c = 1
  · subst h1
    go_enter Tryz.func27, Tryz.ntmps27
    go_wp2
    refine bodyPost_ret (v := .agg #[.string { data := #[65, 68, 68] }, .int .i64 2, .int .i64 1, .int .u64 3, .bool true, .int .i64 0]) (by simp [results, Tryz.results27, go_sem]) rfl ⟨rfl, ?_⟩
    repeat (first | exact xrefl _ | refine xalloc ?_ _ | refine xset ?_ (by simp) _)
  by_cases h2 : c = 2
  · subst h2
    go_enter Tryz.func27, Tryz.ntmps27
    go_wp2
    refine bodyPost_ret (v := .agg #[.string { data := #[77, 85, 76] }, .int .i64 2, .int .i64 1, .int .u64 5, .bool true, .int .i64 0]) (by simp [results, Tryz.results27, go_sem]) rfl ⟨rfl, ?_⟩
    repeat (first | exact xrefl _ | refine xalloc ?_ _ | refine xset ?_ (by simp) _)
  by_cases h3 : c = 3
  · subst h3
    go_enter Tryz.func27, Tryz.ntmps27
    go_wp2
    refine bodyPost_ret (v := .agg #[.string { data := #[83, 85, 66] }, .int .i64 2, .int .i64 1, .int .u64 3, .bool true, .int .i64 0]) (by simp [results, Tryz.results27, go_sem]) rfl ⟨rfl, ?_⟩
    repeat (first | exact xrefl _ | refine xalloc ?_ _ | refine xset ?_ (by simp) _)
  by_cases h4 : c = 4
  · subst h4
    go_enter Tryz.func27, Tryz.ntmps27
    go_wp2
    refine bodyPost_ret (v := .agg #[.string { data := #[68, 73, 86] }, .int .i64 2, .int .i64 1, .int .u64 5, .bool true, .int .i64 0]) (by simp [results, Tryz.results27, go_sem]) rfl ⟨rfl, ?_⟩
    repeat (first | exact xrefl _ | refine xalloc ?_ _ | refine xset ?_ (by simp) _)
  by_cases h5 : c = 5
  · subst h5
    go_enter Tryz.func27, Tryz.ntmps27
    go_wp2
    refine bodyPost_ret (v := .agg #[.string { data := #[83, 68, 73, 86] }, .int .i64 2, .int .i64 1, .int .u64 5, .bool true, .int .i64 0]) (by simp [results, Tryz.results27, go_sem]) rfl ⟨rfl, ?_⟩
    repeat (first | exact xrefl _ | refine xalloc ?_ _ | refine xset ?_ (by simp) _)
  by_cases h6 : c = 6
  · subst h6
    go_enter Tryz.func27, Tryz.ntmps27
    go_wp2
    refine bodyPost_ret (v := .agg #[.string { data := #[77, 79, 68] }, .int .i64 2, .int .i64 1, .int .u64 5, .bool true, .int .i64 0]) (by simp [results, Tryz.results27, go_sem]) rfl ⟨rfl, ?_⟩
    repeat (first | exact xrefl _ | refine xalloc ?_ _ | refine xset ?_ (by simp) _)
  by_cases h7 : c = 7
  · subst h7
    go_enter Tryz.func27, Tryz.ntmps27
    go_wp2
    refine bodyPost_ret (v := .agg #[.string { data := #[83, 77, 79, 68] }, .int .i64 2, .int .i64 1, .int .u64 5, .bool true, .int .i64 0]) (by simp [results, Tryz.results27, go_sem]) rfl ⟨rfl, ?_⟩
    repeat (first | exact xrefl _ | refine xalloc ?_ _ | refine xset ?_ (by simp) _)
  by_cases h8 : c = 8
  · subst h8
    go_enter Tryz.func27, Tryz.ntmps27
    go_wp2
    refine bodyPost_ret (v := .agg #[.string { data := #[65, 68, 68, 77, 79, 68] }, .int .i64 3, .int .i64 1, .int .u64 8, .bool true, .int .i64 0]) (by simp [results, Tryz.results27, go_sem]) rfl ⟨rfl, ?_⟩
    repeat (first | exact xrefl _ | refine xalloc ?_ _ | refine xset ?_ (by simp) _)
  by_cases h9 : c = 9
  · subst h9
    go_enter Tryz.func27, Tryz.ntmps27
    go_wp2
    refine bodyPost_ret (v := .agg #[.string { data := #[77, 85, 76, 77, 79, 68] }, .int .i64 3, .int .i64 1, .int .u64 8, .bool true, .int .i64 0]) (by simp [results, Tryz.results27, go_sem]) rfl ⟨rfl, ?_⟩
    repeat (first | exact xrefl _ | refine xalloc ?_ _ | refine xset ?_ (by simp) _)
  by_cases h10 : c = 10
  · subst h10
    go_enter Tryz.func27, Tryz.ntmps27
    go_wp2
    refine bodyPost_ret (v := .agg #[.string { data := #[69, 88, 80] }, .int .i64 2, .int .i64 1, .int .u64 10, .bool false, .int .i64 0]) (by simp [results, Tryz.results27, go_sem]) rfl ⟨rfl, ?_⟩
    repeat (first | exact xrefl _ | refine xalloc ?_ _ | refine xset ?_ (by simp) _)
  by_cases h11 : c = 11
  · subst h11
    go_enter Tryz.func27, Tryz.ntmps27
    go_wp2
    refine bodyPost_ret (v := .agg #[.string { data := #[83, 73, 71, 78, 69, 88, 84, 69, 78, 68] }, .int .i64 2, .int .i64 1, .int .u64 5, .bool true, .int .i64 0]) (by simp [results, Tryz.results27, go_sem]) rfl ⟨rfl, ?_⟩
    repeat (first | exact xrefl _ | refine xalloc ?_ _ | refine xset ?_ (by simp) _)
  by_cases h16 : c = 16
  · subst h16
    go_enter Tryz.func27, Tryz.ntmps27
    go_wp2
    refine bodyPost_ret (v := .agg #[.string { data := #[76, 84] }, .int .i64 2, .int .i64 1, .int .u64 3, .bool true, .int .i64 0]) (by simp [results, Tryz.results27, go_sem]) rfl ⟨rfl, ?_⟩
    repeat (first | exact xrefl _ | refine xalloc ?_ _ | refine xset ?_ (by simp) _)
  by_cases h17 : c = 17
  · subst h17
    go_enter Tryz.func27, Tryz.ntmps27
    go_wp2
    refine bodyPost_ret (v := .agg #[.string { data := #[71, 84] }, .int .i64 2, .int .i64 1, .int .u64 3, .bool true, .int .i64 0]) (by simp [results, Tryz.results27, go_sem]) rfl ⟨rfl, ?_⟩
    repeat (first | exact xrefl _ | refine xalloc ?_ _ | refine xset ?_ (by simp) _)
  by_cases h18 : c = 18
  · subst h18
    go_enter Tryz.func27, Tryz.ntmps27
    go_wp2
    refine bodyPost_ret (v := .agg #[.string { data := #[83, 76, 84] }, .int .i64 2, .int .i64 1, .int .u64 3, .bool true, .int .i64 0]) (by simp [results, Tryz.results27, go_sem]) rfl ⟨rfl, ?_⟩
    repeat (first | exact xrefl _ | refine xalloc ?_ _ | refine xset ?_ (by simp) _)
  by_cases h19 : c = 19
  · subst h19
    go_enter Tryz.func27, Tryz.ntmps27
    go_wp2
    refine bodyPost_ret (v := .agg #[.string { data := #[83, 71, 84] }, .int .i64 2, .int .i64 1, .int .u64 3, .bool true, .int .i64 0]) (by simp [results, Tryz.results27, go_sem]) rfl ⟨rfl, ?_⟩
    repeat (first | exact xrefl _ | refine xalloc ?_ _ | refine xset ?_ (by simp) _)
  by_cases h20 : c = 20
  · subst h20
    go_enter Tryz.func27, Tryz.ntmps27
    go_wp2
    refine bodyPost_ret (v := .agg #[.string { data := #[69, 81] }, .int .i64 2, .int .i64 1, .int .u64 3, .bool true, .int .i64 0]) (by simp [results, Tryz.results27, go_sem]) rfl ⟨rfl, ?_⟩
    repeat (first | exact xrefl _ | refine xalloc ?_ _ | refine xset ?_ (by simp) _)
  by_cases h21 : c = 21
  · subst h21
    go_enter Tryz.func27, Tryz.ntmps27
    go_wp2
    refine bodyPost_ret (v := .agg #[.string { data := #[73, 83, 90, 69, 82, 79] }, .int .i64 1, .int .i64 1, .int .u64 3, .bool true, .int .i64 0]) (by simp [results, Tryz.results27, go_sem]) rfl ⟨rfl, ?_⟩
    repeat (first | exact xrefl _ | refine xalloc ?_ _ | refine xset ?_ (by simp) _)
  by_cases h22 : c = 22
  · subst h22
    go_enter Tryz.func27, Tryz.ntmps27
    go_wp2
    refine bodyPost_ret (v := .agg #[.string { data := #[65, 78, 68] }, .int .i64 2, .int .i64 1, .int .u64 3, .bool true, .int .i64 0]) (by simp [results, Tryz.results27, go_sem]) rfl ⟨rfl, ?_⟩
    repeat (first | exact xrefl _ | refine xalloc ?_ _ | refine xset ?_ (by simp) _)
  by_cases h23 : c = 23
  · subst h23
    go_enter Tryz.func27, Tryz.ntmps27
    go_wp2
    refine bodyPost_ret (v := .agg #[.string { data := #[79, 82] }, .int .i64 2, .int .i64 1, .int .u64 3, .bool true, .int .i64 0]) (by simp [results, Tryz.results27, go_sem]) rfl ⟨rfl, ?_⟩
    repeat (first | exact xrefl _ | refine xalloc ?_ _ | refine xset ?_ (by simp) _)
  by_cases h24 : c = 24
  · subst h24
    go_enter Tryz.func27, Tryz.ntmps27
    go_wp2
    refine bodyPost_ret (v := .agg #[.string { data := #[88, 79, 82] }, .int .i64 2, .int .i64 1, .int .u64 3, .bool true, .int .i64 0]) (by simp [results, Tryz.results27, go_sem]) rfl ⟨rfl, ?_⟩
    repeat (first | exact xrefl _ | refine xalloc ?_ _ | refine xset ?_ (by simp) _)
  by_cases h25 : c = 25
  · subst h25
    go_enter Tryz.func27, Tryz.ntmps27
    go_wp2
    refine bodyPost_ret (v := .agg #[.string { data := #[78, 79, 84] }, .int .i64 1, .int .i64 1, .int .u64 3, .bool true, .int .i64 0]) (by simp [results, Tryz.results27, go_sem]) rfl ⟨rfl, ?_⟩
    repeat (first | exact xrefl _ | refine xalloc ?_ _ | refine xset ?_ (by simp) _)
  by_cases h26 : c = 26
  · subst h26
    go_enter Tryz.func27, Tryz.ntmps27
    go_wp2
    refine bodyPost_ret (v := .agg #[.string { data := #[66, 89, 84, 69] }, .int .i64 2, .int .i64 1, .int .u64 3, .bool true, .int .i64 0]) (by simp [results, Tryz.results27, go_sem]) rfl ⟨rfl, ?_⟩
    repeat (first | exact xrefl _ | refine xalloc ?_ _ | refine xset ?_ (by simp) _)
  by_cases h27 : c = 27
  · subst h27
    go_enter Tryz.func27, Tryz.ntmps27
    go_wp2
    refine bodyPost_ret (v := .agg #[.string { data := #[83, 72, 76] }, .int .i64 2, .int .i64 1, .int .u64 3, .bool true, .int .i64 0]) (by simp [results, Tryz.results27, go_sem]) rfl ⟨rfl, ?_⟩
    repeat (first | exact xrefl _ | refine xalloc ?_ _ | refine xset ?_ (by simp) _)
  by_cases h28 : c = 28
  · subst h28
    go_enter Tryz.func27, Tryz.ntmps27
    go_wp2
    refine bodyPost_ret (v := .agg #[.string { data := #[83, 72, 82] }, .int .i64 2, .int .i64 1, .int .u64 3, .bool true, .int .i64 0]) (by simp [results, Tryz.results27, go_sem]) rfl ⟨rfl, ?_⟩
    repeat (first | exact xrefl _ | refine xalloc ?_ _ | refine xset ?_ (by simp) _)
  · rw [show rowGet c lowRows = noInfo by simp [rowGet, lowRows, h0, h1, h2, h3, h4, h5, h6, h7, h8, h9, h10, h11, h16, h17, h18, h19, h20, h21, h22, h23, h24, h25, h26, h27, h28]]
    replace h0 : ((c : Int) == 0) = false := by rw [beq_eq_false_iff_ne]; omega
    replace h1 : ((c : Int) == 1) = false := by rw [beq_eq_false_iff_ne]; omega
    replace h2 : ((c : Int) == 2) = false := by rw [beq_eq_false_iff_ne]; omega
    replace h3 : ((c : Int) == 3) = false := by rw [beq_eq_false_iff_ne]; omega
    replace h4 : ((c : Int) == 4) = false := by rw [beq_eq_false_iff_ne]; omega
    replace h5 : ((c : Int) == 5) = false := by rw [beq_eq_false_iff_ne]; omega
    replace h6 : ((c : Int) == 6) = false := by rw [beq_eq_false_iff_ne]; omega
    replace h7 : ((c : Int) == 7) = false := by rw [beq_eq_false_iff_ne]; omega
    replace h8 : ((c : Int) == 8) = false := by rw [beq_eq_false_iff_ne]; omega
    replace h9 : ((c : Int) == 9) = false := by rw [beq_eq_false_iff_ne]; omega
    replace h10 : ((c : Int) == 10) = false := by rw [beq_eq_false_iff_ne]; omega
    replace h11 : ((c : Int) == 11) = false := by rw [beq_eq_false_iff_ne]; omega
    replace h16 : ((c : Int) == 16) = false := by rw [beq_eq_false_iff_ne]; omega
    replace h17 : ((c : Int) == 17) = false := by rw [beq_eq_false_iff_ne]; omega
    replace h18 : ((c : Int) == 18) = false := by rw [beq_eq_false_iff_ne]; omega
    replace h19 : ((c : Int) == 19) = false := by rw [beq_eq_false_iff_ne]; omega
    replace h20 : ((c : Int) == 20) = false := by rw [beq_eq_false_iff_ne]; omega
    replace h21 : ((c : Int) == 21) = false := by rw [beq_eq_false_iff_ne]; omega
    replace h22 : ((c : Int) == 22) = false := by rw [beq_eq_false_iff_ne]; omega
    replace h23 : ((c : Int) == 23) = false := by rw [beq_eq_false_iff_ne]; omega
    replace h24 : ((c : Int) == 24) = false := by rw [beq_eq_false_iff_ne]; omega
    replace h25 : ((c : Int) == 25) = false := by rw [beq_eq_false_iff_ne]; omega
    replace h26 : ((c : Int) == 26) = false := by rw [beq_eq_false_iff_ne]; omega
    replace h27 : ((c : Int) == 27) = false := by rw [beq_eq_false_iff_ne]; omega
    replace h28 : ((c : Int) == 28) = false := by rw [beq_eq_false_iff_ne]; omega
    go_enter Tryz.func27, Tryz.ntmps27
    go_wp2
    refine bodyPost_ret (v := .agg #[.string { data := #[] }, .int .i64 0, .int .i64 0, .int .u64 0, .bool false, .int .i64 0]) (by simp [results, Tryz.results27, go_sem]) rfl ⟨rfl, ?_⟩
    repeat (first | exact xrefl _ | refine xalloc ?_ _ | refine xset ?_ (by simp) _)
end Go.Proofs.YtbicfaiabpcgfaaGreatDoor
namespace Go.Proofs.YtbicfaiabpcgfaaGreatDoor
open Go.RowKit

set_option maxRecDepth 100000 in
set_option maxHeartbeats 4000000 in
theorem refMiddle_any (c : Nat) (w : World) : Calls Tryz.prog 28 #[.int .u8 c] w fun e w' => e = .returned (infoV (rowGet c middleRows)) ∧ Below w.heap.size w w' := by
  by_cases h29 : c = 29
  · subst h29
    go_enter Tryz.func28, Tryz.ntmps28
    go_wp2
    refine bodyPost_ret (v := .agg #[.string { data := #[83, 65, 82] }, .int .i64 2, .int .i64 1, .int .u64 3, .bool true, .int .i64 0]) (by simp [results, Tryz.results28, go_sem]) rfl ⟨rfl, ?_⟩
    repeat (first | exact xrefl _ | refine xalloc ?_ _ | refine xset ?_ (by simp) _)
  by_cases h32 : c = 32
  · subst h32
    go_enter Tryz.func28, Tryz.ntmps28
    go_wp2
    refine bodyPost_ret (v := .agg #[.string { data := #[75, 69, 67, 67, 65, 75, 50, 53, 54] }, .int .i64 2, .int .i64 1, .int .u64 30, .bool false, .int .i64 0]) (by simp [results, Tryz.results28, go_sem]) rfl ⟨rfl, ?_⟩
    repeat (first | exact xrefl _ | refine xalloc ?_ _ | refine xset ?_ (by simp) _)
  by_cases h48 : c = 48
  · subst h48
    go_enter Tryz.func28, Tryz.ntmps28
    go_wp2
    refine bodyPost_ret (v := .agg #[.string { data := #[65, 68, 68, 82, 69, 83, 83] }, .int .i64 0, .int .i64 1, .int .u64 2, .bool true, .int .i64 0]) (by simp [results, Tryz.results28, go_sem]) rfl ⟨rfl, ?_⟩
    repeat (first | exact xrefl _ | refine xalloc ?_ _ | refine xset ?_ (by simp) _)
  by_cases h49 : c = 49
  · subst h49
    go_enter Tryz.func28, Tryz.ntmps28
    go_wp2
    refine bodyPost_ret (v := .agg #[.string { data := #[66, 65, 76, 65, 78, 67, 69] }, .int .i64 1, .int .i64 1, .int .u64 0, .bool false, .int .i64 0]) (by simp [results, Tryz.results28, go_sem]) rfl ⟨rfl, ?_⟩
    repeat (first | exact xrefl _ | refine xalloc ?_ _ | refine xset ?_ (by simp) _)
  by_cases h50 : c = 50
  · subst h50
    go_enter Tryz.func28, Tryz.ntmps28
    go_wp2
    refine bodyPost_ret (v := .agg #[.string { data := #[79, 82, 73, 71, 73, 78] }, .int .i64 0, .int .i64 1, .int .u64 2, .bool true, .int .i64 0]) (by simp [results, Tryz.results28, go_sem]) rfl ⟨rfl, ?_⟩
    repeat (first | exact xrefl _ | refine xalloc ?_ _ | refine xset ?_ (by simp) _)
  by_cases h51 : c = 51
  · subst h51
    go_enter Tryz.func28, Tryz.ntmps28
    go_wp2
    refine bodyPost_ret (v := .agg #[.string { data := #[67, 65, 76, 76, 69, 82] }, .int .i64 0, .int .i64 1, .int .u64 2, .bool true, .int .i64 0]) (by simp [results, Tryz.results28, go_sem]) rfl ⟨rfl, ?_⟩
    repeat (first | exact xrefl _ | refine xalloc ?_ _ | refine xset ?_ (by simp) _)
  by_cases h52 : c = 52
  · subst h52
    go_enter Tryz.func28, Tryz.ntmps28
    go_wp2
    refine bodyPost_ret (v := .agg #[.string { data := #[67, 65, 76, 76, 86, 65, 76, 85, 69] }, .int .i64 0, .int .i64 1, .int .u64 2, .bool true, .int .i64 0]) (by simp [results, Tryz.results28, go_sem]) rfl ⟨rfl, ?_⟩
    repeat (first | exact xrefl _ | refine xalloc ?_ _ | refine xset ?_ (by simp) _)
  by_cases h53 : c = 53
  · subst h53
    go_enter Tryz.func28, Tryz.ntmps28
    go_wp2
    refine bodyPost_ret (v := .agg #[.string { data := #[67, 65, 76, 76, 68, 65, 84, 65, 76, 79, 65, 68] }, .int .i64 1, .int .i64 1, .int .u64 3, .bool false, .int .i64 0]) (by simp [results, Tryz.results28, go_sem]) rfl ⟨rfl, ?_⟩
    repeat (first | exact xrefl _ | refine xalloc ?_ _ | refine xset ?_ (by simp) _)
  by_cases h54 : c = 54
  · subst h54
    go_enter Tryz.func28, Tryz.ntmps28
    go_wp2
    refine bodyPost_ret (v := .agg #[.string { data := #[67, 65, 76, 76, 68, 65, 84, 65, 83, 73, 90, 69] }, .int .i64 0, .int .i64 1, .int .u64 2, .bool true, .int .i64 0]) (by simp [results, Tryz.results28, go_sem]) rfl ⟨rfl, ?_⟩
    repeat (first | exact xrefl _ | refine xalloc ?_ _ | refine xset ?_ (by simp) _)
  by_cases h55 : c = 55
  · subst h55
    go_enter Tryz.func28, Tryz.ntmps28
    go_wp2
    refine bodyPost_ret (v := .agg #[.string { data := #[67, 65, 76, 76, 68, 65, 84, 65, 67, 79, 80, 89] }, .int .i64 3, .int .i64 0, .int .u64 3, .bool false, .int .i64 0]) (by simp [results, Tryz.results28, go_sem]) rfl ⟨rfl, ?_⟩
    repeat (first | exact xrefl _ | refine xalloc ?_ _ | refine xset ?_ (by simp) _)
  by_cases h56 : c = 56
  · subst h56
    go_enter Tryz.func28, Tryz.ntmps28
    go_wp2
    refine bodyPost_ret (v := .agg #[.string { data := #[67, 79, 68, 69, 83, 73, 90, 69] }, .int .i64 0, .int .i64 1, .int .u64 2, .bool true, .int .i64 0]) (by simp [results, Tryz.results28, go_sem]) rfl ⟨rfl, ?_⟩
    repeat (first | exact xrefl _ | refine xalloc ?_ _ | refine xset ?_ (by simp) _)
  by_cases h57 : c = 57
  · subst h57
    go_enter Tryz.func28, Tryz.ntmps28
    go_wp2
    refine bodyPost_ret (v := .agg #[.string { data := #[67, 79, 68, 69, 67, 79, 80, 89] }, .int .i64 3, .int .i64 0, .int .u64 3, .bool false, .int .i64 0]) (by simp [results, Tryz.results28, go_sem]) rfl ⟨rfl, ?_⟩
    repeat (first | exact xrefl _ | refine xalloc ?_ _ | refine xset ?_ (by simp) _)
  by_cases h58 : c = 58
  · subst h58
    go_enter Tryz.func28, Tryz.ntmps28
    go_wp2
    refine bodyPost_ret (v := .agg #[.string { data := #[71, 65, 83, 80, 82, 73, 67, 69] }, .int .i64 0, .int .i64 1, .int .u64 2, .bool true, .int .i64 0]) (by simp [results, Tryz.results28, go_sem]) rfl ⟨rfl, ?_⟩
    repeat (first | exact xrefl _ | refine xalloc ?_ _ | refine xset ?_ (by simp) _)
  by_cases h59 : c = 59
  · subst h59
    go_enter Tryz.func28, Tryz.ntmps28
    go_wp2
    refine bodyPost_ret (v := .agg #[.string { data := #[69, 88, 84, 67, 79, 68, 69, 83, 73, 90, 69] }, .int .i64 1, .int .i64 1, .int .u64 0, .bool false, .int .i64 0]) (by simp [results, Tryz.results28, go_sem]) rfl ⟨rfl, ?_⟩
    repeat (first | exact xrefl _ | refine xalloc ?_ _ | refine xset ?_ (by simp) _)
  by_cases h60 : c = 60
  · subst h60
    go_enter Tryz.func28, Tryz.ntmps28
    go_wp2
    refine bodyPost_ret (v := .agg #[.string { data := #[69, 88, 84, 67, 79, 68, 69, 67, 79, 80, 89] }, .int .i64 4, .int .i64 0, .int .u64 0, .bool false, .int .i64 0]) (by simp [results, Tryz.results28, go_sem]) rfl ⟨rfl, ?_⟩
    repeat (first | exact xrefl _ | refine xalloc ?_ _ | refine xset ?_ (by simp) _)
  by_cases h61 : c = 61
  · subst h61
    go_enter Tryz.func28, Tryz.ntmps28
    go_wp2
    refine bodyPost_ret (v := .agg #[.string { data := #[82, 69, 84, 85, 82, 78, 68, 65, 84, 65, 83, 73, 90, 69] }, .int .i64 0, .int .i64 1, .int .u64 2, .bool true, .int .i64 0]) (by simp [results, Tryz.results28, go_sem]) rfl ⟨rfl, ?_⟩
    repeat (first | exact xrefl _ | refine xalloc ?_ _ | refine xset ?_ (by simp) _)
  by_cases h62 : c = 62
  · subst h62
    go_enter Tryz.func28, Tryz.ntmps28
    go_wp2
    refine bodyPost_ret (v := .agg #[.string { data := #[82, 69, 84, 85, 82, 78, 68, 65, 84, 65, 67, 79, 80, 89] }, .int .i64 3, .int .i64 0, .int .u64 3, .bool false, .int .i64 0]) (by simp [results, Tryz.results28, go_sem]) rfl ⟨rfl, ?_⟩
    repeat (first | exact xrefl _ | refine xalloc ?_ _ | refine xset ?_ (by simp) _)
  by_cases h63 : c = 63
  · subst h63
    go_enter Tryz.func28, Tryz.ntmps28
    go_wp2
    refine bodyPost_ret (v := .agg #[.string { data := #[69, 88, 84, 67, 79, 68, 69, 72, 65, 83, 72] }, .int .i64 1, .int .i64 1, .int .u64 0, .bool false, .int .i64 0]) (by simp [results, Tryz.results28, go_sem]) rfl ⟨rfl, ?_⟩
    repeat (first | exact xrefl _ | refine xalloc ?_ _ | refine xset ?_ (by simp) _)
  by_cases h64 : c = 64
  · subst h64
    go_enter Tryz.func28, Tryz.ntmps28
    go_wp2
    refine bodyPost_ret (v := .agg #[.string { data := #[66, 76, 79, 67, 75, 72, 65, 83, 72] }, .int .i64 1, .int .i64 1, .int .u64 20, .bool false, .int .i64 0]) (by simp [results, Tryz.results28, go_sem]) rfl ⟨rfl, ?_⟩
    repeat (first | exact xrefl _ | refine xalloc ?_ _ | refine xset ?_ (by simp) _)
  by_cases h65 : c = 65
  · subst h65
    go_enter Tryz.func28, Tryz.ntmps28
    go_wp2
    refine bodyPost_ret (v := .agg #[.string { data := #[67, 79, 73, 78, 66, 65, 83, 69] }, .int .i64 0, .int .i64 1, .int .u64 2, .bool true, .int .i64 0]) (by simp [results, Tryz.results28, go_sem]) rfl ⟨rfl, ?_⟩
    repeat (first | exact xrefl _ | refine xalloc ?_ _ | refine xset ?_ (by simp) _)
  by_cases h66 : c = 66
  · subst h66
    go_enter Tryz.func28, Tryz.ntmps28
    go_wp2
    refine bodyPost_ret (v := .agg #[.string { data := #[84, 73, 77, 69, 83, 84, 65, 77, 80] }, .int .i64 0, .int .i64 1, .int .u64 2, .bool true, .int .i64 0]) (by simp [results, Tryz.results28, go_sem]) rfl ⟨rfl, ?_⟩
    repeat (first | exact xrefl _ | refine xalloc ?_ _ | refine xset ?_ (by simp) _)
  by_cases h67 : c = 67
  · subst h67
    go_enter Tryz.func28, Tryz.ntmps28
    go_wp2
    refine bodyPost_ret (v := .agg #[.string { data := #[78, 85, 77, 66, 69, 82] }, .int .i64 0, .int .i64 1, .int .u64 2, .bool true, .int .i64 0]) (by simp [results, Tryz.results28, go_sem]) rfl ⟨rfl, ?_⟩
    repeat (first | exact xrefl _ | refine xalloc ?_ _ | refine xset ?_ (by simp) _)
  by_cases h68 : c = 68
  · subst h68
    go_enter Tryz.func28, Tryz.ntmps28
    go_wp2
    refine bodyPost_ret (v := .agg #[.string { data := #[80, 82, 69, 86, 82, 65, 78, 68, 65, 79] }, .int .i64 0, .int .i64 1, .int .u64 2, .bool true, .int .i64 0]) (by simp [results, Tryz.results28, go_sem]) rfl ⟨rfl, ?_⟩
    repeat (first | exact xrefl _ | refine xalloc ?_ _ | refine xset ?_ (by simp) _)
  by_cases h69 : c = 69
  · subst h69
    go_enter Tryz.func28, Tryz.ntmps28
    go_wp2
    refine bodyPost_ret (v := .agg #[.string { data := #[71, 65, 83, 76, 73, 77, 73, 84] }, .int .i64 0, .int .i64 1, .int .u64 2, .bool true, .int .i64 0]) (by simp [results, Tryz.results28, go_sem]) rfl ⟨rfl, ?_⟩
    repeat (first | exact xrefl _ | refine xalloc ?_ _ | refine xset ?_ (by simp) _)
  by_cases h70 : c = 70
  · subst h70
    go_enter Tryz.func28, Tryz.ntmps28
    go_wp2
    refine bodyPost_ret (v := .agg #[.string { data := #[67, 72, 65, 73, 78, 73, 68] }, .int .i64 0, .int .i64 1, .int .u64 2, .bool true, .int .i64 0]) (by simp [results, Tryz.results28, go_sem]) rfl ⟨rfl, ?_⟩
    repeat (first | exact xrefl _ | refine xalloc ?_ _ | refine xset ?_ (by simp) _)
  · rw [show rowGet c middleRows = noInfo by simp [rowGet, middleRows, h29, h32, h48, h49, h50, h51, h52, h53, h54, h55, h56, h57, h58, h59, h60, h61, h62, h63, h64, h65, h66, h67, h68, h69, h70]]
    replace h29 : ((c : Int) == 29) = false := by rw [beq_eq_false_iff_ne]; omega
    replace h32 : ((c : Int) == 32) = false := by rw [beq_eq_false_iff_ne]; omega
    replace h48 : ((c : Int) == 48) = false := by rw [beq_eq_false_iff_ne]; omega
    replace h49 : ((c : Int) == 49) = false := by rw [beq_eq_false_iff_ne]; omega
    replace h50 : ((c : Int) == 50) = false := by rw [beq_eq_false_iff_ne]; omega
    replace h51 : ((c : Int) == 51) = false := by rw [beq_eq_false_iff_ne]; omega
    replace h52 : ((c : Int) == 52) = false := by rw [beq_eq_false_iff_ne]; omega
    replace h53 : ((c : Int) == 53) = false := by rw [beq_eq_false_iff_ne]; omega
    replace h54 : ((c : Int) == 54) = false := by rw [beq_eq_false_iff_ne]; omega
    replace h55 : ((c : Int) == 55) = false := by rw [beq_eq_false_iff_ne]; omega
    replace h56 : ((c : Int) == 56) = false := by rw [beq_eq_false_iff_ne]; omega
    replace h57 : ((c : Int) == 57) = false := by rw [beq_eq_false_iff_ne]; omega
    replace h58 : ((c : Int) == 58) = false := by rw [beq_eq_false_iff_ne]; omega
    replace h59 : ((c : Int) == 59) = false := by rw [beq_eq_false_iff_ne]; omega
    replace h60 : ((c : Int) == 60) = false := by rw [beq_eq_false_iff_ne]; omega
    replace h61 : ((c : Int) == 61) = false := by rw [beq_eq_false_iff_ne]; omega
    replace h62 : ((c : Int) == 62) = false := by rw [beq_eq_false_iff_ne]; omega
    replace h63 : ((c : Int) == 63) = false := by rw [beq_eq_false_iff_ne]; omega
    replace h64 : ((c : Int) == 64) = false := by rw [beq_eq_false_iff_ne]; omega
    replace h65 : ((c : Int) == 65) = false := by rw [beq_eq_false_iff_ne]; omega
    replace h66 : ((c : Int) == 66) = false := by rw [beq_eq_false_iff_ne]; omega
    replace h67 : ((c : Int) == 67) = false := by rw [beq_eq_false_iff_ne]; omega
    replace h68 : ((c : Int) == 68) = false := by rw [beq_eq_false_iff_ne]; omega
    replace h69 : ((c : Int) == 69) = false := by rw [beq_eq_false_iff_ne]; omega
    replace h70 : ((c : Int) == 70) = false := by rw [beq_eq_false_iff_ne]; omega
    go_enter Tryz.func28, Tryz.ntmps28
    go_wp2
    refine bodyPost_ret (v := .agg #[.string { data := #[] }, .int .i64 0, .int .i64 0, .int .u64 0, .bool false, .int .i64 0]) (by simp [results, Tryz.results28, go_sem]) rfl ⟨rfl, ?_⟩
    repeat (first | exact xrefl _ | refine xalloc ?_ _ | refine xset ?_ (by simp) _)
end Go.Proofs.YtbicfaiabpcgfaaGreatDoor
