/- Texts of this claim, merged; no condition. -/
import Derived.Test.YtijkdabmegbcjaaGreatDoorT03
import Derived.Test.YtijkdabmegbcjaaGreatDoorT06
import Derived.Test.YtijkdabmegbcjaaGreatDoorT07
import Derived.Test.YtijkdabmegbcjaaGreatDoorTA
set_option linter.all false
namespace Go.Proofs.YtijkdabmegbcjaaGreatDoor
section
open Go.RowKit
set_option maxRecDepth 100000 in
set_option maxHeartbeats 4000000 in
theorem refHigh_any (c : Nat) (w : World) : Calls Tryz.prog 105 #[.int .u8 c] w fun e w' => e = .returned (infoV (rowGet c highRows)) ∧ Below w.heap.size w w' := by
  by_cases h71 : c = 71
  · subst h71
    go_enter Tryz.func105, Tryz.ntmps105
    go_wp2
    refine bodyPost_ret (v := .agg #[.string { data := #[83, 69, 76, 70, 66, 65, 76, 65, 78, 67, 69] }, .int .i64 0, .int .i64 1, .int .u64 5, .bool false, .int .i64 0]) (by simp [results, Tryz.results105, go_sem]) rfl ⟨rfl, ?_⟩
    repeat (first | exact xrefl _ | refine xalloc ?_ _ | refine xset ?_ (by simp) _)
  by_cases h72 : c = 72
  · subst h72
    go_enter Tryz.func105, Tryz.ntmps105
    go_wp2
    refine bodyPost_ret (v := .agg #[.string { data := #[66, 65, 83, 69, 70, 69, 69] }, .int .i64 0, .int .i64 1, .int .u64 2, .bool true, .int .i64 0]) (by simp [results, Tryz.results105, go_sem]) rfl ⟨rfl, ?_⟩
    repeat (first | exact xrefl _ | refine xalloc ?_ _ | refine xset ?_ (by simp) _)
  by_cases h80 : c = 80
  · subst h80
    go_enter Tryz.func105, Tryz.ntmps105
    go_wp2
    refine bodyPost_ret (v := .agg #[.string { data := #[80, 79, 80] }, .int .i64 1, .int .i64 0, .int .u64 2, .bool true, .int .i64 0]) (by simp [results, Tryz.results105, go_sem]) rfl ⟨rfl, ?_⟩
    repeat (first | exact xrefl _ | refine xalloc ?_ _ | refine xset ?_ (by simp) _)
  by_cases h81 : c = 81
  · subst h81
    go_enter Tryz.func105, Tryz.ntmps105
    go_wp2
    refine bodyPost_ret (v := .agg #[.string { data := #[77, 76, 79, 65, 68] }, .int .i64 1, .int .i64 1, .int .u64 3, .bool false, .int .i64 0]) (by simp [results, Tryz.results105, go_sem]) rfl ⟨rfl, ?_⟩
    repeat (first | exact xrefl _ | refine xalloc ?_ _ | refine xset ?_ (by simp) _)
  by_cases h82 : c = 82
  · subst h82
    go_enter Tryz.func105, Tryz.ntmps105
    go_wp2
    refine bodyPost_ret (v := .agg #[.string { data := #[77, 83, 84, 79, 82, 69] }, .int .i64 2, .int .i64 0, .int .u64 3, .bool false, .int .i64 0]) (by simp [results, Tryz.results105, go_sem]) rfl ⟨rfl, ?_⟩
    repeat (first | exact xrefl _ | refine xalloc ?_ _ | refine xset ?_ (by simp) _)
  by_cases h83 : c = 83
  · subst h83
    go_enter Tryz.func105, Tryz.ntmps105
    go_wp2
    refine bodyPost_ret (v := .agg #[.string { data := #[77, 83, 84, 79, 82, 69, 56] }, .int .i64 2, .int .i64 0, .int .u64 3, .bool false, .int .i64 0]) (by simp [results, Tryz.results105, go_sem]) rfl ⟨rfl, ?_⟩
    repeat (first | exact xrefl _ | refine xalloc ?_ _ | refine xset ?_ (by simp) _)
  by_cases h84 : c = 84
  · subst h84
    go_enter Tryz.func105, Tryz.ntmps105
    go_wp2
    refine bodyPost_ret (v := .agg #[.string { data := #[83, 76, 79, 65, 68] }, .int .i64 1, .int .i64 1, .int .u64 0, .bool false, .int .i64 0]) (by simp [results, Tryz.results105, go_sem]) rfl ⟨rfl, ?_⟩
    repeat (first | exact xrefl _ | refine xalloc ?_ _ | refine xset ?_ (by simp) _)
  by_cases h85 : c = 85
  · subst h85
    go_enter Tryz.func105, Tryz.ntmps105
    go_wp2
    refine bodyPost_ret (v := .agg #[.string { data := #[83, 83, 84, 79, 82, 69] }, .int .i64 2, .int .i64 0, .int .u64 0, .bool false, .int .i64 0]) (by simp [results, Tryz.results105, go_sem]) rfl ⟨rfl, ?_⟩
    repeat (first | exact xrefl _ | refine xalloc ?_ _ | refine xset ?_ (by simp) _)
  by_cases h86 : c = 86
  · subst h86
    go_enter Tryz.func105, Tryz.ntmps105
    go_wp2
    refine bodyPost_ret (v := .agg #[.string { data := #[74, 85, 77, 80] }, .int .i64 1, .int .i64 0, .int .u64 8, .bool false, .int .i64 0]) (by simp [results, Tryz.results105, go_sem]) rfl ⟨rfl, ?_⟩
    repeat (first | exact xrefl _ | refine xalloc ?_ _ | refine xset ?_ (by simp) _)
  by_cases h87 : c = 87
  · subst h87
    go_enter Tryz.func105, Tryz.ntmps105
    go_wp2
    refine bodyPost_ret (v := .agg #[.string { data := #[74, 85, 77, 80, 73] }, .int .i64 2, .int .i64 0, .int .u64 10, .bool false, .int .i64 0]) (by simp [results, Tryz.results105, go_sem]) rfl ⟨rfl, ?_⟩
    repeat (first | exact xrefl _ | refine xalloc ?_ _ | refine xset ?_ (by simp) _)
  by_cases h88 : c = 88
  · subst h88
    go_enter Tryz.func105, Tryz.ntmps105
    go_wp2
    refine bodyPost_ret (v := .agg #[.string { data := #[80, 67] }, .int .i64 0, .int .i64 1, .int .u64 2, .bool true, .int .i64 0]) (by simp [results, Tryz.results105, go_sem]) rfl ⟨rfl, ?_⟩
    repeat (first | exact xrefl _ | refine xalloc ?_ _ | refine xset ?_ (by simp) _)
  by_cases h89 : c = 89
  · subst h89
    go_enter Tryz.func105, Tryz.ntmps105
    go_wp2
    refine bodyPost_ret (v := .agg #[.string { data := #[77, 83, 73, 90, 69] }, .int .i64 0, .int .i64 1, .int .u64 2, .bool true, .int .i64 0]) (by simp [results, Tryz.results105, go_sem]) rfl ⟨rfl, ?_⟩
    repeat (first | exact xrefl _ | refine xalloc ?_ _ | refine xset ?_ (by simp) _)
  by_cases h90 : c = 90
  · subst h90
    go_enter Tryz.func105, Tryz.ntmps105
    go_wp2
    refine bodyPost_ret (v := .agg #[.string { data := #[71, 65, 83] }, .int .i64 0, .int .i64 1, .int .u64 2, .bool false, .int .i64 0]) (by simp [results, Tryz.results105, go_sem]) rfl ⟨rfl, ?_⟩
    repeat (first | exact xrefl _ | refine xalloc ?_ _ | refine xset ?_ (by simp) _)
  by_cases h91 : c = 91
  · subst h91
    go_enter Tryz.func105, Tryz.ntmps105
    go_wp2
    refine bodyPost_ret (v := .agg #[.string { data := #[74, 85, 77, 80, 68, 69, 83, 84] }, .int .i64 0, .int .i64 0, .int .u64 1, .bool true, .int .i64 0]) (by simp [results, Tryz.results105, go_sem]) rfl ⟨rfl, ?_⟩
    repeat (first | exact xrefl _ | refine xalloc ?_ _ | refine xset ?_ (by simp) _)
  by_cases h95 : c = 95
  · subst h95
    go_enter Tryz.func105, Tryz.ntmps105
    go_wp2
    refine bodyPost_ret (v := .agg #[.string { data := #[80, 85, 83, 72, 48] }, .int .i64 0, .int .i64 1, .int .u64 2, .bool true, .int .i64 0]) (by simp [results, Tryz.results105, go_sem]) rfl ⟨rfl, ?_⟩
    repeat (first | exact xrefl _ | refine xalloc ?_ _ | refine xset ?_ (by simp) _)
  by_cases h240 : c = 240
  · subst h240
    go_enter Tryz.func105, Tryz.ntmps105
    go_wp2
    refine bodyPost_ret (v := .agg #[.string { data := #[67, 82, 69, 65, 84, 69] }, .int .i64 3, .int .i64 1, .int .u64 32000, .bool false, .int .i64 0]) (by simp [results, Tryz.results105, go_sem]) rfl ⟨rfl, ?_⟩
    repeat (first | exact xrefl _ | refine xalloc ?_ _ | refine xset ?_ (by simp) _)
  by_cases h241 : c = 241
  · subst h241
    go_enter Tryz.func105, Tryz.ntmps105
    go_wp2
    refine bodyPost_ret (v := .agg #[.string { data := #[67, 65, 76, 76] }, .int .i64 7, .int .i64 1, .int .u64 0, .bool false, .int .i64 0]) (by simp [results, Tryz.results105, go_sem]) rfl ⟨rfl, ?_⟩
    repeat (first | exact xrefl _ | refine xalloc ?_ _ | refine xset ?_ (by simp) _)
  by_cases h242 : c = 242
  · subst h242
    go_enter Tryz.func105, Tryz.ntmps105
    go_wp2
    refine bodyPost_ret (v := .agg #[.string { data := #[67, 65, 76, 76, 67, 79, 68, 69] }, .int .i64 7, .int .i64 1, .int .u64 0, .bool false, .int .i64 0]) (by simp [results, Tryz.results105, go_sem]) rfl ⟨rfl, ?_⟩
    repeat (first | exact xrefl _ | refine xalloc ?_ _ | refine xset ?_ (by simp) _)
  by_cases h243 : c = 243
  · subst h243
    go_enter Tryz.func105, Tryz.ntmps105
    go_wp2
    refine bodyPost_ret (v := .agg #[.string { data := #[82, 69, 84, 85, 82, 78] }, .int .i64 2, .int .i64 0, .int .u64 0, .bool false, .int .i64 0]) (by simp [results, Tryz.results105, go_sem]) rfl ⟨rfl, ?_⟩
    repeat (first | exact xrefl _ | refine xalloc ?_ _ | refine xset ?_ (by simp) _)
  by_cases h244 : c = 244
  · subst h244
    go_enter Tryz.func105, Tryz.ntmps105
    go_wp2
    refine bodyPost_ret (v := .agg #[.string { data := #[68, 69, 76, 69, 71, 65, 84, 69, 67, 65, 76, 76] }, .int .i64 6, .int .i64 1, .int .u64 0, .bool false, .int .i64 0]) (by simp [results, Tryz.results105, go_sem]) rfl ⟨rfl, ?_⟩
    repeat (first | exact xrefl _ | refine xalloc ?_ _ | refine xset ?_ (by simp) _)
  by_cases h245 : c = 245
  · subst h245
    go_enter Tryz.func105, Tryz.ntmps105
    go_wp2
    refine bodyPost_ret (v := .agg #[.string { data := #[67, 82, 69, 65, 84, 69, 50] }, .int .i64 4, .int .i64 1, .int .u64 32000, .bool false, .int .i64 0]) (by simp [results, Tryz.results105, go_sem]) rfl ⟨rfl, ?_⟩
    repeat (first | exact xrefl _ | refine xalloc ?_ _ | refine xset ?_ (by simp) _)
  by_cases h250 : c = 250
  · subst h250
    go_enter Tryz.func105, Tryz.ntmps105
    go_wp2
    refine bodyPost_ret (v := .agg #[.string { data := #[83, 84, 65, 84, 73, 67, 67, 65, 76, 76] }, .int .i64 6, .int .i64 1, .int .u64 0, .bool false, .int .i64 0]) (by simp [results, Tryz.results105, go_sem]) rfl ⟨rfl, ?_⟩
    repeat (first | exact xrefl _ | refine xalloc ?_ _ | refine xset ?_ (by simp) _)
  by_cases h253 : c = 253
  · subst h253
    go_enter Tryz.func105, Tryz.ntmps105
    go_wp2
    refine bodyPost_ret (v := .agg #[.string { data := #[82, 69, 86, 69, 82, 84] }, .int .i64 2, .int .i64 0, .int .u64 0, .bool false, .int .i64 0]) (by simp [results, Tryz.results105, go_sem]) rfl ⟨rfl, ?_⟩
    repeat (first | exact xrefl _ | refine xalloc ?_ _ | refine xset ?_ (by simp) _)
  by_cases h254 : c = 254
  · subst h254
    go_enter Tryz.func105, Tryz.ntmps105
    go_wp2
    refine bodyPost_ret (v := .agg #[.string { data := #[73, 78, 86, 65, 76, 73, 68] }, .int .i64 0, .int .i64 0, .int .u64 0, .bool false, .int .i64 0]) (by simp [results, Tryz.results105, go_sem]) rfl ⟨rfl, ?_⟩
    repeat (first | exact xrefl _ | refine xalloc ?_ _ | refine xset ?_ (by simp) _)
  by_cases h255 : c = 255
  · subst h255
    go_enter Tryz.func105, Tryz.ntmps105
    go_wp2
    refine bodyPost_ret (v := .agg #[.string { data := #[83, 69, 76, 70, 68, 69, 83, 84, 82, 85, 67, 84] }, .int .i64 1, .int .i64 0, .int .u64 5000, .bool false, .int .i64 0]) (by simp [results, Tryz.results105, go_sem]) rfl ⟨rfl, ?_⟩
    repeat (first | exact xrefl _ | refine xalloc ?_ _ | refine xset ?_ (by simp) _)
  · rw [show rowGet c highRows = noInfo by simp [rowGet, highRows, h71, h72, h80, h81, h82, h83, h84, h85, h86, h87, h88, h89, h90, h91, h95, h240, h241, h242, h243, h244, h245, h250, h253, h254, h255]]
    replace h71 : ((c : Int) == 71) = false := by rw [beq_eq_false_iff_ne]; omega
    replace h72 : ((c : Int) == 72) = false := by rw [beq_eq_false_iff_ne]; omega
    replace h80 : ((c : Int) == 80) = false := by rw [beq_eq_false_iff_ne]; omega
    replace h81 : ((c : Int) == 81) = false := by rw [beq_eq_false_iff_ne]; omega
    replace h82 : ((c : Int) == 82) = false := by rw [beq_eq_false_iff_ne]; omega
    replace h83 : ((c : Int) == 83) = false := by rw [beq_eq_false_iff_ne]; omega
    replace h84 : ((c : Int) == 84) = false := by rw [beq_eq_false_iff_ne]; omega
    replace h85 : ((c : Int) == 85) = false := by rw [beq_eq_false_iff_ne]; omega
    replace h86 : ((c : Int) == 86) = false := by rw [beq_eq_false_iff_ne]; omega
    replace h87 : ((c : Int) == 87) = false := by rw [beq_eq_false_iff_ne]; omega
    replace h88 : ((c : Int) == 88) = false := by rw [beq_eq_false_iff_ne]; omega
    replace h89 : ((c : Int) == 89) = false := by rw [beq_eq_false_iff_ne]; omega
    replace h90 : ((c : Int) == 90) = false := by rw [beq_eq_false_iff_ne]; omega
    replace h91 : ((c : Int) == 91) = false := by rw [beq_eq_false_iff_ne]; omega
    replace h95 : ((c : Int) == 95) = false := by rw [beq_eq_false_iff_ne]; omega
    replace h240 : ((c : Int) == 240) = false := by rw [beq_eq_false_iff_ne]; omega
    replace h241 : ((c : Int) == 241) = false := by rw [beq_eq_false_iff_ne]; omega
    replace h242 : ((c : Int) == 242) = false := by rw [beq_eq_false_iff_ne]; omega
    replace h243 : ((c : Int) == 243) = false := by rw [beq_eq_false_iff_ne]; omega
    replace h244 : ((c : Int) == 244) = false := by rw [beq_eq_false_iff_ne]; omega
    replace h245 : ((c : Int) == 245) = false := by rw [beq_eq_false_iff_ne]; omega
    replace h250 : ((c : Int) == 250) = false := by rw [beq_eq_false_iff_ne]; omega
    replace h253 : ((c : Int) == 253) = false := by rw [beq_eq_false_iff_ne]; omega
    replace h254 : ((c : Int) == 254) = false := by rw [beq_eq_false_iff_ne]; omega
    replace h255 : ((c : Int) == 255) = false := by rw [beq_eq_false_iff_ne]; omega
    go_enter Tryz.func105, Tryz.ntmps105
    go_wp2
    refine bodyPost_ret (v := .agg #[.string { data := #[] }, .int .i64 0, .int .i64 0, .int .u64 0, .bool false, .int .i64 0]) (by simp [results, Tryz.results105, go_sem]) rfl ⟨rfl, ?_⟩
    repeat (first | exact xrefl _ | refine xalloc ?_ _ | refine xset ?_ (by simp) _)
end
section
open Go.RowKit
set_option maxRecDepth 100000 in
set_option maxHeartbeats 2000000 in
theorem refInfo_row1 (z : Int) (w : World) (hz : z < 96 ∨ 164 < z) (m1 m2 m3 : List UInt8) (i1 o1 g1 i2 o2 g2 i3 o3 g3 s1 s2 s3 : Nat) (q1 q2 q3 : Bool)
    (h1 : ∀ W, Calls Tryz.prog 103 #[.int .u8 z] W fun e w' => e = .returned (infoV ⟨m1, i1, o1, g1, q1, s1⟩) ∧ Below W.heap.size W w')
    (h2 : ∀ W, Calls Tryz.prog 104 #[.int .u8 z] W fun e w' => e = .returned (infoV ⟨m2, i2, o2, g2, q2, s2⟩) ∧ Below W.heap.size W w')
    (h3 : ∀ W, Calls Tryz.prog 105 #[.int .u8 z] W fun e w' => e = .returned (infoV ⟨m3, i3, o3, g3, q3, s3⟩) ∧ Below W.heap.size W w')
    (n1 : m1 ≠ []) : Calls Tryz.prog 70 #[.int .u8 z] w fun e w' => e = .returned (infoV ⟨m1, i1, o1, g1, q1, s1⟩) ∧ Below w.heap.size w w' := by
  have hB0 : Hid (BlkG (w.alloc (.cells noV.toArray 113)) w.heap.size 113 noV) := qh (BlkG.new w _ _)
  have hb0 : Hid (Below w.heap.size w (w.alloc (.cells noV.toArray 113))) := qh (xalloc (xrefl w) _)
  obtain ⟨fs, hu⟩ := struct_info
  unfold infoV at h1 h2 h3
  have p1 : m1.isEmpty = false := by cases m1 with | nil => exact absurd rfl n1 | cons a l => rfl
  replace h1 := qh h1
  replace h2 := qh h2
  replace h3 := qh h3
  rcases hz with hz | hz
  · have a1 : ¬ (96 : Int) ≤ z := by omega
    have a2 : ¬ (128 : Int) ≤ z := by omega
    have a3 : ¬ (144 : Int) ≤ z := by omega
    have a4 : ¬ (160 : Int) ≤ z := by omega
    clear hz
    go_enter Tryz.func70, Tryz.ntmps70
    go_wp2_with (first
        | (go_at_call 103; refine (h1.out _).mono ?_; rintro e w1 ⟨rfl, hb1⟩; replace hB0 := qh ((hB0.out).below hb1); replace hb0 := qh (xtrans (hb0.out) hb1))
        | (refine wpList_store_blkG rfl 113 _ _ rfl w.heap.size rfl 113 noV (infL ⟨m1, i1, o1, g1, q1, s1⟩) (by first | exact hB0.out | exact hB0.out.alloc _) rfl rfl (by kernel_rfl) rfl ?_; intro w9 hB2 ho2; replace hB2 := qh hB2; replace ho2 := qh ho2))
    refine bodyPost_ret (results_blkG rfl _ _ w.heap.size 113 _ _ rfl hB2.out hu rfl (by kernel_rfl)) rfl ⟨rfl, ?_⟩
    first | exact ho2.out.below hb0.out hb0.out.size (by rintro i rfl; omega) | exact ho2.out.below (xalloc hb0.out _) (xalloc hb0.out _).size (by rintro i rfl; omega)
  · have a1 : ¬ z ≤ 127 := by omega
    have a2 : ¬ z ≤ 143 := by omega
    have a3 : ¬ z ≤ 159 := by omega
    have a4 : ¬ z ≤ 164 := by omega
    have b1 : (96 : Int) ≤ z := by omega
    have b2 : (128 : Int) ≤ z := by omega
    have b3 : (144 : Int) ≤ z := by omega
    have b4 : (160 : Int) ≤ z := by omega
    clear hz
    go_enter Tryz.func70, Tryz.ntmps70
    go_wp2_with (first
        | (go_at_call 103; refine (h1.out _).mono ?_; rintro e w1 ⟨rfl, hb1⟩; replace hB0 := qh ((hB0.out).below hb1); replace hb0 := qh (xtrans (hb0.out) hb1))
        | (refine wpList_store_blkG rfl 113 _ _ rfl w.heap.size rfl 113 noV (infL ⟨m1, i1, o1, g1, q1, s1⟩) (by first | exact hB0.out | exact hB0.out.alloc _) rfl rfl (by kernel_rfl) rfl ?_; intro w9 hB2 ho2; replace hB2 := qh hB2; replace ho2 := qh ho2))
    refine bodyPost_ret (results_blkG rfl _ _ w.heap.size 113 _ _ rfl hB2.out hu rfl (by kernel_rfl)) rfl ⟨rfl, ?_⟩
    first | exact ho2.out.below hb0.out hb0.out.size (by rintro i rfl; omega) | exact ho2.out.below (xalloc hb0.out _) (xalloc hb0.out _).size (by rintro i rfl; omega)
set_option maxRecDepth 100000 in
set_option maxHeartbeats 2000000 in
theorem refInfo_row2 (z : Int) (w : World) (hz : z < 96 ∨ 164 < z) (m1 m2 m3 : List UInt8) (i1 o1 g1 i2 o2 g2 i3 o3 g3 s1 s2 s3 : Nat) (q1 q2 q3 : Bool)
    (h1 : ∀ W, Calls Tryz.prog 103 #[.int .u8 z] W fun e w' => e = .returned (infoV ⟨m1, i1, o1, g1, q1, s1⟩) ∧ Below W.heap.size W w')
    (h2 : ∀ W, Calls Tryz.prog 104 #[.int .u8 z] W fun e w' => e = .returned (infoV ⟨m2, i2, o2, g2, q2, s2⟩) ∧ Below W.heap.size W w')
    (h3 : ∀ W, Calls Tryz.prog 105 #[.int .u8 z] W fun e w' => e = .returned (infoV ⟨m3, i3, o3, g3, q3, s3⟩) ∧ Below W.heap.size W w')
    (n1 : m1 = []) (n2 : m2 ≠ []) : Calls Tryz.prog 70 #[.int .u8 z] w fun e w' => e = .returned (infoV ⟨m2, i2, o2, g2, q2, s2⟩) ∧ Below w.heap.size w w' := by
  have hB0 : Hid (BlkG (w.alloc (.cells noV.toArray 113)) w.heap.size 113 noV) := qh (BlkG.new w _ _)
  have hb0 : Hid (Below w.heap.size w (w.alloc (.cells noV.toArray 113))) := qh (xalloc (xrefl w) _)
  obtain ⟨fs, hu⟩ := struct_info
  unfold infoV at h1 h2 h3
  subst n1
  have p2 : m2.isEmpty = false := by cases m2 with | nil => exact absurd rfl n2 | cons a l => rfl
  have p0 := bytes_eq
  replace h1 := qh h1
  replace h2 := qh h2
  replace h3 := qh h3
  rcases hz with hz | hz
  · have a1 : ¬ (96 : Int) ≤ z := by omega
    have a2 : ¬ (128 : Int) ≤ z := by omega
    have a3 : ¬ (144 : Int) ≤ z := by omega
    have a4 : ¬ (160 : Int) ≤ z := by omega
    clear hz
    go_enter Tryz.func70, Tryz.ntmps70
    go_wp2_with (first
        | (go_at_call 103; refine (h1.out _).mono ?_; rintro e w1 ⟨rfl, hb1⟩; replace hB0 := qh ((hB0.out).below hb1); replace hb0 := qh (xtrans (hb0.out) hb1))
        | (go_at_call 104; refine (h2.out _).mono ?_; rintro e w2 ⟨rfl, hb2⟩; replace hB0 := qh ((hB0.out.alloc _).below hb2); replace hb0 := qh (xtrans (xalloc hb0.out _) hb2))
        | (refine wpList_store_blkG rfl 113 _ _ rfl w.heap.size rfl 113 noV (infL ⟨m2, i2, o2, g2, q2, s2⟩) (by first | exact hB0.out | exact hB0.out.alloc _) rfl rfl (by kernel_rfl) rfl ?_; intro w9 hB2 ho2; replace hB2 := qh hB2; replace ho2 := qh ho2))
    refine bodyPost_ret (results_blkG rfl _ _ w.heap.size 113 _ _ rfl hB2.out hu rfl (by kernel_rfl)) rfl ⟨rfl, ?_⟩
    first | exact ho2.out.below hb0.out hb0.out.size (by rintro i rfl; omega) | exact ho2.out.below (xalloc hb0.out _) (xalloc hb0.out _).size (by rintro i rfl; omega)
  · have a1 : ¬ z ≤ 127 := by omega
    have a2 : ¬ z ≤ 143 := by omega
    have a3 : ¬ z ≤ 159 := by omega
    have a4 : ¬ z ≤ 164 := by omega
    have b1 : (96 : Int) ≤ z := by omega
    have b2 : (128 : Int) ≤ z := by omega
    have b3 : (144 : Int) ≤ z := by omega
    have b4 : (160 : Int) ≤ z := by omega
    clear hz
    go_enter Tryz.func70, Tryz.ntmps70
    go_wp2_with (first
        | (go_at_call 103; refine (h1.out _).mono ?_; rintro e w1 ⟨rfl, hb1⟩; replace hB0 := qh ((hB0.out).below hb1); replace hb0 := qh (xtrans (hb0.out) hb1))
        | (go_at_call 104; refine (h2.out _).mono ?_; rintro e w2 ⟨rfl, hb2⟩; replace hB0 := qh ((hB0.out.alloc _).below hb2); replace hb0 := qh (xtrans (xalloc hb0.out _) hb2))
        | (refine wpList_store_blkG rfl 113 _ _ rfl w.heap.size rfl 113 noV (infL ⟨m2, i2, o2, g2, q2, s2⟩) (by first | exact hB0.out | exact hB0.out.alloc _) rfl rfl (by kernel_rfl) rfl ?_; intro w9 hB2 ho2; replace hB2 := qh hB2; replace ho2 := qh ho2))
    refine bodyPost_ret (results_blkG rfl _ _ w.heap.size 113 _ _ rfl hB2.out hu rfl (by kernel_rfl)) rfl ⟨rfl, ?_⟩
    first | exact ho2.out.below hb0.out hb0.out.size (by rintro i rfl; omega) | exact ho2.out.below (xalloc hb0.out _) (xalloc hb0.out _).size (by rintro i rfl; omega)
set_option maxRecDepth 100000 in
set_option maxHeartbeats 2000000 in
theorem refInfo_row3 (z : Int) (w : World) (hz : z < 96 ∨ 164 < z) (m1 m2 m3 : List UInt8) (i1 o1 g1 i2 o2 g2 i3 o3 g3 s1 s2 s3 : Nat) (q1 q2 q3 : Bool)
    (h1 : ∀ W, Calls Tryz.prog 103 #[.int .u8 z] W fun e w' => e = .returned (infoV ⟨m1, i1, o1, g1, q1, s1⟩) ∧ Below W.heap.size W w')
    (h2 : ∀ W, Calls Tryz.prog 104 #[.int .u8 z] W fun e w' => e = .returned (infoV ⟨m2, i2, o2, g2, q2, s2⟩) ∧ Below W.heap.size W w')
    (h3 : ∀ W, Calls Tryz.prog 105 #[.int .u8 z] W fun e w' => e = .returned (infoV ⟨m3, i3, o3, g3, q3, s3⟩) ∧ Below W.heap.size W w')
    (n1 : m1 = []) (n2 : m2 = []) : Calls Tryz.prog 70 #[.int .u8 z] w fun e w' => e = .returned (infoV ⟨m3, i3, o3, g3, q3, s3⟩) ∧ Below w.heap.size w w' := by
  have hB0 : Hid (BlkG (w.alloc (.cells noV.toArray 113)) w.heap.size 113 noV) := qh (BlkG.new w _ _)
  have hb0 : Hid (Below w.heap.size w (w.alloc (.cells noV.toArray 113))) := qh (xalloc (xrefl w) _)
  obtain ⟨fs, hu⟩ := struct_info
  unfold infoV at h1 h2 h3
  subst n1
  subst n2
  have p0 := bytes_eq
  replace h1 := qh h1
  replace h2 := qh h2
  replace h3 := qh h3
  rcases hz with hz | hz
  · have a1 : ¬ (96 : Int) ≤ z := by omega
    have a2 : ¬ (128 : Int) ≤ z := by omega
    have a3 : ¬ (144 : Int) ≤ z := by omega
    have a4 : ¬ (160 : Int) ≤ z := by omega
    clear hz
    go_enter Tryz.func70, Tryz.ntmps70
    go_wp2_with (first
        | (go_at_call 103; refine (h1.out _).mono ?_; rintro e w1 ⟨rfl, hb1⟩; replace hB0 := qh ((hB0.out).below hb1); replace hb0 := qh (xtrans (hb0.out) hb1))
        | (go_at_call 104; refine (h2.out _).mono ?_; rintro e w2 ⟨rfl, hb2⟩; replace hB0 := qh ((hB0.out.alloc _).below hb2); replace hb0 := qh (xtrans (xalloc hb0.out _) hb2))
        | (go_at_call 105; refine (h3.out _).mono ?_; rintro e w3 ⟨rfl, hb3⟩; replace hB0 := qh ((hB0.out.alloc _).below hb3); replace hb0 := qh (xtrans (xalloc hb0.out _) hb3))
        | (refine wpList_store_blkG rfl 113 _ _ rfl w.heap.size rfl 113 noV (infL ⟨m3, i3, o3, g3, q3, s3⟩) (by first | exact hB0.out | exact hB0.out.alloc _) rfl rfl (by kernel_rfl) rfl ?_; intro w9 hB2 ho2; replace hB2 := qh hB2; replace ho2 := qh ho2))
    refine bodyPost_ret (results_blkG rfl _ _ w.heap.size 113 _ _ rfl hB2.out hu rfl (by kernel_rfl)) rfl ⟨rfl, ?_⟩
    first | exact ho2.out.below hb0.out hb0.out.size (by rintro i rfl; omega) | exact ho2.out.below (xalloc hb0.out _) (xalloc hb0.out _).size (by rintro i rfl; omega)
  · have a1 : ¬ z ≤ 127 := by omega
    have a2 : ¬ z ≤ 143 := by omega
    have a3 : ¬ z ≤ 159 := by omega
    have a4 : ¬ z ≤ 164 := by omega
    have b1 : (96 : Int) ≤ z := by omega
    have b2 : (128 : Int) ≤ z := by omega
    have b3 : (144 : Int) ≤ z := by omega
    have b4 : (160 : Int) ≤ z := by omega
    clear hz
    go_enter Tryz.func70, Tryz.ntmps70
    go_wp2_with (first
        | (go_at_call 103; refine (h1.out _).mono ?_; rintro e w1 ⟨rfl, hb1⟩; replace hB0 := qh ((hB0.out).below hb1); replace hb0 := qh (xtrans (hb0.out) hb1))
        | (go_at_call 104; refine (h2.out _).mono ?_; rintro e w2 ⟨rfl, hb2⟩; replace hB0 := qh ((hB0.out.alloc _).below hb2); replace hb0 := qh (xtrans (xalloc hb0.out _) hb2))
        | (go_at_call 105; refine (h3.out _).mono ?_; rintro e w3 ⟨rfl, hb3⟩; replace hB0 := qh ((hB0.out.alloc _).below hb3); replace hb0 := qh (xtrans (xalloc hb0.out _) hb3))
        | (refine wpList_store_blkG rfl 113 _ _ rfl w.heap.size rfl 113 noV (infL ⟨m3, i3, o3, g3, q3, s3⟩) (by first | exact hB0.out | exact hB0.out.alloc _) rfl rfl (by kernel_rfl) rfl ?_; intro w9 hB2 ho2; replace hB2 := qh hB2; replace ho2 := qh ho2))
    refine bodyPost_ret (results_blkG rfl _ _ w.heap.size 113 _ _ rfl hB2.out hu rfl (by kernel_rfl)) rfl ⟨rfl, ?_⟩
    first | exact ho2.out.below hb0.out hb0.out.size (by rintro i rfl; omega) | exact ho2.out.below (xalloc hb0.out _) (xalloc hb0.out _).size (by rintro i rfl; omega)
theorem refInfo_any (c : Nat) (w : World) (hc : c < 256) : Calls Tryz.prog 70 #[.int .u8 c] w fun e w' => e = .returned (infoV (infoN c)) ∧ Below w.heap.size w w' := by
  by_cases h : 96 ≤ c ∧ c ≤ 164
  · by_cases h1 : c ≤ 127
    · obtain ⟨n, rfl⟩ : ∃ n, c = n + 95 := ⟨c - 95, by omega⟩
      rw [fam_push (by omega) (by omega)]
      exact refInfo_push n w (by omega) (by omega)
    · by_cases h2 : c ≤ 143
      · obtain ⟨n, rfl⟩ : ∃ n, c = n + 127 := ⟨c - 127, by omega⟩
        rw [fam_dup (by omega) (by omega)]
        exact refInfo_dup n w (by omega) (by omega)
      · by_cases h3 : c ≤ 159
        · obtain ⟨n, rfl⟩ : ∃ n, c = n + 143 := ⟨c - 143, by omega⟩
          rw [fam_swap (by omega) (by omega)]
          exact refInfo_swap n w (by omega) (by omega)
        · obtain ⟨n, rfl⟩ : ∃ n, c = n + 160 := ⟨c - 160, by omega⟩
          rw [fam_log (by omega)]
          exact refInfo_log n w (by omega)
  · rw [info_ref c hc (fam_none h)]
    have h1 := fun W => refLow_any c W
    have h2 := fun W => refMiddle_any c W
    have h3 := fun W => refHigh_any c W
    have hz : (c : Int) < 96 ∨ 164 < (c : Int) := by omega
    generalize rowGet c lowRows = x1 at *
    generalize rowGet c middleRows = x2 at *
    generalize rowGet c highRows = x3 at *
    obtain ⟨m1, i1, o1, g1, q1, s1⟩ := x1
    obtain ⟨m2, i2, o2, g2, q2, s2⟩ := x2
    obtain ⟨m3, i3, o3, g3, q3, s3⟩ := x3
    by_cases n1 : m1 = []
    · rw [if_neg (by simp [n1])]
      by_cases n2 : m2 = []
      · rw [if_neg (by simp [n2])]
        exact refInfo_row3 c w hz m1 m2 m3 i1 o1 g1 i2 o2 g2 i3 o3 g3 s1 s2 s3 q1 q2 q3 h1 h2 h3 n1 n2
      · rw [if_pos n2]
        exact refInfo_row2 c w hz m1 m2 m3 i1 o1 g1 i2 o2 g2 i3 o3 g3 s1 s2 s3 q1 q2 q3 h1 h2 h3 n1 n2
    · rw [if_pos n1]
      exact refInfo_row1 c w hz m1 m2 m3 i1 o1 g1 i2 o2 g2 i3 o3 g3 s1 s2 s3 q1 q2 q3 h1 h2 h3 n1
end
section
open Go.RowKit
theorem refSize_any (c : Nat) (w : World) (hc : c < 256) : Calls Tryz.prog 70 #[.int .u8 c] w fun e w' => (∃ nm i o g q, e = .returned (.agg #[.string nm, .int .i64 i, .int .i64 o, .int .u64 g, .bool q, .int .i64 (szN c)])) ∧ Below w.heap.size w w' :=
  (refInfo_any c w hc).mono fun e w' h => ⟨⟨⟨(infoN c).name.toArray⟩, (infoN c).ins, (infoN c).outs, (infoN c).gas, (infoN c).quiet, by rw [h.1]; unfold infoV; rw [info_size c hc]⟩, h.2⟩
@[go_sem high] theorem field_size (v0 v1 v2 v3 v4 v5 : Value) (w : World) : (Instr.field 113 (.agg #[v0, v1, v2, v3, v4, v5]) 5).run Tryz.prog w = .ok v5 w := by kernel_rfl
def inN (l : List Nat) (n : Int) : Bool := l.any fun x => (x : Int) == n
theorem inN_nat (l : List Nat) (n : Nat) : inN l n = decide (n ∈ l) := by
  unfold inN
  rw [Bool.eq_iff_iff, List.any_eq_true, decide_eq_true_eq]
  constructor
  · rintro ⟨x, h1, h2⟩
    rw [beq_iff_eq, Int.ofNat_inj] at h2
    rw [← h2]; exact h1
  · intro h; exact ⟨n, h, by simp⟩
set_option maxRecDepth 100000 in
theorem refIn_any (l : List Nat) (n : Int) (a : Option Addr) (c : Nat) (w : World) (h : IntsAt w a c l) (hl : l.length ≤ 2097200) :
    Calls Tryz.prog 47 #[.slice a l.length c, .int .i64 n] w fun e w' => e = .returned (.bool (inN l n)) ∧ w = w' := by
  replace h := qh h
  have hyes : Hid (∀ k, (h : k < l.length) → (l[k] : Int) = n → inN l n = true) := qh fun k h e => by
    unfold inN; rw [List.any_eq_true]; exact ⟨_, List.getElem_mem h, by simpa using e⟩
  have hno : Hid ((∀ j, (h : j < l.length) → (l[j] : Int) ≠ n) → inN l n = false) := qh fun h => by
    unfold inN; rw [List.any_eq_false]
    intro x hx
    obtain ⟨j, hj, rfl⟩ := List.getElem_of_mem hx
    simpa using h j hj
  generalize inN l n = r at *
  go_enter Tryz.func47, Tryz.ntmps47
  go_wp2
  go_loop [5] (fun i => ∃ k : Nat, k ≤ l.length ∧ i = .int .i64 k ∧ Hid (∀ j, (h : j < l.length) → j < k → (l[j] : Int) ≠ n)) (fun i => l.length - (intOf i).toNat)
  case atStart => exact ⟨0, by omega, rfl, qh fun j _ h => by omega⟩
  case round =>
    obtain ⟨k, hk, rfl, hs⟩ := hrel
    by_cases hlt : k < l.length
    · have hlt2 : (k : Int) < l.length := by omega
      obtain ⟨b, o, rfl, hc⟩ := h.out.get hlt
      by_cases e : (l[k] : Int) = n
      · have hr := hyes.out k hlt e
        subst hr
        rw [e] at hc
        clear e
        go_wp2
        go_ret
        exact ⟨rfl, rfl⟩
      · have hs2 : Hid (∀ j, (h : j < l.length) → j < k + 1 → (l[j] : Int) ≠ n) := qh fun j h hj => by
          by_cases e2 : j = k
          · subst e2; exact e
          · exact hs.out j h (by omega)
        generalize (l[k] : Int) = y at *
        go_wp2
        exact ⟨⟨k + 1, by omega, rfl, hs2⟩, by simp [intOf]; omega⟩
    · obtain rfl : k = l.length := by omega
      have hr := hno.out fun j h => hs.out j h h
      subst hr
      clear hlt
      go_wp2
      go_ret
      exact ⟨rfl, rfl⟩
set_option maxRecDepth 100000 in
set_option maxHeartbeats 1000000 in
theorem refOps_anyL (cs : List Nat) (a : Option Addr) (c : Nat) (w : World) (h : CodeL w a c cs) :
    Calls Tryz.prog 48 #[.slice a cs.length c] w fun e w' => (∃ v, e = .returned v ∧ OwnI w w' v (opsL cs)) ∧ Below w.heap.size w w' := by
  obtain ⟨i0, hi, hz0, hz1, hz2⟩ := info_parts info_int
  have hcl := h.len
  replace h := qh h
  go_enter Tryz.func48, Tryz.ntmps48
  go_wp2
  go_loopw [3, 4] (fun v i wx => ∃ (pre : List Nat) (k : Nat), k ≤ cs.length + 33 ∧ i = .int .i64 k ∧ Hid (OwnI w wx v pre) ∧ Hid (opsL cs = pre ++ opsA cs k) ∧ Hid (Below w.heap.size w wx)) (fun _ i _ => 1048700 - (intOf i).toNat)
  case atStart => exact ⟨[], 0, by omega, rfl, qh (OwnI.nil w), qh rfl, qh (xrefl w)⟩
  case round =>
    obtain ⟨pre, k, hk, rfl, hown, hpre, hb⟩ := hrel
    by_cases hlt : k < cs.length
    · have hlt2 : (k : Int) < cs.length := by omega
      have hlt3 : ¬ (cs.length : Int) ≤ k := by omega
      obtain ⟨b, o, rfl, -, h256⟩ := h.out.get hlt
      have hcell : Hid (∀ W, Below w.heap.size w W → W.cell? ⟨b, o + k, none⟩ = some (.int .u8 (byN cs k))) := qh fun W hW => by
        obtain ⟨b', o', e, hc, -⟩ := (h.out.below hW).get hlt
        cases e; exact hc
      have hpl : pre.length ≤ 1048576 := by
        have := congrArg List.length hpre.out
        rw [List.length_append] at this
        have := opsL_len cs
        omega
      have hsb : w.heap.size ≤ (wr.alloc (.cells #[.int .i64 (k : Int)] 3)).heap.size := by rw [World.size_alloc]; have := hb.out.size; omega
      have hnx : Hid (nxN cs k = k + 1 + szN (byN cs k)) := qh rfl
      have hpre2 : Hid (opsL cs = (pre ++ [k]) ++ opsA cs (nxN cs k)) := qh (by rw [hpre.out, opsA_lt hlt]; simp)
      have hsz := szN_le (byN cs k)
      have hinf := qh fun W => refSize_any (byN cs k) W h256
      clear hpre
      generalize nxN cs k = nx at *
      generalize szN (byN cs k) = sz at *
      generalize byN cs k = x at *
      go_wp2_with (first
        | (at_builtin; refine wpList_append_row (wr.alloc (.cells #[.int .i64 (k : Int)] 3)) rfl _ _ 42 rfl w.heap.size 3 i0 (.int .i64 0) 8 Tryz.underlying42 hi hz0 hz1 hz2 rfl _ pre.length _ rfl (hown.out.alloc _) (some ⟨wr.heap.size, 0, none⟩) 1 .i64 [(k : Int)] rfl (by simp) (rowAt_one wr 3 (k : Int)) (by unfold maxLen; simp; omega) (by simp; omega) hsb ?_; intro v3 w3 ho3 hg3; have hb3 := (xalloc hb.out _).grown hg3 hsb (fun j hj => (hown.out.lt j hj).1); have hc3 := hcell.out w3 hb3; replace hb3 := qh hb3; replace ho3 := qh ho3; clear hg3)
        | (go_at_call 70; refine (hinf.out _).mono ?_; rintro e w4 ⟨⟨nm, i, o, g, q, rfl⟩, hb4⟩; replace hb4 := qh hb4))
      refine ⟨⟨pre ++ [k], nx, by have := hnx.out; omega, by have := hnx.out; simp; omega, qh ?_, hpre2, qh (xtrans hb3.out hb4.out)⟩, by have := hnx.out; simp [intOf]; omega⟩
      refine OwnI.below (l := pre ++ [k]) (w' := w3) ?_ hb4.out
      unfold OwnI
      rw [List.length_append, natI_app, List.map_append]
      exact ho3.out
    · have e : opsL cs = pre := by rw [hpre.out, opsA_ge (by omega)]; simp
      have hown2 : Hid (OwnI w wr _ (opsL cs)) := qh (by rw [e]; exact hown.out)
      have hlt3 : (cs.length : Int) ≤ k := by omega
      clear hlt hown hpre e
      go_wp2
      go_ret
      exact ⟨⟨_, rfl, hown2.out⟩, hb.out⟩
theorem refOps_any (cs : List Nat) (a : Option Addr) (c : Nat) (w : World) (h : CodeAt w a c cs) :
    Calls Tryz.prog 48 #[.slice a cs.length c] w fun e w' => (∃ v, e = .returned v ∧ OwnI w w' v (opsL cs)) ∧ Below w.heap.size w w' :=
  refOps_anyL cs a c w h.long
end
end Go.Proofs.YtijkdabmegbcjaaGreatDoor
