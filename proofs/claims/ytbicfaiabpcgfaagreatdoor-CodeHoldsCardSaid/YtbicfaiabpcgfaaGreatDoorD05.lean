/- Texts of this claim, merged; no condition. -/
import Derived.Test.YtbicfaiabpcgfaaGreatDoorD00
import Derived.Test.YtbicfaiabpcgfaaGreatDoorD03
import Derived.Test.YtbicfaiabpcgfaaGreatDoorD04
import Derived.Test.YtbicfaiabpcgfaaGreatDoorShelf
import Derived.Lib.Builder
import Derived.Shelf.Strings.Builder1
import Derived.WalkKit
set_option linter.all false
namespace Go.Proofs.YtbicfaiabpcgfaaGreatDoor
open Go.RowKit

set_option maxRecDepth 100000 in
set_option maxHeartbeats 4000000 in
theorem refHigh_any (c : Nat) (w : World) : Calls Tryz.prog 29 #[.int .u8 c] w fun e w' => e = .returned (infoV (rowGet c highRows)) ∧ Below w.heap.size w w' := by
  by_cases h71 : c = 71
  · subst h71
    go_enter Tryz.func29, Tryz.ntmps29
    go_wp2
    refine bodyPost_ret (v := .agg #[.string { data := #[83, 69, 76, 70, 66, 65, 76, 65, 78, 67, 69] }, .int .i64 0, .int .i64 1, .int .u64 5, .bool false, .int .i64 0]) (by simp [results, Tryz.results29, go_sem]) rfl ⟨rfl, ?_⟩
    repeat (first | exact xrefl _ | refine xalloc ?_ _ | refine xset ?_ (by simp) _)
  by_cases h72 : c = 72
  · subst h72
    go_enter Tryz.func29, Tryz.ntmps29
    go_wp2
    refine bodyPost_ret (v := .agg #[.string { data := #[66, 65, 83, 69, 70, 69, 69] }, .int .i64 0, .int .i64 1, .int .u64 2, .bool true, .int .i64 0]) (by simp [results, Tryz.results29, go_sem]) rfl ⟨rfl, ?_⟩
    repeat (first | exact xrefl _ | refine xalloc ?_ _ | refine xset ?_ (by simp) _)
  by_cases h80 : c = 80
  · subst h80
    go_enter Tryz.func29, Tryz.ntmps29
    go_wp2
    refine bodyPost_ret (v := .agg #[.string { data := #[80, 79, 80] }, .int .i64 1, .int .i64 0, .int .u64 2, .bool true, .int .i64 0]) (by simp [results, Tryz.results29, go_sem]) rfl ⟨rfl, ?_⟩
    repeat (first | exact xrefl _ | refine xalloc ?_ _ | refine xset ?_ (by simp) _)
  by_cases h81 : c = 81
  · subst h81
    go_enter Tryz.func29, Tryz.ntmps29
    go_wp2
    refine bodyPost_ret (v := .agg #[.string { data := #[77, 76, 79, 65, 68] }, .int .i64 1, .int .i64 1, .int .u64 3, .bool false, .int .i64 0]) (by simp [results, Tryz.results29, go_sem]) rfl ⟨rfl, ?_⟩
    repeat (first | exact xrefl _ | refine xalloc ?_ _ | refine xset ?_ (by simp) _)
  by_cases h82 : c = 82
  · subst h82
    go_enter Tryz.func29, Tryz.ntmps29
    go_wp2
    refine bodyPost_ret (v := .agg #[.string { data := #[77, 83, 84, 79, 82, 69] }, .int .i64 2, .int .i64 0, .int .u64 3, .bool false, .int .i64 0]) (by simp [results, Tryz.results29, go_sem]) rfl ⟨rfl, ?_⟩
    repeat (first | exact xrefl _ | refine xalloc ?_ _ | refine xset ?_ (by simp) _)
  by_cases h83 : c = 83
  · subst h83
    go_enter Tryz.func29, Tryz.ntmps29
    go_wp2
    refine bodyPost_ret (v := .agg #[.string { data := #[77, 83, 84, 79, 82, 69, 56] }, .int .i64 2, .int .i64 0, .int .u64 3, .bool false, .int .i64 0]) (by simp [results, Tryz.results29, go_sem]) rfl ⟨rfl, ?_⟩
    repeat (first | exact xrefl _ | refine xalloc ?_ _ | refine xset ?_ (by simp) _)
  by_cases h84 : c = 84
  · subst h84
    go_enter Tryz.func29, Tryz.ntmps29
    go_wp2
    refine bodyPost_ret (v := .agg #[.string { data := #[83, 76, 79, 65, 68] }, .int .i64 1, .int .i64 1, .int .u64 0, .bool false, .int .i64 0]) (by simp [results, Tryz.results29, go_sem]) rfl ⟨rfl, ?_⟩
    repeat (first | exact xrefl _ | refine xalloc ?_ _ | refine xset ?_ (by simp) _)
  by_cases h85 : c = 85
  · subst h85
    go_enter Tryz.func29, Tryz.ntmps29
    go_wp2
    refine bodyPost_ret (v := .agg #[.string { data := #[83, 83, 84, 79, 82, 69] }, .int .i64 2, .int .i64 0, .int .u64 0, .bool false, .int .i64 0]) (by simp [results, Tryz.results29, go_sem]) rfl ⟨rfl, ?_⟩
    repeat (first | exact xrefl _ | refine xalloc ?_ _ | refine xset ?_ (by simp) _)
  by_cases h86 : c = 86
  · subst h86
    go_enter Tryz.func29, Tryz.ntmps29
    go_wp2
    refine bodyPost_ret (v := .agg #[.string { data := #[74, 85, 77, 80] }, .int .i64 1, .int .i64 0, .int .u64 8, .bool false, .int .i64 0]) (by simp [results, Tryz.results29, go_sem]) rfl ⟨rfl, ?_⟩
    repeat (first | exact xrefl _ | refine xalloc ?_ _ | refine xset ?_ (by simp) _)
  by_cases h87 : c = 87
  · subst h87
    go_enter Tryz.func29, Tryz.ntmps29
    go_wp2
    refine bodyPost_ret (v := .agg #[.string { data := #[74, 85, 77, 80, 73] }, .int .i64 2, .int .i64 0, .int .u64 10, .bool false, .int .i64 0]) (by simp [results, Tryz.results29, go_sem]) rfl ⟨rfl, ?_⟩
    repeat (first | exact xrefl _ | refine xalloc ?_ _ | refine xset ?_ (by simp) _)
  by_cases h88 : c = 88
  · subst h88
    go_enter Tryz.func29, Tryz.ntmps29
    go_wp2
    refine bodyPost_ret (v := .agg #[.string { data := #[80, 67] }, .int .i64 0, .int .i64 1, .int .u64 2, .bool true, .int .i64 0]) (by simp [results, Tryz.results29, go_sem]) rfl ⟨rfl, ?_⟩
    repeat (first | exact xrefl _ | refine xalloc ?_ _ | refine xset ?_ (by simp) _)
  by_cases h89 : c = 89
  · subst h89
    go_enter Tryz.func29, Tryz.ntmps29
    go_wp2
    refine bodyPost_ret (v := .agg #[.string { data := #[77, 83, 73, 90, 69] }, .int .i64 0, .int .i64 1, .int .u64 2, .bool true, .int .i64 0]) (by simp [results, Tryz.results29, go_sem]) rfl ⟨rfl, ?_⟩
    repeat (first | exact xrefl _ | refine xalloc ?_ _ | refine xset ?_ (by simp) _)
  by_cases h90 : c = 90
  · subst h90
    go_enter Tryz.func29, Tryz.ntmps29
    go_wp2
    refine bodyPost_ret (v := .agg #[.string { data := #[71, 65, 83] }, .int .i64 0, .int .i64 1, .int .u64 2, .bool false, .int .i64 0]) (by simp [results, Tryz.results29, go_sem]) rfl ⟨rfl, ?_⟩
    repeat (first | exact xrefl _ | refine xalloc ?_ _ | refine xset ?_ (by simp) _)
  by_cases h91 : c = 91
  · subst h91
    go_enter Tryz.func29, Tryz.ntmps29
    go_wp2
    refine bodyPost_ret (v := .agg #[.string { data := #[74, 85, 77, 80, 68, 69, 83, 84] }, .int .i64 0, .int .i64 0, .int .u64 1, .bool true, .int .i64 0]) (by simp [results, Tryz.results29, go_sem]) rfl ⟨rfl, ?_⟩
    repeat (first | exact xrefl _ | refine xalloc ?_ _ | refine xset ?_ (by simp) _)
  by_cases h95 : c = 95
  · subst h95
    go_enter Tryz.func29, Tryz.ntmps29
    go_wp2
    refine bodyPost_ret (v := .agg #[.string { data := #[80, 85, 83, 72, 48] }, .int .i64 0, .int .i64 1, .int .u64 2, .bool true, .int .i64 0]) (by simp [results, Tryz.results29, go_sem]) rfl ⟨rfl, ?_⟩
    repeat (first | exact xrefl _ | refine xalloc ?_ _ | refine xset ?_ (by simp) _)
  by_cases h240 : c = 240
  · subst h240
    go_enter Tryz.func29, Tryz.ntmps29
    go_wp2
    refine bodyPost_ret (v := .agg #[.string { data := #[67, 82, 69, 65, 84, 69] }, .int .i64 3, .int .i64 1, .int .u64 32000, .bool false, .int .i64 0]) (by simp [results, Tryz.results29, go_sem]) rfl ⟨rfl, ?_⟩
    repeat (first | exact xrefl _ | refine xalloc ?_ _ | refine xset ?_ (by simp) _)
  by_cases h241 : c = 241
  · subst h241
    go_enter Tryz.func29, Tryz.ntmps29
    go_wp2
    refine bodyPost_ret (v := .agg #[.string { data := #[67, 65, 76, 76] }, .int .i64 7, .int .i64 1, .int .u64 0, .bool false, .int .i64 0]) (by simp [results, Tryz.results29, go_sem]) rfl ⟨rfl, ?_⟩
    repeat (first | exact xrefl _ | refine xalloc ?_ _ | refine xset ?_ (by simp) _)
  by_cases h242 : c = 242
  · subst h242
    go_enter Tryz.func29, Tryz.ntmps29
    go_wp2
    refine bodyPost_ret (v := .agg #[.string { data := #[67, 65, 76, 76, 67, 79, 68, 69] }, .int .i64 7, .int .i64 1, .int .u64 0, .bool false, .int .i64 0]) (by simp [results, Tryz.results29, go_sem]) rfl ⟨rfl, ?_⟩
    repeat (first | exact xrefl _ | refine xalloc ?_ _ | refine xset ?_ (by simp) _)
  by_cases h243 : c = 243
  · subst h243
    go_enter Tryz.func29, Tryz.ntmps29
    go_wp2
    refine bodyPost_ret (v := .agg #[.string { data := #[82, 69, 84, 85, 82, 78] }, .int .i64 2, .int .i64 0, .int .u64 0, .bool false, .int .i64 0]) (by simp [results, Tryz.results29, go_sem]) rfl ⟨rfl, ?_⟩
    repeat (first | exact xrefl _ | refine xalloc ?_ _ | refine xset ?_ (by simp) _)
  by_cases h244 : c = 244
  · subst h244
    go_enter Tryz.func29, Tryz.ntmps29
    go_wp2
    refine bodyPost_ret (v := .agg #[.string { data := #[68, 69, 76, 69, 71, 65, 84, 69, 67, 65, 76, 76] }, .int .i64 6, .int .i64 1, .int .u64 0, .bool false, .int .i64 0]) (by simp [results, Tryz.results29, go_sem]) rfl ⟨rfl, ?_⟩
    repeat (first | exact xrefl _ | refine xalloc ?_ _ | refine xset ?_ (by simp) _)
  by_cases h245 : c = 245
  · subst h245
    go_enter Tryz.func29, Tryz.ntmps29
    go_wp2
    refine bodyPost_ret (v := .agg #[.string { data := #[67, 82, 69, 65, 84, 69, 50] }, .int .i64 4, .int .i64 1, .int .u64 32000, .bool false, .int .i64 0]) (by simp [results, Tryz.results29, go_sem]) rfl ⟨rfl, ?_⟩
    repeat (first | exact xrefl _ | refine xalloc ?_ _ | refine xset ?_ (by simp) _)
  by_cases h250 : c = 250
  · subst h250
    go_enter Tryz.func29, Tryz.ntmps29
    go_wp2
    refine bodyPost_ret (v := .agg #[.string { data := #[83, 84, 65, 84, 73, 67, 67, 65, 76, 76] }, .int .i64 6, .int .i64 1, .int .u64 0, .bool false, .int .i64 0]) (by simp [results, Tryz.results29, go_sem]) rfl ⟨rfl, ?_⟩
    repeat (first | exact xrefl _ | refine xalloc ?_ _ | refine xset ?_ (by simp) _)
  by_cases h253 : c = 253
  · subst h253
    go_enter Tryz.func29, Tryz.ntmps29
    go_wp2
    refine bodyPost_ret (v := .agg #[.string { data := #[82, 69, 86, 69, 82, 84] }, .int .i64 2, .int .i64 0, .int .u64 0, .bool false, .int .i64 0]) (by simp [results, Tryz.results29, go_sem]) rfl ⟨rfl, ?_⟩
    repeat (first | exact xrefl _ | refine xalloc ?_ _ | refine xset ?_ (by simp) _)
  by_cases h254 : c = 254
  · subst h254
    go_enter Tryz.func29, Tryz.ntmps29
    go_wp2
    refine bodyPost_ret (v := .agg #[.string { data := #[73, 78, 86, 65, 76, 73, 68] }, .int .i64 0, .int .i64 0, .int .u64 0, .bool false, .int .i64 0]) (by simp [results, Tryz.results29, go_sem]) rfl ⟨rfl, ?_⟩
    repeat (first | exact xrefl _ | refine xalloc ?_ _ | refine xset ?_ (by simp) _)
  by_cases h255 : c = 255
  · subst h255
    go_enter Tryz.func29, Tryz.ntmps29
    go_wp2
    refine bodyPost_ret (v := .agg #[.string { data := #[83, 69, 76, 70, 68, 69, 83, 84, 82, 85, 67, 84] }, .int .i64 1, .int .i64 0, .int .u64 5000, .bool false, .int .i64 0]) (by simp [results, Tryz.results29, go_sem]) rfl ⟨rfl, ?_⟩
    repeat (first | exact xrefl _ | refine xalloc ?_ _ | refine xset ?_ (by simp) _)
  · rw [show rowGet c highRows = noInfo by simp [rowGet, highRows, h71, h72, h80, h81, h82, h83, h84, h85, h86, h87, h88, h89, h90, h91, h95, h240, h241, h242, h243, h244, h245, h250, h253, h254, h255]]
    replace h71 : ((c : Int) == 71) = false := by rw [beq_eq_false_iff_ne]; omega
    replace h72 : ((c : Int) == 72) = false := by rw [beq_eq_false_iff_ne]; omega
    replace h80 : ((c : Int) == 80) = false := by rw [beq_eq_false_iff_ne]; omega
    replace h81 : ((c : Int) == 81) = false := by rw [beq_eq_false_iff_ne]; omega
    replace h82 : ((c : Int) == 82) = false := by rw [beq_eq_false_iff_ne]; omega
    replace h83 : ((c : Int) == 83) = false := by rw [beq_eq_false_iff_ne]; omega
    replace h84 : ((c : Int) == 84) = false := by rw [beq_eq_false_iff_ne]; omega
    replace h85 : ((c : Int) == 85) = false := by rw [beq_eq_false_iff_ne]; omega
    replace h86 : ((c : Int) == 86) = false := by rw [beq_eq_false_iff_ne]; omega
    replace h87 : ((c : Int) == 87) = false := by rw [beq_eq_false_iff_ne]; omega
    replace h88 : ((c : Int) == 88) = false := by rw [beq_eq_false_iff_ne]; omega
    replace h89 : ((c : Int) == 89) = false := by rw [beq_eq_false_iff_ne]; omega
    replace h90 : ((c : Int) == 90) = false := by rw [beq_eq_false_iff_ne]; omega
    replace h91 : ((c : Int) == 91) = false := by rw [beq_eq_false_iff_ne]; omega
    replace h95 : ((c : Int) == 95) = false := by rw [beq_eq_false_iff_ne]; omega
    replace h240 : ((c : Int) == 240) = false := by rw [beq_eq_false_iff_ne]; omega
    replace h241 : ((c : Int) == 241) = false := by rw [beq_eq_false_iff_ne]; omega
    replace h242 : ((c : Int) == 242) = false := by rw [beq_eq_false_iff_ne]; omega
    replace h243 : ((c : Int) == 243) = false := by rw [beq_eq_false_iff_ne]; omega
    replace h244 : ((c : Int) == 244) = false := by rw [beq_eq_false_iff_ne]; omega
    replace h245 : ((c : Int) == 245) = false := by rw [beq_eq_false_iff_ne]; omega
    replace h250 : ((c : Int) == 250) = false := by rw [beq_eq_false_iff_ne]; omega
    replace h253 : ((c : Int) == 253) = false := by rw [beq_eq_false_iff_ne]; omega
    replace h254 : ((c : Int) == 254) = false := by rw [beq_eq_false_iff_ne]; omega
    replace h255 : ((c : Int) == 255) = false := by rw [beq_eq_false_iff_ne]; omega
    go_enter Tryz.func29, Tryz.ntmps29
    go_wp2
    refine bodyPost_ret (v := .agg #[.string { data := #[] }, .int .i64 0, .int .i64 0, .int .u64 0, .bool false, .int .i64 0]) (by simp [results, Tryz.results29, go_sem]) rfl ⟨rfl, ?_⟩
    repeat (first | exact xrefl _ | refine xalloc ?_ _ | refine xset ?_ (by simp) _)
end Go.Proofs.YtbicfaiabpcgfaaGreatDoor
namespace Go.Proofs.YtbicfaiabpcgfaaGreatDoor
open Go.RowKit

set_option maxRecDepth 100000 in
set_option maxHeartbeats 2000000 in
theorem refInfo_row1 (z : Int) (w : World) (hz : z < 96 ∨ 164 < z) (m1 m2 m3 : List UInt8) (i1 o1 g1 i2 o2 g2 i3 o3 g3 s1 s2 s3 : Nat) (q1 q2 q3 : Bool)
    (h1 : ∀ W, Calls Tryz.prog 27 #[.int .u8 z] W fun e w' => e = .returned (infoV ⟨m1, i1, o1, g1, q1, s1⟩) ∧ Below W.heap.size W w')
    (h2 : ∀ W, Calls Tryz.prog 28 #[.int .u8 z] W fun e w' => e = .returned (infoV ⟨m2, i2, o2, g2, q2, s2⟩) ∧ Below W.heap.size W w')
    (h3 : ∀ W, Calls Tryz.prog 29 #[.int .u8 z] W fun e w' => e = .returned (infoV ⟨m3, i3, o3, g3, q3, s3⟩) ∧ Below W.heap.size W w')
    (n1 : m1 ≠ []) : Calls Tryz.prog 10 #[.int .u8 z] w fun e w' => e = .returned (infoV ⟨m1, i1, o1, g1, q1, s1⟩) ∧ Below w.heap.size w w' := by
  have hB0 : Hid (BlkG (w.alloc (.cells noV.toArray 25)) w.heap.size 25 noV) := Lib.hid (BlkG.new w _ _)
  have hb0 : Hid (Below w.heap.size w (w.alloc (.cells noV.toArray 25))) := Lib.hid (xalloc (xrefl w) _)
  obtain ⟨fs, hu⟩ := struct_info
  unfold infoV at h1 h2 h3
  have p1 : m1.isEmpty = false := by cases m1 with | nil => exact absurd rfl n1 | cons a l => rfl
  replace h1 := Lib.hid h1
  replace h2 := Lib.hid h2
  replace h3 := Lib.hid h3
  rcases hz with hz | hz
  · have a1 : ¬ (96 : Int) ≤ z := by omega
    have a2 : ¬ (128 : Int) ≤ z := by omega
    have a3 : ¬ (144 : Int) ≤ z := by omega
    have a4 : ¬ (160 : Int) ≤ z := by omega
    clear hz
    go_enter Tryz.func10, Tryz.ntmps10
    go_wp2_with (first
        | (go_at_call 27; refine (h1.out _).mono ?_; rintro e w1 ⟨rfl, hb1⟩; replace hB0 := Lib.hid ((hB0.out).below hb1); replace hb0 := Lib.hid (xtrans (hb0.out) hb1))
        | (refine wpList_store_blkG rfl 25 _ _ rfl w.heap.size rfl 25 noV (infL ⟨m1, i1, o1, g1, q1, s1⟩) (by first | exact hB0.out | exact hB0.out.alloc _) rfl rfl (by kernel_rfl) rfl ?_; intro w9 hB2 ho2; replace hB2 := Lib.hid hB2; replace ho2 := Lib.hid ho2))
    refine bodyPost_ret (results_blkG rfl _ _ w.heap.size 25 _ _ rfl hB2.out hu rfl (by kernel_rfl)) rfl ⟨rfl, ?_⟩
    first | exact ho2.out.below hb0.out hb0.out.size (by rintro i rfl; omega) | exact ho2.out.below (xalloc hb0.out _) (xalloc hb0.out _).size (by rintro i rfl; omega)

  · have a1 : ¬ z ≤ 127 := by omega
    have a2 : ¬ z ≤ 143 := by omega
    have a3 : ¬ z ≤ 159 := by omega
    have a4 : ¬ z ≤ 164 := by omega
    have b1 : (96 : Int) ≤ z := by omega
    have b2 : (128 : Int) ≤ z := by omega
    have b3 : (144 : Int) ≤ z := by omega
    have b4 : (160 : Int) ≤ z := by omega
    clear hz
    go_enter Tryz.func10, Tryz.ntmps10
    go_wp2_with (first
        | (go_at_call 27; refine (h1.out _).mono ?_; rintro e w1 ⟨rfl, hb1⟩; replace hB0 := Lib.hid ((hB0.out).below hb1); replace hb0 := Lib.hid (xtrans (hb0.out) hb1))
        | (refine wpList_store_blkG rfl 25 _ _ rfl w.heap.size rfl 25 noV (infL ⟨m1, i1, o1, g1, q1, s1⟩) (by first | exact hB0.out | exact hB0.out.alloc _) rfl rfl (by kernel_rfl) rfl ?_; intro w9 hB2 ho2; replace hB2 := Lib.hid hB2; replace ho2 := Lib.hid ho2))
    refine bodyPost_ret (results_blkG rfl _ _ w.heap.size 25 _ _ rfl hB2.out hu rfl (by kernel_rfl)) rfl ⟨rfl, ?_⟩
    first | exact ho2.out.below hb0.out hb0.out.size (by rintro i rfl; omega) | exact ho2.out.below (xalloc hb0.out _) (xalloc hb0.out _).size (by rintro i rfl; omega)

set_option maxRecDepth 100000 in
set_option maxHeartbeats 2000000 in
theorem refInfo_row2 (z : Int) (w : World) (hz : z < 96 ∨ 164 < z) (m1 m2 m3 : List UInt8) (i1 o1 g1 i2 o2 g2 i3 o3 g3 s1 s2 s3 : Nat) (q1 q2 q3 : Bool)
    (h1 : ∀ W, Calls Tryz.prog 27 #[.int .u8 z] W fun e w' => e = .returned (infoV ⟨m1, i1, o1, g1, q1, s1⟩) ∧ Below W.heap.size W w')
    (h2 : ∀ W, Calls Tryz.prog 28 #[.int .u8 z] W fun e w' => e = .returned (infoV ⟨m2, i2, o2, g2, q2, s2⟩) ∧ Below W.heap.size W w')
    (h3 : ∀ W, Calls Tryz.prog 29 #[.int .u8 z] W fun e w' => e = .returned (infoV ⟨m3, i3, o3, g3, q3, s3⟩) ∧ Below W.heap.size W w')
    (n1 : m1 = []) (n2 : m2 ≠ []) : Calls Tryz.prog 10 #[.int .u8 z] w fun e w' => e = .returned (infoV ⟨m2, i2, o2, g2, q2, s2⟩) ∧ Below w.heap.size w w' := by
  have hB0 : Hid (BlkG (w.alloc (.cells noV.toArray 25)) w.heap.size 25 noV) := Lib.hid (BlkG.new w _ _)
  have hb0 : Hid (Below w.heap.size w (w.alloc (.cells noV.toArray 25))) := Lib.hid (xalloc (xrefl w) _)
  obtain ⟨fs, hu⟩ := struct_info
  unfold infoV at h1 h2 h3
  subst n1
  have p2 : m2.isEmpty = false := by cases m2 with | nil => exact absurd rfl n2 | cons a l => rfl
  have p0 := bytes_eq
  replace h1 := Lib.hid h1
  replace h2 := Lib.hid h2
  replace h3 := Lib.hid h3
  rcases hz with hz | hz
  · have a1 : ¬ (96 : Int) ≤ z := by omega
    have a2 : ¬ (128 : Int) ≤ z := by omega
    have a3 : ¬ (144 : Int) ≤ z := by omega
    have a4 : ¬ (160 : Int) ≤ z := by omega
    clear hz
    go_enter Tryz.func10, Tryz.ntmps10
    go_wp2_with (first
        | (go_at_call 27; refine (h1.out _).mono ?_; rintro e w1 ⟨rfl, hb1⟩; replace hB0 := Lib.hid ((hB0.out).below hb1); replace hb0 := Lib.hid (xtrans (hb0.out) hb1))
        | (go_at_call 28; refine (h2.out _).mono ?_; rintro e w2 ⟨rfl, hb2⟩; replace hB0 := Lib.hid ((hB0.out.alloc _).below hb2); replace hb0 := Lib.hid (xtrans (xalloc hb0.out _) hb2))
        | (refine wpList_store_blkG rfl 25 _ _ rfl w.heap.size rfl 25 noV (infL ⟨m2, i2, o2, g2, q2, s2⟩) (by first | exact hB0.out | exact hB0.out.alloc _) rfl rfl (by kernel_rfl) rfl ?_; intro w9 hB2 ho2; replace hB2 := Lib.hid hB2; replace ho2 := Lib.hid ho2))
    refine bodyPost_ret (results_blkG rfl _ _ w.heap.size 25 _ _ rfl hB2.out hu rfl (by kernel_rfl)) rfl ⟨rfl, ?_⟩
    first | exact ho2.out.below hb0.out hb0.out.size (by rintro i rfl; omega) | exact ho2.out.below (xalloc hb0.out _) (xalloc hb0.out _).size (by rintro i rfl; omega)

  · have a1 : ¬ z ≤ 127 := by omega
    have a2 : ¬ z ≤ 143 := by omega
    have a3 : ¬ z ≤ 159 := by omega
    have a4 : ¬ z ≤ 164 := by omega
    have b1 : (96 : Int) ≤ z := by omega
    have b2 : (128 : Int) ≤ z := by omega
    have b3 : (144 : Int) ≤ z := by omega
    have b4 : (160 : Int) ≤ z := by omega
    clear hz
    go_enter Tryz.func10, Tryz.ntmps10
    go_wp2_with (first
        | (go_at_call 27; refine (h1.out _).mono ?_; rintro e w1 ⟨rfl, hb1⟩; replace hB0 := Lib.hid ((hB0.out).below hb1); replace hb0 := Lib.hid (xtrans (hb0.out) hb1))
        | (go_at_call 28; refine (h2.out _).mono ?_; rintro e w2 ⟨rfl, hb2⟩; replace hB0 := Lib.hid ((hB0.out.alloc _).below hb2); replace hb0 := Lib.hid (xtrans (xalloc hb0.out _) hb2))
        | (refine wpList_store_blkG rfl 25 _ _ rfl w.heap.size rfl 25 noV (infL ⟨m2, i2, o2, g2, q2, s2⟩) (by first | exact hB0.out | exact hB0.out.alloc _) rfl rfl (by kernel_rfl) rfl ?_; intro w9 hB2 ho2; replace hB2 := Lib.hid hB2; replace ho2 := Lib.hid ho2))
    refine bodyPost_ret (results_blkG rfl _ _ w.heap.size 25 _ _ rfl hB2.out hu rfl (by kernel_rfl)) rfl ⟨rfl, ?_⟩
    first | exact ho2.out.below hb0.out hb0.out.size (by rintro i rfl; omega) | exact ho2.out.below (xalloc hb0.out _) (xalloc hb0.out _).size (by rintro i rfl; omega)

set_option maxRecDepth 100000 in
set_option maxHeartbeats 2000000 in
theorem refInfo_row3 (z : Int) (w : World) (hz : z < 96 ∨ 164 < z) (m1 m2 m3 : List UInt8) (i1 o1 g1 i2 o2 g2 i3 o3 g3 s1 s2 s3 : Nat) (q1 q2 q3 : Bool)
    (h1 : ∀ W, Calls Tryz.prog 27 #[.int .u8 z] W fun e w' => e = .returned (infoV ⟨m1, i1, o1, g1, q1, s1⟩) ∧ Below W.heap.size W w')
    (h2 : ∀ W, Calls Tryz.prog 28 #[.int .u8 z] W fun e w' => e = .returned (infoV ⟨m2, i2, o2, g2, q2, s2⟩) ∧ Below W.heap.size W w')
    (h3 : ∀ W, Calls Tryz.prog 29 #[.int .u8 z] W fun e w' => e = .returned (infoV ⟨m3, i3, o3, g3, q3, s3⟩) ∧ Below W.heap.size W w')
    (n1 : m1 = []) (n2 : m2 = []) : Calls Tryz.prog 10 #[.int .u8 z] w fun e w' => e = .returned (infoV ⟨m3, i3, o3, g3, q3, s3⟩) ∧ Below w.heap.size w w' := by
  have hB0 : Hid (BlkG (w.alloc (.cells noV.toArray 25)) w.heap.size 25 noV) := Lib.hid (BlkG.new w _ _)
  have hb0 : Hid (Below w.heap.size w (w.alloc (.cells noV.toArray 25))) := Lib.hid (xalloc (xrefl w) _)
  obtain ⟨fs, hu⟩ := struct_info
  unfold infoV at h1 h2 h3
  subst n1
  subst n2
  have p0 := bytes_eq
  replace h1 := Lib.hid h1
  replace h2 := Lib.hid h2
  replace h3 := Lib.hid h3
  rcases hz with hz | hz
  · have a1 : ¬ (96 : Int) ≤ z := by omega
    have a2 : ¬ (128 : Int) ≤ z := by omega
    have a3 : ¬ (144 : Int) ≤ z := by omega
    have a4 : ¬ (160 : Int) ≤ z := by omega
    clear hz
    go_enter Tryz.func10, Tryz.ntmps10
    go_wp2_with (first
        | (go_at_call 27; refine (h1.out _).mono ?_; rintro e w1 ⟨rfl, hb1⟩; replace hB0 := Lib.hid ((hB0.out).below hb1); replace hb0 := Lib.hid (xtrans (hb0.out) hb1))
        | (go_at_call 28; refine (h2.out _).mono ?_; rintro e w2 ⟨rfl, hb2⟩; replace hB0 := Lib.hid ((hB0.out.alloc _).below hb2); replace hb0 := Lib.hid (xtrans (xalloc hb0.out _) hb2))
        | (go_at_call 29; refine (h3.out _).mono ?_; rintro e w3 ⟨rfl, hb3⟩; replace hB0 := Lib.hid ((hB0.out.alloc _).below hb3); replace hb0 := Lib.hid (xtrans (xalloc hb0.out _) hb3))
        | (refine wpList_store_blkG rfl 25 _ _ rfl w.heap.size rfl 25 noV (infL ⟨m3, i3, o3, g3, q3, s3⟩) (by first | exact hB0.out | exact hB0.out.alloc _) rfl rfl (by kernel_rfl) rfl ?_; intro w9 hB2 ho2; replace hB2 := Lib.hid hB2; replace ho2 := Lib.hid ho2))
    refine bodyPost_ret (results_blkG rfl _ _ w.heap.size 25 _ _ rfl hB2.out hu rfl (by kernel_rfl)) rfl ⟨rfl, ?_⟩
    first | exact ho2.out.below hb0.out hb0.out.size (by rintro i rfl; omega) | exact ho2.out.below (xalloc hb0.out _) (xalloc hb0.out _).size (by rintro i rfl; omega)

  · have a1 : ¬ z ≤ 127 := by omega
    have a2 : ¬ z ≤ 143 := by omega
    have a3 : ¬ z ≤ 159 := by omega
    have a4 : ¬ z ≤ 164 := by omega
    have b1 : (96 : Int) ≤ z := by omega
    have b2 : (128 : Int) ≤ z := by omega
    have b3 : (144 : Int) ≤ z := by omega
    have b4 : (160 : Int) ≤ z := by omega
    clear hz
    go_enter Tryz.func10, Tryz.ntmps10
    go_wp2_with (first
        | (go_at_call 27; refine (h1.out _).mono ?_; rintro e w1 ⟨rfl, hb1⟩; replace hB0 := Lib.hid ((hB0.out).below hb1); replace hb0 := Lib.hid (xtrans (hb0.out) hb1))
        | (go_at_call 28; refine (h2.out _).mono ?_; rintro e w2 ⟨rfl, hb2⟩; replace hB0 := Lib.hid ((hB0.out.alloc _).below hb2); replace hb0 := Lib.hid (xtrans (xalloc hb0.out _) hb2))
        | (go_at_call 29; refine (h3.out _).mono ?_; rintro e w3 ⟨rfl, hb3⟩; replace hB0 := Lib.hid ((hB0.out.alloc _).below hb3); replace hb0 := Lib.hid (xtrans (xalloc hb0.out _) hb3))
        | (refine wpList_store_blkG rfl 25 _ _ rfl w.heap.size rfl 25 noV (infL ⟨m3, i3, o3, g3, q3, s3⟩) (by first | exact hB0.out | exact hB0.out.alloc _) rfl rfl (by kernel_rfl) rfl ?_; intro w9 hB2 ho2; replace hB2 := Lib.hid hB2; replace ho2 := Lib.hid ho2))
    refine bodyPost_ret (results_blkG rfl _ _ w.heap.size 25 _ _ rfl hB2.out hu rfl (by kernel_rfl)) rfl ⟨rfl, ?_⟩
    first | exact ho2.out.below hb0.out hb0.out.size (by rintro i rfl; omega) | exact ho2.out.below (xalloc hb0.out _) (xalloc hb0.out _).size (by rintro i rfl; omega)

theorem refInfo_any (c : Nat) (w : World) (hc : c < 256) : Calls Tryz.prog 10 #[.int .u8 c] w fun e w' => e = .returned (infoV (infoN c)) ∧ Below w.heap.size w w' := by
  by_cases h : 96 ≤ c ∧ c ≤ 164
  · by_cases h1 : c ≤ 127
    · obtain ⟨n, rfl⟩ : ∃ n, c = n + 95 := ⟨c - 95, by omega⟩
      rw [fam_push (by omega) (by omega)]
      exact refInfo_push n w (by omega) (by omega)
    · by_cases h2 : c ≤ 143
      · obtain ⟨n, rfl⟩ : ∃ n, c = n + 127 := ⟨c - 127, by omega⟩
        rw [fam_dup (by omega) (by omega)]
        exact refInfo_dup n w (by omega) (by omega)
      · by_cases h3 : c ≤ 159
        · obtain ⟨n, rfl⟩ : ∃ n, c = n + 143 := ⟨c - 143, by omega⟩
          rw [fam_swap (by omega) (by omega)]
          exact refInfo_swap n w (by omega) (by omega)
        · obtain ⟨n, rfl⟩ : ∃ n, c = n + 160 := ⟨c - 160, by omega⟩
          rw [fam_log (by omega)]
          exact refInfo_log n w (by omega)
  · rw [info_ref c hc (fam_none h)]
    have h1 := fun W => refLow_any c W
    have h2 := fun W => refMiddle_any c W
    have h3 := fun W => refHigh_any c W
    have hz : (c : Int) < 96 ∨ 164 < (c : Int) := by omega
    generalize rowGet c lowRows = x1 at *
    generalize rowGet c middleRows = x2 at *
    generalize rowGet c highRows = x3 at *
    obtain ⟨m1, i1, o1, g1, q1, s1⟩ := x1
    obtain ⟨m2, i2, o2, g2, q2, s2⟩ := x2
    obtain ⟨m3, i3, o3, g3, q3, s3⟩ := x3
    by_cases n1 : m1 = []
    · rw [if_neg (by simp [n1])]
      by_cases n2 : m2 = []
      · rw [if_neg (by simp [n2])]
        exact refInfo_row3 c w hz m1 m2 m3 i1 o1 g1 i2 o2 g2 i3 o3 g3 s1 s2 s3 q1 q2 q3 h1 h2 h3 n1 n2
      · rw [if_pos n2]
        exact refInfo_row2 c w hz m1 m2 m3 i1 o1 g1 i2 o2 g2 i3 o3 g3 s1 s2 s3 q1 q2 q3 h1 h2 h3 n1 n2
    · rw [if_pos n1]
      exact refInfo_row1 c w hz m1 m2 m3 i1 o1 g1 i2 o2 g2 i3 o3 g3 s1 s2 s3 q1 q2 q3 h1 h2 h3 n1
end Go.Proofs.YtbicfaiabpcgfaaGreatDoor
namespace Go.Proofs.YtbicfaiabpcgfaaGreatDoor
open Go.RowKit Go.Shelf

abbrev BldAt (B b : Nat) (p : Value) (bs : List Value) (w : World) : Prop := Lib.BuilderAt 99 5 B b p bs w
abbrev Bld (B b : Nat) (bs : List Value) (w : World) : Prop := Lib.IsBuilder 99 5 B b bs w
theorem bld_size : ∃ j, Tryz.prog.info? 99 = some j ∧ j.size = 2 := by
  have : (Tryz.prog.info? 99).map (·.size) = some 2 := by kernel_rfl
  cases hq : Tryz.prog.info? 99 with
  | none => rw [hq] at this; cases this
  | some j => rw [hq] at this; exact ⟨j, rfl, by simpa using this⟩
set_option maxHeartbeats 2000000 in
set_option maxRecDepth 100000 in
theorem bldCheck_used (b : Nat) (w : World) (h0 : w.cell? ⟨b, 0, none⟩ = some (.pointer (some ⟨b, 0, none⟩))) :
    Calls Tryz.prog 69 #[.pointer (some ⟨b, 0, none⟩)] w fun e w' => e = .returned (.tuple #[]) ∧ w' = w := by
  obtain ⟨j, hj, _⟩ := bld_size
  go_enter Tryz.func69, Tryz.ntmps69
  go_wp2
  rw [Lib.run_neq_ptr_same w _ Tryz.underlying97 hj]
  go_wp2
  go_end0
  exact ⟨rfl, rfl⟩
set_option maxHeartbeats 2000000 in
set_option maxRecDepth 100000 in
theorem bldCheck_fresh (b : Nat) (w : World) (h0 : w.cell? ⟨b, 0, none⟩ = some (.pointer none)) (hsh : w.shape? b = some (99, 2)) (hfz : w.frozen? ⟨b, 0, none⟩ = false) :
    Calls Tryz.prog 69 #[.pointer (some ⟨b, 0, none⟩)] w fun e w' => e = .returned (.tuple #[]) ∧ w' = w.setCell ⟨b, 0, none⟩ (.pointer (some ⟨b, 0, none⟩)) := by
  obtain ⟨j, hj, hjs⟩ := bld_size
  have h1 := fun (W : World) (hW : W.shape? b = some (99, 2)) => Lib.run_to_unsafe (P := Tryz.prog) W ⟨b, 0, none⟩ Tryz.underlying97 Tryz.underlying129 hj (by rw [hjs]; decide) hW (Nat.zero_lt_succ 1)
  have h2 := fun (W : World) (hW : W.shape? b = some (99, 2)) => Lib.run_from_unsafe (P := Tryz.prog) W ⟨b, 0, none⟩ Tryz.underlying129 Tryz.underlying97 hj hW (by kernel_rfl)
  go_enter Tryz.func69, Tryz.ntmps69
  go_wp2
  rw [run_callFunc_extern Tryz.func87 (by kernel_rfl) (by kernel_rfl) (by kernel_rfl) (e := Extern.AbiNoEscape.same) (by kernel_rfl)]
  rw [Lib.run_noEscape]
  simp only [Result.andThen]
  rw [Oper.upon_value]
  go_wp2
  go_end0
  exact ⟨rfl, rfl⟩
theorem bldCheck_any (B b : Nat) (bs : List Value) (w : World) (h : Bld B b bs w) :
    Calls Tryz.prog 69 #[.pointer (some ⟨b, 0, none⟩)] w fun e w' => e = .returned (.tuple #[]) ∧ BldAt B b (.pointer (some ⟨b, 0, none⟩)) bs w' ∧ Below B w w' := by
  rcases h with h | h
  · refine (bldCheck_fresh b w h.cell0 h.shape h.frozen0).mono ?_
    rintro e w' ⟨rfl, rfl⟩
    exact ⟨rfl, h.used _, (Below.refl B w).setCell (p := ⟨b, 0, none⟩) h.1 _⟩
  · refine (bldCheck_used b w h.cell0).mono ?_
    rintro e w' ⟨rfl, rfl⟩
    exact ⟨rfl, h, Below.refl B _⟩
theorem bld_infoB : (Tryz.prog.info? 5).map (fun i => (i.zero, i.size, i.bytes)) = some (some (.int .u8 0), 1, 1) := by kernel_rfl
/-- What is known of a builder that has been looked at. -/
theorem BldAt.open {B b : Nat} {p : Value} {bs : List Value} {w : World} (h : BldAt B b p bs w) : ∃ v, w.heap[b]? = some (.cells #[p, v] 99 (0, 0)) ∧ w.ownsRow B 5 1 v bs.length bs ∧ v.ownBlock ≠ some b ∧ B ≤ b := ⟨h.2.choose, h.2.choose_spec.1, h.2.choose_spec.2.1, h.2.choose_spec.2.2, h.1⟩
set_option maxHeartbeats 4000000 in
set_option maxRecDepth 100000 in
theorem bldByte_any (B b : Nat) (bs : List Value) (c : Int) (w : World) (h : Bld B b bs w) (hlen : bs.length + 1 ≤ 140737488355328) (hBw : B ≤ w.heap.size) :
    Calls Tryz.prog 57 #[.pointer (some ⟨b, 0, none⟩), .int .u8 c] w fun e w' => e = .returned .nilIface ∧ BldAt B b (.pointer (some ⟨b, 0, none⟩)) (bs ++ [.int .u8 c]) w' ∧ Below B w w' := by
  obtain ⟨i0, hi, hz0, hz1, hz2⟩ := info_parts bld_infoB
  have hck := Lib.hid (bldCheck_any B b bs w h)
  clear h
  go_enter Tryz.func57, Tryz.ntmps57
  go_wp2_with (go_at_call 69; refine hck.out.mono ?_)
  rintro e w1 ⟨rfl, h1, hb1⟩
  obtain ⟨v, hbk, hown, hne, hB⟩ := h1.open
  have c1 : w1.cell? ⟨b, 1, none⟩ = some v := by rw [Lib.cell_of_heap hbk]; rfl
  go_wp2_with (at_builtin; refine wpList_append_own _ rfl _ _ 32 rfl B 5 i0 (.int .u8 0) 1 1 Tryz.underlying32 hi hz0 hz1 hz2 rfl (by decide) _ _ _ rfl (hown.alloc _) ⟨w1.heap.size, 0, none⟩ 1 1 [.int .u8 c] rfl rfl ?c1 ?c2 ?c3 ?c4 ?c5 ?_)
  case c1 =>
    intro j u hj
    match j, hj with
    | 0, hj => simp at hj; subst hj; simp [Addr.add]
  case c2 => intro u hu; simp at hu; subst hu; rfl
  case c3 => unfold maxLen; omega
  case c4 => omega
  case c5 => have := hb1.size; simp; omega
  intro v' w2 hown' hgrow _
  have hlt : b < w1.heap.size := h1.lt
  have hb2 : w2.heap[b]? = some (.cells #[.pointer (some ⟨b, 0, none⟩), v] 99 (0, 0)) := by
    rw [hgrow.block b (by simp; omega) (fun e => hne e.symm), Lib.alloc_old w1 _ b hlt]
    exact hbk
  have d1 : w2.cell? ⟨b, 1, none⟩ = some v := by rw [Lib.cell_of_heap hb2]; rfl
  have f1 : w2.frozen? ⟨b, 1, none⟩ = false := Lib.frozen_of_heap hb2 1
  obtain ⟨g, cap, rfl⟩ : ∃ g cap, v' = .slice (some ⟨g, 0, none⟩) (bs.length + 1) cap := by
    rcases hown'.2 with ⟨_, h0⟩ | ⟨g, cap, cur, hv, _⟩
    · omega
    · exact ⟨g, cap, hv⟩
  go_wp2
  go_ret
  refine ⟨rfl, ?_, ?_⟩
  · exact Lib.BuilderAt.put (T := 99) (e := 5) hB hb2 (bs' := bs ++ [.int .u8 c]) (by simpa using hown') (by decide)
  · exact ((hb1.alloc (by have := hb1.size; omega) _).grown hgrow (by have := hb1.size; simp; omega) (fun k hk => (hown.lt k hk).1)).setCell (p := ⟨b, 1, none⟩) hB _
set_option maxHeartbeats 4000000 in
set_option maxRecDepth 100000 in
theorem bldStr_any (B b : Nat) (bs : List Value) (s : ByteArray) (w : World) (h : Bld B b bs w) (hlen : bs.length + s.size ≤ 140737488355328) (hBw : B ≤ w.heap.size) :
    Calls Tryz.prog 56 #[.pointer (some ⟨b, 0, none⟩), .string s] w fun e w' => e = .returned (.tuple #[.int .i64 s.size, .nilIface]) ∧ BldAt B b (.pointer (some ⟨b, 0, none⟩)) (bs ++ Lib.strCells s) w' ∧ Below B w w' := by
  obtain ⟨i0, hi, hz0, hz1, hz2⟩ := info_parts bld_infoB
  have hck := Lib.hid (bldCheck_any B b bs w h)
  clear h
  go_enter Tryz.func56, Tryz.ntmps56
  go_wp2_with (go_at_call 69; refine hck.out.mono ?_)
  rintro e w1 ⟨rfl, h1, hb1⟩
  obtain ⟨v, hbk, hown, hne, hB⟩ := h1.open
  have c1 : w1.cell? ⟨b, 1, none⟩ = some v := by rw [Lib.cell_of_heap hbk]; rfl
  go_wp2_with (at_builtin; refine Lib.wpList_append_own_string _ rfl _ _ 32 9 rfl B 5 i0 Tryz.underlying32 Tryz.underlying9 hi hz0 hz1 hz2 _ _ _ rfl hown s rfl ?c3 ?c4 ?c5 ?_)
  case c3 => unfold maxLen; omega
  case c4 => omega
  case c5 => have := hb1.size; omega
  intro v' w2 hown' hgrow _
  have hb2 : w2.heap[b]? = some (.cells #[.pointer (some ⟨b, 0, none⟩), v] 99 (0, 0)) := by
    rw [hgrow.block b h1.lt (fun e => hne e.symm)]
    exact hbk
  have d1 : w2.cell? ⟨b, 1, none⟩ = some v := by rw [Lib.cell_of_heap hb2]; rfl
  have f1 : w2.frozen? ⟨b, 1, none⟩ = false := Lib.frozen_of_heap hb2 1
  obtain ⟨ao, n', cap, rfl⟩ : ∃ ao n' cap, v' = .slice ao n' cap := by
    rcases hown'.2 with ⟨hv, _⟩ | ⟨g, cap, cur, hv, _⟩
    · exact ⟨none, 0, 0, hv⟩
    · exact ⟨_, _, _, hv⟩
  go_wp2
  go_ret2
  refine ⟨rfl, ?_, ?_⟩
  · exact Lib.BuilderAt.put (T := 99) (e := 5) hB hb2 (bs' := bs ++ Lib.strCells s) (by rw [List.length_append, Lib.strCells_length]; exact hown') (by decide)
  · exact (hb1.grown hgrow (by have := hb1.size; omega) (fun k hk => (hown.lt k hk).1)).setCell (p := ⟨b, 1, none⟩) hB _
end Go.Proofs.YtbicfaiabpcgfaaGreatDoor
namespace Go.Proofs.YtbicfaiabpcgfaaGreatDoor
open Go.RowKit

def hexc (d : Nat) : UInt8 := if d < 10 then UInt8.ofNat (48 + d) else UInt8.ofNat (87 + d)
def hexB (z : Int) : List UInt8 := [hexc (z / 16).toNat, hexc (z % 16).toNat]
def hexL (zs : List Int) : List UInt8 := zs.flatMap hexB
theorem hexL_len (zs : List Int) : (hexL zs).length = 2 * zs.length := by
  induction zs with
  | nil => rfl
  | cons z zs ih => simp only [hexL, List.flatMap_cons, List.length_append, List.length_cons] at *; rw [ih]; simp [hexB]; omega
end Go.Proofs.YtbicfaiabpcgfaaGreatDoor
