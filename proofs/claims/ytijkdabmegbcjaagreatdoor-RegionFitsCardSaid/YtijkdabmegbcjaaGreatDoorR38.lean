/- Texts of this claim, merged; no condition. -/
import Derived.Test.YtijkdabmegbcjaaGreatDoorR37
set_option linter.all false
namespace Go.Proofs.YtijkdabmegbcjaaGreatDoor
open Go.RowKit Go.Shelf

section
variable (l0 l1 h0 h1 : Int) (W : World)
set_option maxRecDepth 100000 in
set_option maxHeartbeats 8000000 in
theorem fitsOut_any (hout : (l0 < -2000) ∨ (¬ l0 < -2000 ∧ l0 > 0) ∨ (¬ l0 < -2000 ∧ ¬ l0 > 0 ∧ h0 < 0) ∨ (¬ l0 < -2000 ∧ ¬ l0 > 0 ∧ ¬ h0 < 0 ∧ h0 > 2000) ∨ (¬ l0 < -2000 ∧ ¬ l0 > 0 ∧ ¬ h0 < 0 ∧ ¬ h0 > 2000 ∧ l1 < 0) ∨ (¬ l0 < -2000 ∧ ¬ l0 > 0 ∧ ¬ h0 < 0 ∧ ¬ h0 > 2000 ∧ ¬ l1 < 0 ∧ l1 > 3000) ∨ (¬ l0 < -2000 ∧ ¬ l0 > 0 ∧ ¬ h0 < 0 ∧ ¬ h0 > 2000 ∧ ¬ l1 < 0 ∧ ¬ l1 > 3000 ∧ h1 < 0) ∨ (¬ l0 < -2000 ∧ ¬ l0 > 0 ∧ ¬ h0 < 0 ∧ ¬ h0 > 2000 ∧ ¬ l1 < 0 ∧ ¬ l1 > 3000 ∧ ¬ h1 < 0 ∧ h1 > 3000)) :
    Calls Tryz.prog 10 #[.agg #[.int .i64 l0, .int .i64 l1], .agg #[.int .i64 h0, .int .i64 h1]] W fun e W' => e = .returned (.bool true) ∧ Below W.heap.size W W' := by
  obtain ⟨i0, hi0, hz0, hz1, hz2⟩ := info_parts info_reg
  have hrg := Tryz.underlying59
  have hA := BlkG.new W 57 [.int .i64 l0, .int .i64 l1]
  have hB := BlkG.new (W.alloc (.cells #[.int .i64 l0, .int .i64 l1] 57)) 57 [.int .i64 h0, .int .i64 h1]
  have s1 : (W.alloc (.cells #[.int .i64 l0, .int .i64 l1] 57)).heap.size = W.heap.size + 1 := World.size_alloc _ _
  rw [s1] at hB
  have s2 : ((W.alloc (.cells #[.int .i64 l0, .int .i64 l1] 57)).alloc (.cells #[.int .i64 h0, .int .i64 h1] 57)).heap.size = W.heap.size + 1 + 1 := by rw [World.size_alloc, s1]
  have hb2 : Below W.heap.size W ((W.alloc (.cells #[.int .i64 l0, .int .i64 l1] 57)).alloc (.cells #[.int .i64 h0, .int .i64 h1] 57)) := xalloc (xalloc (xrefl W) _) _
  have hA2 : BlkG ((W.alloc (.cells #[.int .i64 l0, .int .i64 l1] 57)).alloc (.cells #[.int .i64 h0, .int .i64 h1] 57)) W.heap.size 57 [.int .i64 l0, .int .i64 l1] := hA.alloc _
  replace hB : BlkG ((W.alloc (.cells #[.int .i64 l0, .int .i64 l1] 57)).alloc (.cells #[.int .i64 h0, .int .i64 h1] 57)) (W.heap.size + 1) 57 [.int .i64 h0, .int .i64 h1] := hB
  clear hA
  have c0 := hA2.cell 0 (by simp)
  have c2 := hB.cell 0 (by simp)
  simp only [List.getElem_cons_succ, List.getElem_cons_zero] at c0 c2
  replace hA2 := Lib.hid hA2
  replace hB := Lib.hid hB
  replace hb2 := Lib.hid hb2
  rcases hout with h | ⟨_, _⟩ | ⟨_, _, _⟩ | ⟨_, _, _, _⟩ | ⟨_, _, _, _, _⟩ | ⟨_, _, _, _, _, _⟩ | ⟨_, _, _, _, _, _, _⟩ | ⟨_, _, _, _, _, _, _, _⟩
  all_goals
    go_enter Tryz.func10, Tryz.ntmps10
    go_wp2_with (go_at_call 36; refine (works13_any _).mono ?_; rintro e w9 ⟨rfl, b9⟩; replace b9 := Lib.hid b9)
    go_ret
    exact ⟨rfl, xtrans (xalloc hb2.out _) b9.out⟩
set_option maxRecDepth 100000 in
set_option maxHeartbeats 8000000 in
theorem fitsIn_any (q1 : ¬ l0 < -2000) (q2 : ¬ l0 > 0) (q3 : ¬ h0 < 0) (q4 : ¬ h0 > 2000) (q5 : ¬ l1 < 0) (q6 : ¬ l1 > 3000) (q7 : ¬ h1 < 0) (q8 : ¬ h1 > 3000) :
    Calls Tryz.prog 10 #[.agg #[.int .i64 l0, .int .i64 l1], .agg #[.int .i64 h0, .int .i64 h1]] W fun e W' => e = .returned (.bool true) ∧ Below W.heap.size W W' := by
  obtain ⟨i0, hi0, hz0, hz1, hz2⟩ := info_parts info_reg
  have hrg := Tryz.underlying59
  have hA := BlkG.new W 57 [.int .i64 l0, .int .i64 l1]
  have hB := BlkG.new (W.alloc (.cells #[.int .i64 l0, .int .i64 l1] 57)) 57 [.int .i64 h0, .int .i64 h1]
  have s1 : (W.alloc (.cells #[.int .i64 l0, .int .i64 l1] 57)).heap.size = W.heap.size + 1 := World.size_alloc _ _
  rw [s1] at hB
  have s2 : ((W.alloc (.cells #[.int .i64 l0, .int .i64 l1] 57)).alloc (.cells #[.int .i64 h0, .int .i64 h1] 57)).heap.size = W.heap.size + 1 + 1 := by rw [World.size_alloc, s1]
  have hb2 : Below W.heap.size W ((W.alloc (.cells #[.int .i64 l0, .int .i64 l1] 57)).alloc (.cells #[.int .i64 h0, .int .i64 h1] 57)) := xalloc (xalloc (xrefl W) _) _
  have hA2 : BlkG ((W.alloc (.cells #[.int .i64 l0, .int .i64 l1] 57)).alloc (.cells #[.int .i64 h0, .int .i64 h1] 57)) W.heap.size 57 [.int .i64 l0, .int .i64 l1] := hA.alloc _
  replace hB : BlkG ((W.alloc (.cells #[.int .i64 l0, .int .i64 l1] 57)).alloc (.cells #[.int .i64 h0, .int .i64 h1] 57)) (W.heap.size + 1) 57 [.int .i64 h0, .int .i64 h1] := hB
  clear hA
  have hX := BlkG.new ((W.alloc (.cells #[.int .i64 l0, .int .i64 l1] 57)).alloc (.cells #[.int .i64 h0, .int .i64 h1] 57)) 59 [.int .i64 0, .int .u64 0, .int .u64 0, .int .i64 l0, .int .i64 h0, .int .i64 0]
  rw [s2] at hX
  have hb3 := xalloc (o := .cells #[.int .i64 0, .int .u64 0, .int .u64 0, .int .i64 l0, .int .i64 h0, .int .i64 0] 59) hb2
  have hA3 := hA2.alloc (.cells #[.int .i64 0, .int .u64 0, .int .u64 0, .int .i64 l0, .int .i64 h0, .int .i64 0] 59)
  have hB3 := hB.alloc (.cells #[.int .i64 0, .int .u64 0, .int .u64 0, .int .i64 l0, .int .i64 h0, .int .i64 0] 59)
  have c0 := hA2.cell 0 (by simp)
  have c2 := hB.cell 0 (by simp)
  have c1 := hA3.cell 1 (by simp)
  have c3 := hB3.cell 1 (by simp)
  have d3 := hX.cell 3 (by simp)
  have d4 := hX.cell 4 (by simp)
  simp only [List.getElem_cons_succ, List.getElem_cons_zero] at c0 c1 c2 c3 d3 d4
  have w1 : IntKind.i64.wrap (l1 + l0) = l1 + l0 := by simp [IntKind.wrap, IntKind.bits, IntKind.signed]; omega
  have w2 : IntKind.i64.wrap (l1 + h0) = l1 + h0 := by simp [IntKind.wrap, IntKind.bits, IntKind.signed]; omega
  have hF0 := fun W' => fits_any 0 l0 h0 0 0 0 l1 h1 W' (by omega) (by omega) (by omega) (by omega)
  obtain ⟨B, hB0⟩ : ∃ B, B = (decide (l1 ≥ -l0) && decide (l1 ≤ h1 - h0)) := ⟨_, rfl⟩
  rw [← hB0] at hF0
  replace hF0 := Lib.hid hF0
  clear hA2 hB hA3 hB3 hb2
  replace hb3 := Lib.hid hb3
  have hX3 := Lib.hid hX
  clear hX
  by_cases g1 : l1 + l0 ≥ 0
  · by_cases g2 : l1 + h0 ≤ h1
    · obtain rfl : B = true := by rw [hB0]; simp; omega
      have hF := hF0
      clear hB0 hF0
      go_enter Tryz.func10, Tryz.ntmps10
      go_wp2_with (fail)
      refine' wp_region_growL 26 [fixd _, fixd _, fixd _, fixd _, fixd _, fixd _, fixd _, fixd _, fixd _, fixd _, fixd _, fixd _, fixd _, fixd _, fixd _, fixd _, fixd _, fixd _, fixd _, fixd _, fixd _, fixd _, fixd _, fixd _, fixd _, fixd _] (by kernel_rfl) (by kernel_rfl) ?_
      rotate_left 26
      simp only [List.take_succ_cons, List.take_zero, List.drop_succ_cons, List.drop_zero]
      try simp only [Act.put, List.setIfInBounds_toArray, List.set_cons_succ, List.set_cons_zero, List.nil_append, List.cons_append]
      refine' wpGrowV_load_blkG rfl 59 _ rfl (W.heap.size + 1 + 1) rfl 59 [.int .i64 0, .int .u64 0, .int .u64 0, .int .i64 l0, .int .i64 h0, .int .i64 0] _ hX3.out hrg (by kernel_rfl) rfl ?_
      try simp only [Act.put, List.setIfInBounds_toArray, List.set_cons_succ, List.set_cons_zero, List.nil_append, List.cons_append]
      refine' wpGrowV_fix _ rfl rfl (fun W hb _ => by go_simp; first | exact xrefl W | exact ⟨rfl, xrefl W⟩) ?_
      try simp only [Act.put, List.setIfInBounds_toArray, List.set_cons_succ, List.set_cons_zero, List.nil_append, List.cons_append]
      refine' wpGrowV_fix _ rfl rfl (fun W hb _ => by have c := cbel hb c1; go_simp; first | exact xrefl W | exact ⟨rfl, xrefl W⟩) ?_
      try simp only [Act.put, List.setIfInBounds_toArray, List.set_cons_succ, List.set_cons_zero, List.nil_append, List.cons_append]
      refine' wpGrowV_fix _ rfl rfl (fun W hb _ => by go_simp; first | exact xrefl W | exact ⟨rfl, xrefl W⟩) ?_
      try simp only [Act.put, List.setIfInBounds_toArray, List.set_cons_succ, List.set_cons_zero, List.nil_append, List.cons_append]
      refine' wpGrowV_fix _ rfl rfl (fun W hb _ => by have c := cbel hb c3; go_simp; first | exact xrefl W | exact ⟨rfl, xrefl W⟩) ?_
      try simp only [Act.put, List.setIfInBounds_toArray, List.set_cons_succ, List.set_cons_zero, List.nil_append, List.cons_append]
      refine' wpGrowV_fix _ rfl rfl (fun W hb hF => ?_) ?_
      · clear hF
        go_simp
        go_at_call 37
        refine (hF.out W).mono ?_
        rintro e w' ⟨rfl, hb'⟩
        refine ⟨?_, hb'⟩
        exact rfl
      try simp only [Act.put, List.setIfInBounds_toArray, List.set_cons_succ, List.set_cons_zero, List.nil_append, List.cons_append]
      refine' wpGrowV_fix _ rfl rfl (fun W hb _ => by go_simp; first | exact xrefl W | exact ⟨rfl, xrefl W⟩) ?_
      try simp only [Act.put, List.setIfInBounds_toArray, List.set_cons_succ, List.set_cons_zero, List.nil_append, List.cons_append]
      refine' wpGrowV_fix _ rfl rfl (fun W hb _ => by have c := cbel hb c1; go_simp; first | exact xrefl W | exact ⟨rfl, xrefl W⟩) ?_
      try simp only [Act.put, List.setIfInBounds_toArray, List.set_cons_succ, List.set_cons_zero, List.nil_append, List.cons_append]
      refine' wpGrowV_fix _ rfl rfl (fun W hb _ => by go_simp; first | exact xrefl W | exact ⟨rfl, xrefl W⟩) ?_
      try simp only [Act.put, List.setIfInBounds_toArray, List.set_cons_succ, List.set_cons_zero, List.nil_append, List.cons_append]
      refine' wpGrowV_fix _ rfl rfl (fun W hb _ => by have c := cbel hb d3; go_simp; first | exact xrefl W | exact ⟨rfl, xrefl W⟩) ?_
      try simp only [Act.put, List.setIfInBounds_toArray, List.set_cons_succ, List.set_cons_zero, List.nil_append, List.cons_append]
      refine' wpGrowV_fix _ rfl rfl (fun W hb _ => by go_simp; first | exact xrefl W | exact ⟨rfl, xrefl W⟩) ?_
      try simp only [Act.put, List.setIfInBounds_toArray, List.set_cons_succ, List.set_cons_zero, List.nil_append, List.cons_append]
      refine' wpGrowV_fix _ rfl rfl (fun W hb _ => by go_simp; first | exact xrefl W | exact ⟨rfl, xrefl W⟩) ?_
      try simp only [Act.put, List.setIfInBounds_toArray, List.set_cons_succ, List.set_cons_zero, List.nil_append, List.cons_append]
      refine' wpGrowV_fix _ rfl rfl (fun W hb _ => by go_simp; first | exact xrefl W | exact ⟨rfl, xrefl W⟩) ?_
      try simp only [Act.put, List.setIfInBounds_toArray, List.set_cons_succ, List.set_cons_zero, List.nil_append, List.cons_append]
      first
        | (refine wpGrowV_not rfl rfl ?_)
        | (refine' wpGrowV_fix _ rfl rfl (fun W hb _ => by go_simp; first | exact xrefl W | exact ⟨rfl, xrefl W⟩) ?_)
      try simp only [Act.put, List.setIfInBounds_toArray, List.set_cons_succ, List.set_cons_zero, List.nil_append, List.cons_append]
      first
        | (refine wpGrowV_not rfl rfl ?_)
        | (refine' wpGrowV_fix _ rfl rfl (fun W hb _ => by have c := cbel hb c1; go_simp; first | exact xrefl W | exact ⟨rfl, xrefl W⟩) ?_)
      try simp only [Act.put, List.setIfInBounds_toArray, List.set_cons_succ, List.set_cons_zero, List.nil_append, List.cons_append]
      first
        | (refine wpGrowV_not rfl rfl ?_)
        | (refine' wpGrowV_fix _ rfl rfl (fun W hb _ => by go_simp; first | exact xrefl W | exact ⟨rfl, xrefl W⟩) ?_)
      try simp only [Act.put, List.setIfInBounds_toArray, List.set_cons_succ, List.set_cons_zero, List.nil_append, List.cons_append]
      first
        | (refine wpGrowV_not rfl rfl ?_)
        | (refine' wpGrowV_fix _ rfl rfl (fun W hb _ => by have c := cbel hb d4; go_simp; first | exact xrefl W | exact ⟨rfl, xrefl W⟩) ?_)
      try simp only [Act.put, List.setIfInBounds_toArray, List.set_cons_succ, List.set_cons_zero, List.nil_append, List.cons_append]
      first
        | (refine wpGrowV_not rfl rfl ?_)
        | (refine' wpGrowV_fix _ rfl rfl (fun W hb _ => by go_simp; first | exact xrefl W | exact ⟨rfl, xrefl W⟩) ?_)
      try simp only [Act.put, List.setIfInBounds_toArray, List.set_cons_succ, List.set_cons_zero, List.nil_append, List.cons_append]
      first
        | (refine wpGrowV_not rfl rfl ?_)
        | (refine' wpGrowV_fix _ rfl rfl (fun W hb _ => by go_simp; first | exact xrefl W | exact ⟨rfl, xrefl W⟩) ?_)
      try simp only [Act.put, List.setIfInBounds_toArray, List.set_cons_succ, List.set_cons_zero, List.nil_append, List.cons_append]
      first
        | (refine wpGrowV_not rfl rfl ?_)
        | (refine' wpGrowV_fix _ rfl rfl (fun W hb _ => by have c := cbel hb c3; go_simp; first | exact xrefl W | exact ⟨rfl, xrefl W⟩) ?_)
      try simp only [Act.put, List.setIfInBounds_toArray, List.set_cons_succ, List.set_cons_zero, List.nil_append, List.cons_append]
      refine' wpGrowV_fix (.bool true) rfl rfl (fun W hb _ => by go_simp; first | exact xrefl W | exact ⟨rfl, xrefl W⟩ | (refine ⟨?_, xrefl W⟩; simp [g1, g2])) ?_
      try simp only [Act.put, List.setIfInBounds_toArray, List.set_cons_succ, List.set_cons_zero, List.nil_append, List.cons_append]
      refine' wpGrowV_fix _ rfl rfl (fun W hb _ => by go_simp; first | exact xrefl W | exact ⟨rfl, xrefl W⟩) ?_
      try simp only [Act.put, List.setIfInBounds_toArray, List.set_cons_succ, List.set_cons_zero, List.nil_append, List.cons_append]
      refine' wpGrowV_fix (.bool true) rfl rfl (fun W hb _ => by go_simp; first | exact xrefl W | exact ⟨rfl, xrefl W⟩ | (refine ⟨?_, xrefl W⟩; simp [g1, g2])) ?_
      try simp only [Act.put, List.setIfInBounds_toArray, List.set_cons_succ, List.set_cons_zero, List.nil_append, List.cons_append]
      refine' wpGrowV_fix _ rfl rfl (fun W hb _ => by go_simp; first | exact xrefl W | exact ⟨rfl, xrefl W⟩) ?_
      try simp only [Act.put, List.setIfInBounds_toArray, List.set_cons_succ, List.set_cons_zero, List.nil_append, List.cons_append]
      first
        | (refine wpGrowV_not rfl rfl ?_)
        | (refine' wpGrowV_fix _ rfl rfl (fun W hb hF => ?_) ?_
           · clear hF
             go_simp
             go_at_call 36
             refine (works13_any W).mono ?_
             rintro e w' ⟨rfl, hb'⟩
             refine ⟨?_, hb'⟩
             exact rfl)
      try simp only [Act.put, List.setIfInBounds_toArray, List.set_cons_succ, List.set_cons_zero, List.nil_append, List.cons_append]
      refine' wpGrowV_fix _ rfl rfl (fun W hb _ => by go_simp; first | exact xrefl W | exact ⟨rfl, xrefl W⟩) ?_
      try simp only [Act.put, List.setIfInBounds_toArray, List.set_cons_succ, List.set_cons_zero, List.nil_append, List.cons_append]
      intro w5 hb5 _
      go_wp2_with (fail)
      go_ret
      exact ⟨rfl, xtrans hb3.out hb5⟩
    · obtain rfl : B = false := by rw [hB0]; simp; omega
      have hF := hF0
      clear hB0 hF0
      go_enter Tryz.func10, Tryz.ntmps10
      go_wp2_with (fail)
      refine' wp_region_growL 26 [fixd _, fixd _, fixd _, fixd _, fixd _, fixd _, fixd _, fixd _, fixd _, fixd _, fixd _, fixd _, fixd _, fixd _, fixd _, fixd _, fixd _, fixd _, fixd _, fixd _, fixd _, fixd _, fixd _, fixd _, fixd _, fixd _] (by kernel_rfl) (by kernel_rfl) ?_
      rotate_left 26
      simp only [List.take_succ_cons, List.take_zero, List.drop_succ_cons, List.drop_zero]
      try simp only [Act.put, List.setIfInBounds_toArray, List.set_cons_succ, List.set_cons_zero, List.nil_append, List.cons_append]
      refine' wpGrowV_load_blkG rfl 59 _ rfl (W.heap.size + 1 + 1) rfl 59 [.int .i64 0, .int .u64 0, .int .u64 0, .int .i64 l0, .int .i64 h0, .int .i64 0] _ hX3.out hrg (by kernel_rfl) rfl ?_
      try simp only [Act.put, List.setIfInBounds_toArray, List.set_cons_succ, List.set_cons_zero, List.nil_append, List.cons_append]
      refine' wpGrowV_fix _ rfl rfl (fun W hb _ => by go_simp; first | exact xrefl W | exact ⟨rfl, xrefl W⟩) ?_
      try simp only [Act.put, List.setIfInBounds_toArray, List.set_cons_succ, List.set_cons_zero, List.nil_append, List.cons_append]
      refine' wpGrowV_fix _ rfl rfl (fun W hb _ => by have c := cbel hb c1; go_simp; first | exact xrefl W | exact ⟨rfl, xrefl W⟩) ?_
      try simp only [Act.put, List.setIfInBounds_toArray, List.set_cons_succ, List.set_cons_zero, List.nil_append, List.cons_append]
      refine' wpGrowV_fix _ rfl rfl (fun W hb _ => by go_simp; first | exact xrefl W | exact ⟨rfl, xrefl W⟩) ?_
      try simp only [Act.put, List.setIfInBounds_toArray, List.set_cons_succ, List.set_cons_zero, List.nil_append, List.cons_append]
      refine' wpGrowV_fix _ rfl rfl (fun W hb _ => by have c := cbel hb c3; go_simp; first | exact xrefl W | exact ⟨rfl, xrefl W⟩) ?_
      try simp only [Act.put, List.setIfInBounds_toArray, List.set_cons_succ, List.set_cons_zero, List.nil_append, List.cons_append]
      refine' wpGrowV_fix _ rfl rfl (fun W hb hF => ?_) ?_
      · clear hF
        go_simp
        go_at_call 37
        refine (hF.out W).mono ?_
        rintro e w' ⟨rfl, hb'⟩
        refine ⟨?_, hb'⟩
        exact rfl
      try simp only [Act.put, List.setIfInBounds_toArray, List.set_cons_succ, List.set_cons_zero, List.nil_append, List.cons_append]
      refine' wpGrowV_fix _ rfl rfl (fun W hb _ => by go_simp; first | exact xrefl W | exact ⟨rfl, xrefl W⟩) ?_
      try simp only [Act.put, List.setIfInBounds_toArray, List.set_cons_succ, List.set_cons_zero, List.nil_append, List.cons_append]
      refine' wpGrowV_fix _ rfl rfl (fun W hb _ => by have c := cbel hb c1; go_simp; first | exact xrefl W | exact ⟨rfl, xrefl W⟩) ?_
      try simp only [Act.put, List.setIfInBounds_toArray, List.set_cons_succ, List.set_cons_zero, List.nil_append, List.cons_append]
      refine' wpGrowV_fix _ rfl rfl (fun W hb _ => by go_simp; first | exact xrefl W | exact ⟨rfl, xrefl W⟩) ?_
      try simp only [Act.put, List.setIfInBounds_toArray, List.set_cons_succ, List.set_cons_zero, List.nil_append, List.cons_append]
      refine' wpGrowV_fix _ rfl rfl (fun W hb _ => by have c := cbel hb d3; go_simp; first | exact xrefl W | exact ⟨rfl, xrefl W⟩) ?_
      try simp only [Act.put, List.setIfInBounds_toArray, List.set_cons_succ, List.set_cons_zero, List.nil_append, List.cons_append]
      refine' wpGrowV_fix _ rfl rfl (fun W hb _ => by go_simp; first | exact xrefl W | exact ⟨rfl, xrefl W⟩) ?_
      try simp only [Act.put, List.setIfInBounds_toArray, List.set_cons_succ, List.set_cons_zero, List.nil_append, List.cons_append]
      refine' wpGrowV_fix _ rfl rfl (fun W hb _ => by go_simp; first | exact xrefl W | exact ⟨rfl, xrefl W⟩) ?_
      try simp only [Act.put, List.setIfInBounds_toArray, List.set_cons_succ, List.set_cons_zero, List.nil_append, List.cons_append]
      refine' wpGrowV_fix _ rfl rfl (fun W hb _ => by go_simp; first | exact xrefl W | exact ⟨rfl, xrefl W⟩) ?_
      try simp only [Act.put, List.setIfInBounds_toArray, List.set_cons_succ, List.set_cons_zero, List.nil_append, List.cons_append]
      first
        | (refine wpGrowV_not rfl rfl ?_)
        | (refine' wpGrowV_fix _ rfl rfl (fun W hb _ => by go_simp; first | exact xrefl W | exact ⟨rfl, xrefl W⟩) ?_)
      try simp only [Act.put, List.setIfInBounds_toArray, List.set_cons_succ, List.set_cons_zero, List.nil_append, List.cons_append]
      first
        | (refine wpGrowV_not rfl rfl ?_)
        | (refine' wpGrowV_fix _ rfl rfl (fun W hb _ => by have c := cbel hb c1; go_simp; first | exact xrefl W | exact ⟨rfl, xrefl W⟩) ?_)
      try simp only [Act.put, List.setIfInBounds_toArray, List.set_cons_succ, List.set_cons_zero, List.nil_append, List.cons_append]
      first
        | (refine wpGrowV_not rfl rfl ?_)
        | (refine' wpGrowV_fix _ rfl rfl (fun W hb _ => by go_simp; first | exact xrefl W | exact ⟨rfl, xrefl W⟩) ?_)
      try simp only [Act.put, List.setIfInBounds_toArray, List.set_cons_succ, List.set_cons_zero, List.nil_append, List.cons_append]
      first
        | (refine wpGrowV_not rfl rfl ?_)
        | (refine' wpGrowV_fix _ rfl rfl (fun W hb _ => by have c := cbel hb d4; go_simp; first | exact xrefl W | exact ⟨rfl, xrefl W⟩) ?_)
      try simp only [Act.put, List.setIfInBounds_toArray, List.set_cons_succ, List.set_cons_zero, List.nil_append, List.cons_append]
      first
        | (refine wpGrowV_not rfl rfl ?_)
        | (refine' wpGrowV_fix _ rfl rfl (fun W hb _ => by go_simp; first | exact xrefl W | exact ⟨rfl, xrefl W⟩) ?_)
      try simp only [Act.put, List.setIfInBounds_toArray, List.set_cons_succ, List.set_cons_zero, List.nil_append, List.cons_append]
      first
        | (refine wpGrowV_not rfl rfl ?_)
        | (refine' wpGrowV_fix _ rfl rfl (fun W hb _ => by go_simp; first | exact xrefl W | exact ⟨rfl, xrefl W⟩) ?_)
      try simp only [Act.put, List.setIfInBounds_toArray, List.set_cons_succ, List.set_cons_zero, List.nil_append, List.cons_append]
      first
        | (refine wpGrowV_not rfl rfl ?_)
        | (refine' wpGrowV_fix _ rfl rfl (fun W hb _ => by have c := cbel hb c3; go_simp; first | exact xrefl W | exact ⟨rfl, xrefl W⟩) ?_)
      try simp only [Act.put, List.setIfInBounds_toArray, List.set_cons_succ, List.set_cons_zero, List.nil_append, List.cons_append]
      refine' wpGrowV_fix (.bool false) rfl rfl (fun W hb _ => by go_simp; first | exact xrefl W | exact ⟨rfl, xrefl W⟩ | (refine ⟨?_, xrefl W⟩; simp [g1, g2])) ?_
      try simp only [Act.put, List.setIfInBounds_toArray, List.set_cons_succ, List.set_cons_zero, List.nil_append, List.cons_append]
      refine' wpGrowV_fix _ rfl rfl (fun W hb _ => by go_simp; first | exact xrefl W | exact ⟨rfl, xrefl W⟩) ?_
      try simp only [Act.put, List.setIfInBounds_toArray, List.set_cons_succ, List.set_cons_zero, List.nil_append, List.cons_append]
      refine' wpGrowV_fix (.bool true) rfl rfl (fun W hb _ => by go_simp; first | exact xrefl W | exact ⟨rfl, xrefl W⟩ | (refine ⟨?_, xrefl W⟩; simp [g1, g2])) ?_
      try simp only [Act.put, List.setIfInBounds_toArray, List.set_cons_succ, List.set_cons_zero, List.nil_append, List.cons_append]
      refine' wpGrowV_fix _ rfl rfl (fun W hb _ => by go_simp; first | exact xrefl W | exact ⟨rfl, xrefl W⟩) ?_
      try simp only [Act.put, List.setIfInBounds_toArray, List.set_cons_succ, List.set_cons_zero, List.nil_append, List.cons_append]
      first
        | (refine wpGrowV_not rfl rfl ?_)
        | (refine' wpGrowV_fix _ rfl rfl (fun W hb hF => ?_) ?_
           · clear hF
             go_simp
             go_at_call 36
             refine (works13_any W).mono ?_
             rintro e w' ⟨rfl, hb'⟩
             refine ⟨?_, hb'⟩
             exact rfl)
      try simp only [Act.put, List.setIfInBounds_toArray, List.set_cons_succ, List.set_cons_zero, List.nil_append, List.cons_append]
      refine' wpGrowV_fix _ rfl rfl (fun W hb _ => by go_simp; first | exact xrefl W | exact ⟨rfl, xrefl W⟩) ?_
      try simp only [Act.put, List.setIfInBounds_toArray, List.set_cons_succ, List.set_cons_zero, List.nil_append, List.cons_append]
      intro w5 hb5 _
      go_wp2_with (fail)
      go_ret
      exact ⟨rfl, xtrans hb3.out hb5⟩
  · obtain rfl : B = false := by rw [hB0]; simp; omega
    have hF := hF0
    clear hB0 hF0
    go_enter Tryz.func10, Tryz.ntmps10
    go_wp2_with (fail)
    refine' wp_region_growL 26 [fixd _, fixd _, fixd _, fixd _, fixd _, fixd _, fixd _, fixd _, fixd _, fixd _, fixd _, fixd _, fixd _, fixd undef, fixd undef, fixd undef, fixd undef, fixd undef, fixd undef, fixd undef, fixd undef, fixd _, fixd _, fixd _, fixd _, fixd _] (by kernel_rfl) (by kernel_rfl) ?_
    rotate_left 18
    simp only [List.take_succ_cons, List.take_zero, List.drop_succ_cons, List.drop_zero]
    try simp only [Act.put, List.setIfInBounds_toArray, List.set_cons_succ, List.set_cons_zero, List.nil_append, List.cons_append]
    refine' wpGrowV_load_blkG rfl 59 _ rfl (W.heap.size + 1 + 1) rfl 59 [.int .i64 0, .int .u64 0, .int .u64 0, .int .i64 l0, .int .i64 h0, .int .i64 0] _ hX3.out hrg (by kernel_rfl) rfl ?_
    try simp only [Act.put, List.setIfInBounds_toArray, List.set_cons_succ, List.set_cons_zero, List.nil_append, List.cons_append]
    refine' wpGrowV_fix _ rfl rfl (fun W hb _ => by go_simp; first | exact xrefl W | exact ⟨rfl, xrefl W⟩) ?_
    try simp only [Act.put, List.setIfInBounds_toArray, List.set_cons_succ, List.set_cons_zero, List.nil_append, List.cons_append]
    refine' wpGrowV_fix _ rfl rfl (fun W hb _ => by have c := cbel hb c1; go_simp; first | exact xrefl W | exact ⟨rfl, xrefl W⟩) ?_
    try simp only [Act.put, List.setIfInBounds_toArray, List.set_cons_succ, List.set_cons_zero, List.nil_append, List.cons_append]
    refine' wpGrowV_fix _ rfl rfl (fun W hb _ => by go_simp; first | exact xrefl W | exact ⟨rfl, xrefl W⟩) ?_
    try simp only [Act.put, List.setIfInBounds_toArray, List.set_cons_succ, List.set_cons_zero, List.nil_append, List.cons_append]
    refine' wpGrowV_fix _ rfl rfl (fun W hb _ => by have c := cbel hb c3; go_simp; first | exact xrefl W | exact ⟨rfl, xrefl W⟩) ?_
    try simp only [Act.put, List.setIfInBounds_toArray, List.set_cons_succ, List.set_cons_zero, List.nil_append, List.cons_append]
    refine' wpGrowV_fix _ rfl rfl (fun W hb hF => ?_) ?_
    · clear hF
      go_simp
      go_at_call 37
      refine (hF.out W).mono ?_
      rintro e w' ⟨rfl, hb'⟩
      refine ⟨?_, hb'⟩
      exact rfl
    try simp only [Act.put, List.setIfInBounds_toArray, List.set_cons_succ, List.set_cons_zero, List.nil_append, List.cons_append]
    refine' wpGrowV_fix _ rfl rfl (fun W hb _ => by go_simp; first | exact xrefl W | exact ⟨rfl, xrefl W⟩) ?_
    try simp only [Act.put, List.setIfInBounds_toArray, List.set_cons_succ, List.set_cons_zero, List.nil_append, List.cons_append]
    refine' wpGrowV_fix _ rfl rfl (fun W hb _ => by have c := cbel hb c1; go_simp; first | exact xrefl W | exact ⟨rfl, xrefl W⟩) ?_
    try simp only [Act.put, List.setIfInBounds_toArray, List.set_cons_succ, List.set_cons_zero, List.nil_append, List.cons_append]
    refine' wpGrowV_fix _ rfl rfl (fun W hb _ => by go_simp; first | exact xrefl W | exact ⟨rfl, xrefl W⟩) ?_
    try simp only [Act.put, List.setIfInBounds_toArray, List.set_cons_succ, List.set_cons_zero, List.nil_append, List.cons_append]
    refine' wpGrowV_fix _ rfl rfl (fun W hb _ => by have c := cbel hb d3; go_simp; first | exact xrefl W | exact ⟨rfl, xrefl W⟩) ?_
    try simp only [Act.put, List.setIfInBounds_toArray, List.set_cons_succ, List.set_cons_zero, List.nil_append, List.cons_append]
    refine' wpGrowV_fix _ rfl rfl (fun W hb _ => by go_simp; first | exact xrefl W | exact ⟨rfl, xrefl W⟩) ?_
    try simp only [Act.put, List.setIfInBounds_toArray, List.set_cons_succ, List.set_cons_zero, List.nil_append, List.cons_append]
    refine' wpGrowV_fix (.bool false) rfl rfl (fun W hb _ => by go_simp; first | exact xrefl W | exact ⟨rfl, xrefl W⟩ | (refine ⟨?_, xrefl W⟩; simp; omega)) ?_
    try simp only [Act.put, List.setIfInBounds_toArray, List.set_cons_succ, List.set_cons_zero, List.nil_append, List.cons_append]
    refine' wpGrowV_fix _ rfl rfl (fun W hb _ => by go_simp; first | exact xrefl W | exact ⟨rfl, xrefl W⟩) ?_
    try simp only [Act.put, List.setIfInBounds_toArray, List.set_cons_succ, List.set_cons_zero, List.nil_append, List.cons_append]
    refine wpGrowV_not rfl rfl ?_
    try simp only [Act.put, List.setIfInBounds_toArray, List.set_cons_succ, List.set_cons_zero, List.nil_append, List.cons_append]
    refine wpGrowV_not rfl rfl ?_
    try simp only [Act.put, List.setIfInBounds_toArray, List.set_cons_succ, List.set_cons_zero, List.nil_append, List.cons_append]
    refine wpGrowV_not rfl rfl ?_
    try simp only [Act.put, List.setIfInBounds_toArray, List.set_cons_succ, List.set_cons_zero, List.nil_append, List.cons_append]
    refine wpGrowV_not rfl rfl ?_
    try simp only [Act.put, List.setIfInBounds_toArray, List.set_cons_succ, List.set_cons_zero, List.nil_append, List.cons_append]
    refine wpGrowV_not rfl rfl ?_
    try simp only [Act.put, List.setIfInBounds_toArray, List.set_cons_succ, List.set_cons_zero, List.nil_append, List.cons_append]
    refine wpGrowV_not rfl rfl ?_
    try simp only [Act.put, List.setIfInBounds_toArray, List.set_cons_succ, List.set_cons_zero, List.nil_append, List.cons_append]
    refine wpGrowV_not rfl rfl ?_
    try simp only [Act.put, List.setIfInBounds_toArray, List.set_cons_succ, List.set_cons_zero, List.nil_append, List.cons_append]
    refine wpGrowV_not rfl rfl ?_
    try simp only [Act.put, List.setIfInBounds_toArray, List.set_cons_succ, List.set_cons_zero, List.nil_append, List.cons_append]
    refine' wpGrowV_fix _ rfl rfl (fun W hb _ => by go_simp; first | exact xrefl W | exact ⟨rfl, xrefl W⟩) ?_
    try simp only [Act.put, List.setIfInBounds_toArray, List.set_cons_succ, List.set_cons_zero, List.nil_append, List.cons_append]
    refine' wpGrowV_fix (.bool true) rfl rfl (fun W hb _ => by go_simp; first | exact xrefl W | exact ⟨rfl, xrefl W⟩ | (refine ⟨?_, xrefl W⟩; simp [g1])) ?_
    try simp only [Act.put, List.setIfInBounds_toArray, List.set_cons_succ, List.set_cons_zero, List.nil_append, List.cons_append]
    refine' wpGrowV_fix _ rfl rfl (fun W hb _ => by go_simp; first | exact xrefl W | exact ⟨rfl, xrefl W⟩) ?_
    try simp only [Act.put, List.setIfInBounds_toArray, List.set_cons_succ, List.set_cons_zero, List.nil_append, List.cons_append]
    first
      | (refine wpGrowV_not rfl rfl ?_)
      | (refine' wpGrowV_fix _ rfl rfl (fun W hb hF => ?_) ?_
         · clear hF
           go_simp
           go_at_call 36
           refine (works13_any W).mono ?_
           rintro e w' ⟨rfl, hb'⟩
           refine ⟨?_, hb'⟩
           exact rfl)
    try simp only [Act.put, List.setIfInBounds_toArray, List.set_cons_succ, List.set_cons_zero, List.nil_append, List.cons_append]
    refine' wpGrowV_fix _ rfl rfl (fun W hb _ => by go_simp; first | exact xrefl W | exact ⟨rfl, xrefl W⟩) ?_
    try simp only [Act.put, List.setIfInBounds_toArray, List.set_cons_succ, List.set_cons_zero, List.nil_append, List.cons_append]
    intro w5 hb5 _
    go_wp2_with (fail)
    go_ret
    exact ⟨rfl, xtrans hb3.out hb5⟩
end
theorem regionFits_walk (z0 z1 : List Int) (W : World) (hl0 : z0.length = 2) (w0 : ∀ z ∈ z0, (Lit.int .i64 z).wf = true) (hl1 : z1.length = 2) (w1 : ∀ z ∈ z1, (Lit.int .i64 z).wf = true) (_ : TabF W) :
    Calls Tryz.prog 10 #[.agg (z0.map (Value.int .i64)).toArray, .agg (z1.map (Value.int .i64)).toArray] W fun e W' => e = .returned (.bool true) ∧ Below W.heap.size W W' := by
  match z0, hl0, z1, hl1 with
  | [l0, l1], _, [h0, h1], _ =>
    by_cases a1 : l0 < -2000
    · exact fitsOut_any l0 l1 h0 h1 W (.inl a1)
    by_cases a2 : l0 > 0
    · exact fitsOut_any l0 l1 h0 h1 W (.inr (.inl ⟨a1, a2⟩))
    by_cases a3 : h0 < 0
    · exact fitsOut_any l0 l1 h0 h1 W (.inr (.inr (.inl ⟨a1, a2, a3⟩)))
    by_cases a4 : h0 > 2000
    · exact fitsOut_any l0 l1 h0 h1 W (.inr (.inr (.inr (.inl ⟨a1, a2, a3, a4⟩))))
    by_cases a5 : l1 < 0
    · exact fitsOut_any l0 l1 h0 h1 W (.inr (.inr (.inr (.inr (.inl ⟨a1, a2, a3, a4, a5⟩)))))
    by_cases a6 : l1 > 3000
    · exact fitsOut_any l0 l1 h0 h1 W (.inr (.inr (.inr (.inr (.inr (.inl ⟨a1, a2, a3, a4, a5, a6⟩))))))
    by_cases a7 : h1 < 0
    · exact fitsOut_any l0 l1 h0 h1 W (.inr (.inr (.inr (.inr (.inr (.inr (.inl ⟨a1, a2, a3, a4, a5, a6, a7⟩)))))))
    by_cases a8 : h1 > 3000
    · exact fitsOut_any l0 l1 h0 h1 W (.inr (.inr (.inr (.inr (.inr (.inr (.inr ⟨a1, a2, a3, a4, a5, a6, a7, a8⟩)))))))
    exact fitsIn_any l0 l1 h0 h1 W a1 a2 a3 a4 a5 a6 a7 a8
end Go.Proofs.YtijkdabmegbcjaaGreatDoor
