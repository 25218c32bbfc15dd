/- The walk of ShareHolds. -/
import Derived.Test.YtioihjgobmbanaaShareN
namespace Go.Proofs.Ytioihjgobmbanaa
open Go.RowKit

/-- What bytes cost, without wrap-round. -/
def pc : List Int → Int
  | [] => 0
  | z :: l => byteCost z + pc l
theorem pc_bd : ∀ l : List Int, 0 ≤ pc l ∧ pc l ≤ 16 * l.length
  | [] => by simp [pc]
  | z :: l => by
    have h := pc_bd l
    have hb : 4 ≤ byteCost z ∧ byteCost z ≤ 16 := by unfold byteCost; split <;> omega
    simp only [pc, List.length_cons]; omega
theorem pc_append : ∀ l m : List Int, pc (l ++ m) = pc l + pc m
  | [], m => by simp [pc]
  | z :: l, m => by simp only [List.cons_append, pc, pc_append l m]; omega
theorem foldCost : ∀ (l : List Int) (s : Int), 0 ≤ s → s + pc l < 18446744073709551616 → l.foldl (fun s c => u64sum s (byteCost c)) s = s + pc l
  | [], s, _, _ => by simp [pc]
  | z :: l, s, h0, h => by
    have hb : 4 ≤ byteCost z ∧ byteCost z ≤ 16 := by unfold byteCost; split <;> omega
    have hp := pc_bd l
    simp only [pc] at h ⊢
    have e : u64sum s (byteCost z) = s + byteCost z := by unfold u64sum; exact u64_id _ (by omega)
    rw [List.foldl_cons, e, foldCost l _ (by omega) (by omega)]; omega
theorem begin_pc (l : List Int) (h : l.length ≤ 1000000) : beginCost l false = 21000 + pc l := by
  have hp := pc_bd l
  have e : dataCost l = pc l := by unfold dataCost; rw [foldCost l 0 (by omega) (by omega)]; omega
  simp only [beginCost, e, Bool.false_eq_true, if_false]
  exact u64_id _ (by omega)

theorem holds_core (k : Int) (dead : Bool) (hk : kindOK k = true) : ∃ a b d s : Int, callCost k true dead false = a ∧ callCost k false dead false = b ∧ callCost k true dead true = d ∧ stipVal k true = s ∧
    ((s = 0 ∧ a = b ∧ 0 ≤ a ∧ a ≤ 40000) ∨ (s = 2300 ∧ a ≥ b + 9000 ∧ 0 ≤ b ∧ a ≤ 40000)) ∧ d ≥ a ∧ d ≤ 40000 := by
  have hcases : k = 1 ∨ k = 2 ∨ k = 3 ∨ k = 4 := by simpa [kindOK, or_assoc] using hk
  clear hk
  refine ⟨_, _, _, _, rfl, rfl, rfl, rfl, ?_⟩
  rcases hcases with rfl | rfl | rfl | rfl <;> cases dead <;> decide

set_option maxRecDepth 100000 in
set_option maxHeartbeats 1000000 in
theorem shareHolds_walk (k : Int) (dead : Bool) (a0 : Option Addr) (c0 : Nat) (z0 : List Int) (a1 : Option Addr) (c1 : Nat) (z1 : List Int) (w : World) (hk : -9223372036854775808 ≤ k ∧ k ≤ 9223372036854775807)
    (l0 : z0.length ≤ 9223372036854775807) (r0 : RowAt .u8 w a0 z0) (n0 : a0 = none → c0 = 0) (w0 : ∀ z ∈ z0, (Lit.int .u8 z).wf = true)
    (l1 : z1.length ≤ 9223372036854775807) (r1 : RowAt .u8 w a1 z1) (n1 : a1 = none → c1 = 0) (w1 : ∀ z ∈ z1, (Lit.int .u8 z).wf = true) :
    Calls Try.prog 6 #[.int .i64 k, .bool dead, .agg #[.slice a0 z0.length c0, .slice a1 z1.length c1]] w (Yes w) := by
  have R0 := Lib.hid r0
  have R1 := Lib.hid r1
  have N0 := Lib.hid n0
  have N1 := Lib.hid n1
  clear r0 r1 n0 n1 w0 w1 hk
  by_cases h1 : k < 1
  · go_enter Try.func6, Try.ntmps6
    go_wp2_with (go_at_call 13; refine (works_any _).mono ?_; rintro e w3 ⟨rfl, b3⟩)
    go_ret
    exact ⟨rfl, xtrans (xalloc (xrefl _) _) b3⟩
  by_cases h2 : k > 4
  · go_enter Try.func6, Try.ntmps6
    go_wp2_with (go_at_call 13; refine (works_any _).mono ?_; rintro e w3 ⟨rfl, b3⟩)
    go_ret
    exact ⟨rfl, xtrans (xalloc (xrefl _) _) b3⟩
  by_cases h3 : (z0.length : Int) > 200
  · go_enter Try.func6, Try.ntmps6
    go_wp2_with (go_at_call 13; refine (works_any _).mono ?_; rintro e w3 ⟨rfl, b3⟩)
    go_ret
    exact ⟨rfl, xtrans (xalloc (xrefl _) _) b3⟩
  by_cases h4 : (z1.length : Int) > 200
  · go_enter Try.func6, Try.ntmps6
    go_wp2_with (go_at_call 13; refine (works_any _).mono ?_; rintro e w3 ⟨rfl, b3⟩)
    go_ret
    exact ⟨rfl, xtrans (xalloc (xrefl _) _) b3⟩
  have hko : kindOK k = true := by simp [kindOK]; omega
  obtain ⟨va, vb, vd, vs, e1, e2, e3, e4, hv, hd1, hd2⟩ := holds_core k dead hko
  have b0' := begin_pc z0 (by omega)
  have b1' := begin_pc z1 (by omega)
  have b2' := begin_pc (z0 ++ z1) (by rw [List.length_append]; omega)
  rw [pc_append] at b2'
  have p0 := pc_bd z0
  have p1 := pc_bd z1
  obtain ⟨q0, hq0⟩ : ∃ q, q = pc z0 := ⟨_, rfl⟩
  obtain ⟨q1, hq1⟩ : ∃ q, q = pc z1 := ⟨_, rfl⟩
  rw [← hq0] at b0' b2' p0
  rw [← hq1] at b1' b2' p1
  clear hq0 hq1
  have Hko := Lib.hid hko
  have E1 := Lib.hid e1
  have E2 := Lib.hid e2
  have E3 := Lib.hid e3
  have E4 := Lib.hid e4
  have B0 := Lib.hid b0'
  have B1 := Lib.hid b1'
  have B2 := Lib.hid b2'
  have Hv := Lib.hid hv
  clear hko e1 e2 e3 e4 b0' b1' b2' hv
  go_enter Try.func6, Try.ntmps6
  go_wp2_with fail
  refine (call_ok k true dead false _ Hko.out).mono ?_; rintro e w1 ⟨rfl, b1⟩; rw [E1.out]
  go_wp2_with fail
  refine (call_ok k false dead false _ Hko.out).mono ?_; rintro e w2 ⟨rfl, b2⟩; rw [E2.out]
  go_wp2_with fail
  refine (call_ok k true dead true _ Hko.out).mono ?_; rintro e w3 ⟨rfl, b3⟩; rw [E3.out]
  go_wp2_with fail
  refine (stipend_any k true _).mono ?_; rintro e w4 ⟨rfl, b4⟩; rw [E4.out]
  have bb := xtrans b1 (xtrans b2 (xtrans b3 b4))
  clear b1 b2 b3 b4
  have d0 : w4.cell? ⟨w.heap.size, 0, none⟩ = some (.slice a0 z0.length c0) := cbel bb (by simp)
  have d1 : w4.cell? ⟨w.heap.size, 1, none⟩ = some (.slice a1 z1.length c1) := cbel bb (by simp)
  have b4 : Below w.heap.size w w4 := xtrans (xalloc (xrefl _) _) bb
  clear bb
  go_wp2_with fail
  refine (begin_0 a0 c0 z0 _ (by omega) (R0.out.below b4) N0.out).mono ?_; rintro e w5 ⟨rfl, b5⟩; rw [B0.out]
  have d1' := cbel b5 d1
  go_wp2_with fail
  refine (begin_0 a1 c1 z1 _ (by omega) (R1.out.below (xtrans b4 b5)) N1.out).mono ?_; rintro e w6 ⟨rfl, b6⟩; rw [B1.out]
  have g0 := cbel b6 (cbel b5 d0)
  have g1 := cbel b6 d1'
  have b7 : Below w.heap.size w w6 := xtrans (xtrans b4 b5) b6
  clear d0 d1 d1' b4 b5 b6
  go_wp2_with fail
  obtain ⟨i0, hi, hz0, hz1, hz2⟩ := info_parts Try.infoU8
  have h63a : 0 + z0.length ≤ maxLen := by unfold maxLen; omega
  have h63b : 0 + z0.length + z1.length ≤ maxLen := by unfold maxLen; omega
  have hj : (z0 ++ z1).length ≤ 140737488355328 := by rw [List.length_append]; omega
  obtain ⟨L, hLd⟩ : ∃ L, L = z0 ++ z1 := ⟨_, rfl⟩
  have HLd := Lib.hid hLd
  rw [← hLd] at hj
  clear hLd
  go_region_held3 (fun w' => w'.cell? ⟨w.heap.size, 0, none⟩ = some (.slice a0 z0.length c0) ∧ w'.cell? ⟨w.heap.size, 1, none⟩ = some (.slice a1 z1.length c1)) (first | exact ⟨g0, g1⟩ | exact ⟨ca _ g0, ca _ g1⟩ | exact ⟨cbel x1b g0, cbel x1b g1⟩ | exact ⟨cbel x2b g0, cbel x2b g1⟩ | exact ⟨cbel x3b (cbel x2b g0), cbel x3b (cbel x2b g1)⟩) (first
    | (refine wp_append_row _ _ _ 35 rfl w6.heap.size 5 i0 (.int .u8 0) 1 Try.underlying35 hi hz0 hz1 hz2 rfl _ _ _ rfl (by first | exact own_empty w6 _ | exact (own_empty w6 _).drew) a0 c0 .u8 z0 rfl N0.out (R0.out.below (xalloc (xdrew b7) _)) h63a (by omega) (by simp) ?_; intro v1 x1 ho1 hg1; have x1b : Below w6.heap.size w6 x1 := (xalloc (xdrew (xrefl w6)) (.cells #[] 5)).grown hg1 (by simp) (fun k hk => ((own_empty w6 5).lt k hk).1); have x1s := x1b.size; clear hg1)
    | (refine wp_append_row _ _ _ 35 rfl w6.heap.size 5 i0 (.int .u8 0) 1 Try.underlying35 hi hz0 hz1 hz2 rfl _ _ _ rfl ho1 a1 c1 .u8 z1 rfl N1.out (R1.out.below (xtrans b7 x1b)) h63b (by omega) x1s ?_; intro v2 x2 ho2 hg2; have x2b : Below w6.heap.size w6 x2 := x1b.grown hg2 x1s (fun k hk => (ho1.lt k hk).1); clear hg2; rw [List.nil_append, ← List.map_append, ← HLd.out] at ho2; obtain ⟨a2, c2, rfl, hr2, hn2, _, _⟩ := rowAt_own ho2)
    | (go_at_call 18; refine (begin_0 a2 c2 L _ hj hr2 hn2).mono ?_; rintro e x3 ⟨rfl, x3b⟩))
  rw [show beginCost L false = 21000 + (q0 + q1) by rw [HLd.out]; exact B2.out]
  clear g0 g1 ho1 ho2 hr2 hn2 x1b x1s
  obtain ⟨p0a, p0b⟩ := p0
  obtain ⟨p1a, p1b⟩ := p1
  rcases Hv.out with ⟨rfl, rfl, v1, v2⟩ | ⟨rfl, v1, v2, v3⟩
  · go_wp2_with (first
      | (go_at_call 10; refine (num3 _ _ (by simp)).mono ?_; rintro e w' ⟨rfl, rfl⟩)
      | (go_at_call 13; refine (works_any _).mono ?_; rintro e w5 ⟨rfl, b5⟩))
    go_ret
    exact ⟨rfl, xtrans (xtrans b7 (xtrans x2b x3b)) b5⟩
  · go_wp2_with (first
      | (go_at_call 10; refine (num3 _ _ (by simp)).mono ?_; rintro e w' ⟨rfl, rfl⟩)
      | (go_at_call 13; refine (works_any _).mono ?_; rintro e w5 ⟨rfl, b5⟩))
    go_ret
    exact ⟨rfl, xtrans (xtrans b7 (xtrans x2b x3b)) b5⟩

end Go.Proofs.Ytioihjgobmbanaa
