/- The chapter's rows ('works'), and the walks of the laws. -/
import Derived.Test.YtioihjgobmbanaaShareG
import Derived.Test.YtioihjgobmbanaaOpen
namespace Go.Proofs.Ytioihjgobmbanaa
open Go.RowKit

theorem rowNew (w : World) (b : Nat) (q : IntKind) (zs : List Int) (e : TypeId) (h : b = w.heap.size) : RowAt q (w.alloc (.cells (zs.map (Value.int q)).toArray e)) (some ⟨b, 0, none⟩) zs := fun i hi => by
  subst h
  exact ⟨_, 0, rfl, by rw [World.cell?_alloc_new]; simp [hi]⟩

set_option maxHeartbeats 2000000 in
theorem works_any (w : World) :
    Calls Try.prog 13 #[] w fun e w' => e = .returned (.bool true) ∧ Below w.heap.size w w' := by
  have v1 : callCost 1 true true true = 36600 := by rfl
  have v2 : callCost 4 true false false = 100 := by rfl
  have v3 : makeCost 2 33 = 16 := by rfl
  have v4 : keepCost [1, 2, 3] = 600 := by rfl
  have v5 : keepOK [1, 2, 3] = true := by rfl
  have v6 : keepOK [239] = false := by rfl
  have v7 : beginCost [0, 1] true = 53022 := by rfl
  have v8 : endCost true true true = 27600 := by rfl
  have v9 : hasVal 2 true = true := by rfl
  go_enter Try.func13, Try.ntmps13
  go_wp2_with fail
  refine (call_ok 1 true true true _ rfl).mono ?_; rintro e w1 ⟨rfl, b1⟩
  go_wp2_with fail
  refine (call_ok 4 true false false _ rfl).mono ?_; rintro e w2 ⟨rfl, b2⟩
  go_wp2_with fail
  refine (make_ok2 33 _ (by decide)).mono ?_; rintro e w3 ⟨rfl, b3⟩
  go_wp2_with fail
  refine (make_long1 49153 _ (by decide)).mono ?_; rintro e w4 ⟨rfl, b4⟩
  go_wp2_with fail
  refine (keep_any _ 3 [1, 2, 3] _ (by decide) (rowNew _ _ .u8 _ 5 (by simp))).mono ?_; rintro e w5 ⟨rfl, rfl⟩
  go_wp2_with fail
  refine (keep_any _ 1 [239] _ (by decide) (rowNew _ _ .u8 _ 5 (by simp))).mono ?_; rintro e w5 ⟨rfl, rfl⟩
  go_wp2_with fail
  refine (begin_1 _ 2 [0, 1] _ (by decide) (rowNew _ _ .u8 _ 5 (by simp)) (by simp)).mono ?_; rintro e w5 ⟨rfl, b5⟩
  go_wp2_with (first
    | (go_at_call 10; refine (num_any _ _ (by decide)).mono ?_; rintro e w' ⟨rfl, rfl⟩)
    | (go_at_call 11; refine (stipend_any 2 true _).mono ?_; rintro e w6 ⟨rfl, b6⟩)
    | (go_at_call 20; refine (end_any true true true _).mono ?_; rintro e w7 ⟨rfl, b7⟩))
  go_ret
  exact ⟨rfl, xtrans (xtrans (xtrans (xalloc (xalloc (xalloc (xtrans b1 (xtrans b2 (xtrans b3 b4))) _) _) _) b5) b6) b7⟩

theorem bsum1 (x y : Int) : (x == y) = true ↔ x = y := by simp

theorem callCost_eq (k : Int) (v d far : Bool) (hk : kindOK k = true) : callCost k v d far = refCallCost k v d far := by
  have hcases : k = 1 ∨ k = 2 ∨ k = 3 ∨ k = 4 := by simpa [kindOK, or_assoc] using hk
  clear hk
  rcases hcases with rfl | rfl | rfl | rfl <;> cases v <;> cases d <;> cases far <;> rfl

theorem shareCalls_walk (k : Int) (l0 l1 l2 : Bool) (w : World) (hk : -9223372036854775808 ≤ k ∧ k ≤ 9223372036854775807) :
    Calls Try.prog 3 #[.int .i64 k, .agg #[.bool l0, .bool l1, .bool l2]] w (Yes w) := by
  obtain ⟨k1, k2⟩ := hk
  cases hko : kindOK k
  all_goals
    have Hk := Lib.hid hko
    clear hko
    go_enter Try.func3, Try.ntmps3
    go_wp2_with (first
      | (go_at_call 8; refine (call_no k _ _ _ _ Hk.out).mono ?_; rintro e w1 ⟨rfl, b1⟩; obtain ⟨hc1, -⟩ := bcell b1)
      | (go_at_call 8; refine (call_ok k _ _ _ _ Hk.out).mono ?_; rintro e w1 ⟨rfl, b1⟩; rw [callCost_eq k _ _ _ Hk.out]; obtain ⟨hc1, -⟩ := bcell b1)
      | (go_at_call 9; refine (refCall_no k _ _ _ _ Hk.out).mono ?_; rintro e w' ⟨rfl, rfl⟩)
      | (go_at_call 9; refine (refCall_ok k _ _ _ _ Hk.out).mono ?_; rintro e w' ⟨rfl, rfl⟩))
    have hc0 : w1.cell? ⟨w.heap.size, 0, none⟩ = some (.bool l0) := cbel b1 (by simp [go_sem])
    have b0 : Below w.heap.size w w1 := xtrans (xalloc (xrefl _) _) b1
    clear hc1 b1
    go_region_held3 (fun w' => w'.cell? ⟨w.heap.size, 0, none⟩ = some (.bool l0)) (first | assumption | exact cbel b2 hc0 | exact cbel b3 (cbel b2 hc0)) (first
      | (go_at_call 10; refine (num_any _ _ (by decide)).mono ?_; rintro e w' ⟨rfl, rfl⟩)
      | (go_at_call 11; refine (stipend_any _ _ _).mono ?_; rintro e w2 ⟨rfl, b2⟩)
      | (go_at_call 12; refine (refStipend_any _ _ _).mono ?_; rintro e w' ⟨rfl, rfl⟩)
      | (go_at_call 13; refine (works_any _).mono ?_; rintro e w3 ⟨rfl, b3⟩))
    go_wp2
    go_ret
    exact ⟨rfl, xtrans (xtrans (xdrew b0) b2) b3⟩

end Go.Proofs.Ytioihjgobmbanaa
