/- Layer 22: share.Call at no kind, Stipend, and the document answers for both. -/
import Derived.Test.YtioihjgobmbanaaShareD
namespace Go.Proofs.Ytioihjgobmbanaa
open Go.RowKit

def stipVal (k : Int) (v : Bool) : Int := if hasVal k v then 2300 else 0

set_option maxRecDepth 100000 in
theorem call_no (k : Int) (v d far : Bool) (w : World) (hk : kindOK k = false) :
    Calls Try.prog 8 #[.int .i64 k, .bool v, .bool d, .bool far] w fun e w' => e = .returned (.tuple #[.int .u64 0, .int .i64 2]) ∧ Below w.heap.size w w' := by
  have hlk := @run_lookI_new Try.prog 55 _ _ _ Try.underlying55 Try.underlying27 (.agg #[.string ⟨#[]⟩, .bool false]) (fun w => by kernel_rfl)
  have hno := kindsL_no hk
  clear hk
  cases v
  all_goals
    go_enter Try.func8, Try.ntmps8
    go_wp2_with fail
    refine wp_scope_fwd 0 rfl ?_
    go_wp2_with (first
      | (go_at_call 23; refine (kinds_any _).mono ?_; rintro e w' ⟨rfl, rfl⟩))
    go_step3
    simp only [Exit.then, Exit.inBlock, fwd_goto]
    refine ⟨trivial, ?_⟩
    go_wp2
    rw [Exit.noGoto_ret]; go_ret2
    exact ⟨rfl, by repeat (first | exact xrefl _ | refine xalloc ?_ _ | refine xdrew ?_)⟩

set_option maxRecDepth 100000 in
theorem stipend_any (k : Int) (v : Bool) (w : World) :
    Calls Try.prog 11 #[.int .i64 k, .bool v] w fun e w' => e = .returned (.int .u64 (stipVal k v)) ∧ Below w.heap.size w w' := by
  have hfd : ∀ (s : ByteArray) (b : Bool) (w : World), (Instr.field 53 (.agg #[.string s, .bool b]) 1).run Try.prog w = .ok (.bool b) w := fun _ _ _ => by kernel_rfl
  have hlk := @run_lookI_new Try.prog 55 _ _ _ Try.underlying55 Try.underlying27 (.agg #[.string ⟨#[]⟩, .bool false]) (fun w => by kernel_rfl)
  cases v
  · rw [show stipVal k false = 0 by simp [stipVal, hasVal]]
    go_enter Try.func11, Try.ntmps11
    go_wp2_with (first
      | (go_at_call 24; with_reducible refine (paid1 _ (2300, false) _ ?_).mono ?_; rotate_left 1; rintro e w' ⟨rfl, hb⟩)
      | (go_at_call 23; refine (kinds_any _).mono ?_; rintro e w' ⟨rfl, rfl⟩)
      | (go_at_call 25; refine (when_any _ _ _).mono ?_; rintro e w' ⟨rfl, rfl⟩))
    · go_ret
      exact ⟨rfl, xtrans (by repeat (first | exact xrefl _ | refine xalloc ?_ _ | refine xdrew ?_)) hb⟩
    all_goals exact ⟨_, _, by simp [go_sem]; exact ⟨rfl, rfl⟩, by simp [go_sem], by simp [go_sem]⟩
  · cases hk : kindOK k
    · rw [show stipVal k true = 0 by simp [kindOK] at hk; simp [stipVal, hasVal, hk]]
      have hno := kindsL_no hk
      clear hk
      go_enter Try.func11, Try.ntmps11
      go_wp2_with (first
        | (go_at_call 24; with_reducible refine (paid1 _ (2300, false) _ ?_).mono ?_; rotate_left 1; rintro e w' ⟨rfl, hb⟩)
        | (go_at_call 23; refine (kinds_any _).mono ?_; rintro e w' ⟨rfl, rfl⟩)
        | (go_at_call 25; refine (when_any _ _ _).mono ?_; rintro e w' ⟨rfl, rfl⟩))
      · go_ret
        exact ⟨rfl, xtrans (by repeat (first | exact xrefl _ | refine xalloc ?_ _ | refine xdrew ?_)) hb⟩
      all_goals exact ⟨_, _, by simp [go_sem]; exact ⟨rfl, rfl⟩, by simp [go_sem], by simp [go_sem]⟩
    · have hcases : k = 1 ∨ k = 2 ∨ k = 3 ∨ k = 4 := by simpa [kindOK, or_assoc] using hk
      clear hk
      rcases hcases with rfl | rfl | rfl | rfl
      · rw [show stipVal 1 true = 2300 by rfl]
        go_enter Try.func11, Try.ntmps11
        go_wp2_with (first
          | (go_at_call 24; with_reducible refine (paid1 _ (2300, true) _ ?_).mono ?_; rotate_left 1; rintro e w' ⟨rfl, hb⟩)
          | (go_at_call 23; refine (kinds_any _).mono ?_; rintro e w' ⟨rfl, rfl⟩)
          | (go_at_call 25; refine (when_any _ _ _).mono ?_; rintro e w' ⟨rfl, rfl⟩))
        · go_ret
          exact ⟨rfl, xtrans (by repeat (first | exact xrefl _ | refine xalloc ?_ _ | refine xdrew ?_)) hb⟩
        all_goals exact ⟨_, _, by simp [go_sem]; exact ⟨rfl, rfl⟩, by simp [go_sem], by simp [go_sem]⟩
      · rw [show stipVal 2 true = 2300 by rfl]
        go_enter Try.func11, Try.ntmps11
        go_wp2_with (first
          | (go_at_call 24; with_reducible refine (paid1 _ (2300, true) _ ?_).mono ?_; rotate_left 1; rintro e w' ⟨rfl, hb⟩)
          | (go_at_call 23; refine (kinds_any _).mono ?_; rintro e w' ⟨rfl, rfl⟩)
          | (go_at_call 25; refine (when_any _ _ _).mono ?_; rintro e w' ⟨rfl, rfl⟩))
        · go_ret
          exact ⟨rfl, xtrans (by repeat (first | exact xrefl _ | refine xalloc ?_ _ | refine xdrew ?_)) hb⟩
        all_goals exact ⟨_, _, by simp [go_sem]; exact ⟨rfl, rfl⟩, by simp [go_sem], by simp [go_sem]⟩
      · rw [show stipVal 3 true = 0 by rfl]
        go_enter Try.func11, Try.ntmps11
        go_wp2_with (first
          | (go_at_call 24; with_reducible refine (paid1 _ (2300, false) _ ?_).mono ?_; rotate_left 1; rintro e w' ⟨rfl, hb⟩)
          | (go_at_call 23; refine (kinds_any _).mono ?_; rintro e w' ⟨rfl, rfl⟩)
          | (go_at_call 25; refine (when_any _ _ _).mono ?_; rintro e w' ⟨rfl, rfl⟩))
        · go_ret
          exact ⟨rfl, xtrans (by repeat (first | exact xrefl _ | refine xalloc ?_ _ | refine xdrew ?_)) hb⟩
        all_goals exact ⟨_, _, by simp [go_sem]; exact ⟨rfl, rfl⟩, by simp [go_sem], by simp [go_sem]⟩
      · rw [show stipVal 4 true = 0 by rfl]
        go_enter Try.func11, Try.ntmps11
        go_wp2_with (first
          | (go_at_call 24; with_reducible refine (paid1 _ (2300, false) _ ?_).mono ?_; rotate_left 1; rintro e w' ⟨rfl, hb⟩)
          | (go_at_call 23; refine (kinds_any _).mono ?_; rintro e w' ⟨rfl, rfl⟩)
          | (go_at_call 25; refine (when_any _ _ _).mono ?_; rintro e w' ⟨rfl, rfl⟩))
        · go_ret
          exact ⟨rfl, xtrans (by repeat (first | exact xrefl _ | refine xalloc ?_ _ | refine xdrew ?_)) hb⟩
        all_goals exact ⟨_, _, by simp [go_sem]; exact ⟨rfl, rfl⟩, by simp [go_sem], by simp [go_sem]⟩

theorem num_any (k : Int) (w : World) (h : -9223372036854775808 ≤ k ∧ k ≤ 9223372036854775807) :
    Calls Try.prog 10 #[.int .i64 k] w fun e w' => e = .returned (.int .i64 k) ∧ w = w' := by
  obtain ⟨h1, h2⟩ := h
  go_enter Try.func10, Try.ntmps10
  go_wp2
  go_ret
  exact ⟨rfl, rfl⟩

theorem refStipend_any (k : Int) (v : Bool) (w : World) :
    Calls Try.prog 12 #[.int .i64 k, .bool v] w fun e w' => e = .returned (.int .u64 (stipVal k v)) ∧ w = w' := by
  cases v
  · go_enter Try.func12, Try.ntmps12
    go_wp2
    go_ret
    exact ⟨rfl, rfl⟩
  · cases h : (k == 1 || k == 2)
    · rw [show stipVal k true = 0 by simp [stipVal, hasVal] at *; simp [h]]
      go_enter Try.func12, Try.ntmps12
      go_wp2_with (go_at_call 28; refine (refValues_any _ _).mono ?_; rintro e w' ⟨rfl, rfl⟩)
      go_ret
      exact ⟨rfl, rfl⟩
    · rw [show stipVal k true = 2300 by rw [stipVal, show hasVal k true = true by simpa [hasVal] using h]; rfl]
      go_enter Try.func12, Try.ntmps12
      go_wp2_with (go_at_call 28; refine (refValues_any _ _).mono ?_; rintro e w' ⟨rfl, rfl⟩)
      go_ret
      exact ⟨rfl, rfl⟩

theorem refCall_no (k : Int) (v d far : Bool) (w : World) (hk : kindOK k = false) :
    Calls Try.prog 9 #[.int .i64 k, .bool v, .bool d, .bool far] w fun e w' => e = .returned (.tuple #[.int .u64 0, .int .i64 2]) ∧ w = w' := by
  simp [kindOK] at hk
  by_cases h : k < 1
  all_goals
    have h4 : k < 1 ∨ 4 < k := by omega
    clear hk
    go_enter Try.func9, Try.ntmps9
    go_wp2
    go_ret2
    exact ⟨rfl, rfl⟩

theorem refCall_ok (k : Int) (v d far : Bool) (w : World) (hk : kindOK k = true) :
    Calls Try.prog 9 #[.int .i64 k, .bool v, .bool d, .bool far] w fun e w' => e = .returned (.tuple #[.int .u64 (refCallCost k v d far), .int .i64 0]) ∧ w = w' := by
  have hcases : k = 1 ∨ k = 2 ∨ k = 3 ∨ k = 4 := by simpa [kindOK, or_assoc] using hk
  clear hk
  rcases hcases with rfl | rfl | rfl | rfl
  all_goals
    cases v <;> cases d
    all_goals
      go_enter Try.func9, Try.ntmps9
      go_wp2_with (first | (go_at_call 27; refine (refAddress_any _ _).mono ?_; rintro e w' ⟨rfl, rfl⟩) | (go_at_call 28; refine (refValues_any _ _).mono ?_; rintro e w' ⟨rfl, rfl⟩))
      go_ret2
      exact ⟨rfl, rfl⟩

end Go.Proofs.Ytioihjgobmbanaa
