/- Layer 22: share.Call at the four kinds. -/
import Derived.Test.YtioihjgobmbanaaShareC
namespace Go.Proofs.Ytioihjgobmbanaa
open Go.RowKit

def kindOK (k : Int) : Bool := k == 1 || k == 2 || k == 3 || k == 4
def hasVal (k : Int) (v : Bool) : Bool := v && (k == 1 || k == 2)
def refCallCost (k : Int) (v d far : Bool) : Int := let n := addrCost far; if hasVal k v then (if d && k == 1 then u64add (u64add n 9000) 25000 else u64add n 9000) else n
def callCost (k : Int) (v d far : Bool) : Int := sumPaid [(addrCost far, true), (9000, hasVal k v), (25000, hasVal k v && d && k == 1)]

set_option maxRecDepth 100000 in
set_option maxHeartbeats 4000000 in
theorem call_ok (k : Int) (v d far : Bool) (w : World) (hk : kindOK k = true) :
    Calls Try.prog 8 #[.int .i64 k, .bool v, .bool d, .bool far] w fun e w' => e = .returned (.tuple #[.int .u64 (callCost k v d far), .int .i64 0]) ∧ Below w.heap.size w w' := by
  have hlk := @run_lookI_new Try.prog 55 _ _ _ Try.underlying55 Try.underlying27 (.agg #[.string ⟨#[]⟩, .bool false]) (fun w => by kernel_rfl)
  have hcases : k = 1 ∨ k = 2 ∨ k = 3 ∨ k = 4 := by simpa [kindOK, or_assoc] using hk
  clear hk
  rcases hcases with rfl | rfl | rfl | rfl
  · cases v <;> cases d
    · go_enter Try.func8, Try.ntmps8
      go_wp2_with fail
      go_step3
      go_wp2_with (first
        | (go_at_call 24; with_reducible refine (paid3 _ (addrCost far, true) (9000, false) (25000, false) _ ?_ ?_ ?_).mono ?_; rotate_left 3; rintro e w' ⟨rfl, hb⟩)
        | (go_at_call 23; refine (kinds_any _).mono ?_; rintro e w' ⟨rfl, rfl⟩)
        | (go_at_call 26; refine (address_any _ _).mono ?_; rintro e w' ⟨rfl, rfl⟩)
        | (go_at_call 25; refine (when_any _ _ _).mono ?_; rintro e w' ⟨rfl, rfl⟩))
      · rw [Exit.noGoto_ret]; go_ret2
        exact ⟨rfl, xtrans (by repeat (first | exact xrefl _ | refine xalloc ?_ _ | refine xdrew ?_)) hb⟩
      all_goals exact ⟨_, _, by simp [go_sem]; exact ⟨rfl, rfl⟩, by simp [go_sem], by simp [go_sem]⟩
    · go_enter Try.func8, Try.ntmps8
      go_wp2_with fail
      go_step3
      go_wp2_with (first
        | (go_at_call 24; with_reducible refine (paid3 _ (addrCost far, true) (9000, false) (25000, false) _ ?_ ?_ ?_).mono ?_; rotate_left 3; rintro e w' ⟨rfl, hb⟩)
        | (go_at_call 23; refine (kinds_any _).mono ?_; rintro e w' ⟨rfl, rfl⟩)
        | (go_at_call 26; refine (address_any _ _).mono ?_; rintro e w' ⟨rfl, rfl⟩)
        | (go_at_call 25; refine (when_any _ _ _).mono ?_; rintro e w' ⟨rfl, rfl⟩))
      · rw [Exit.noGoto_ret]; go_ret2
        exact ⟨rfl, xtrans (by repeat (first | exact xrefl _ | refine xalloc ?_ _ | refine xdrew ?_)) hb⟩
      all_goals exact ⟨_, _, by simp [go_sem]; exact ⟨rfl, rfl⟩, by simp [go_sem], by simp [go_sem]⟩
    · go_enter Try.func8, Try.ntmps8
      go_wp2_with fail
      go_step3
      go_wp2_with (first
        | (go_at_call 24; with_reducible refine (paid3 _ (addrCost far, true) (9000, true) (25000, false) _ ?_ ?_ ?_).mono ?_; rotate_left 3; rintro e w' ⟨rfl, hb⟩)
        | (go_at_call 23; refine (kinds_any _).mono ?_; rintro e w' ⟨rfl, rfl⟩)
        | (go_at_call 26; refine (address_any _ _).mono ?_; rintro e w' ⟨rfl, rfl⟩)
        | (go_at_call 25; refine (when_any _ _ _).mono ?_; rintro e w' ⟨rfl, rfl⟩))
      · rw [Exit.noGoto_ret]; go_ret2
        exact ⟨rfl, xtrans (by repeat (first | exact xrefl _ | refine xalloc ?_ _ | refine xdrew ?_)) hb⟩
      all_goals exact ⟨_, _, by simp [go_sem]; exact ⟨rfl, rfl⟩, by simp [go_sem], by simp [go_sem]⟩
    · go_enter Try.func8, Try.ntmps8
      go_wp2_with fail
      go_step3
      go_wp2_with (first
        | (go_at_call 24; with_reducible refine (paid3 _ (addrCost far, true) (9000, true) (25000, true) _ ?_ ?_ ?_).mono ?_; rotate_left 3; rintro e w' ⟨rfl, hb⟩)
        | (go_at_call 23; refine (kinds_any _).mono ?_; rintro e w' ⟨rfl, rfl⟩)
        | (go_at_call 26; refine (address_any _ _).mono ?_; rintro e w' ⟨rfl, rfl⟩)
        | (go_at_call 25; refine (when_any _ _ _).mono ?_; rintro e w' ⟨rfl, rfl⟩))
      · rw [Exit.noGoto_ret]; go_ret2
        exact ⟨rfl, xtrans (by repeat (first | exact xrefl _ | refine xalloc ?_ _ | refine xdrew ?_)) hb⟩
      all_goals exact ⟨_, _, by simp [go_sem]; exact ⟨rfl, rfl⟩, by simp [go_sem], by simp [go_sem]⟩
  · cases v <;> cases d
    · go_enter Try.func8, Try.ntmps8
      go_wp2_with fail
      go_step3
      go_wp2_with (first
        | (go_at_call 24; with_reducible refine (paid3 _ (addrCost far, true) (9000, false) (25000, false) _ ?_ ?_ ?_).mono ?_; rotate_left 3; rintro e w' ⟨rfl, hb⟩)
        | (go_at_call 23; refine (kinds_any _).mono ?_; rintro e w' ⟨rfl, rfl⟩)
        | (go_at_call 26; refine (address_any _ _).mono ?_; rintro e w' ⟨rfl, rfl⟩)
        | (go_at_call 25; refine (when_any _ _ _).mono ?_; rintro e w' ⟨rfl, rfl⟩))
      · rw [Exit.noGoto_ret]; go_ret2
        exact ⟨rfl, xtrans (by repeat (first | exact xrefl _ | refine xalloc ?_ _ | refine xdrew ?_)) hb⟩
      all_goals exact ⟨_, _, by simp [go_sem]; exact ⟨rfl, rfl⟩, by simp [go_sem], by simp [go_sem]⟩
    · go_enter Try.func8, Try.ntmps8
      go_wp2_with fail
      go_step3
      go_wp2_with (first
        | (go_at_call 24; with_reducible refine (paid3 _ (addrCost far, true) (9000, false) (25000, false) _ ?_ ?_ ?_).mono ?_; rotate_left 3; rintro e w' ⟨rfl, hb⟩)
        | (go_at_call 23; refine (kinds_any _).mono ?_; rintro e w' ⟨rfl, rfl⟩)
        | (go_at_call 26; refine (address_any _ _).mono ?_; rintro e w' ⟨rfl, rfl⟩)
        | (go_at_call 25; refine (when_any _ _ _).mono ?_; rintro e w' ⟨rfl, rfl⟩))
      · rw [Exit.noGoto_ret]; go_ret2
        exact ⟨rfl, xtrans (by repeat (first | exact xrefl _ | refine xalloc ?_ _ | refine xdrew ?_)) hb⟩
      all_goals exact ⟨_, _, by simp [go_sem]; exact ⟨rfl, rfl⟩, by simp [go_sem], by simp [go_sem]⟩
    · go_enter Try.func8, Try.ntmps8
      go_wp2_with fail
      go_step3
      go_wp2_with (first
        | (go_at_call 24; with_reducible refine (paid3 _ (addrCost far, true) (9000, true) (25000, false) _ ?_ ?_ ?_).mono ?_; rotate_left 3; rintro e w' ⟨rfl, hb⟩)
        | (go_at_call 23; refine (kinds_any _).mono ?_; rintro e w' ⟨rfl, rfl⟩)
        | (go_at_call 26; refine (address_any _ _).mono ?_; rintro e w' ⟨rfl, rfl⟩)
        | (go_at_call 25; refine (when_any _ _ _).mono ?_; rintro e w' ⟨rfl, rfl⟩))
      · rw [Exit.noGoto_ret]; go_ret2
        exact ⟨rfl, xtrans (by repeat (first | exact xrefl _ | refine xalloc ?_ _ | refine xdrew ?_)) hb⟩
      all_goals exact ⟨_, _, by simp [go_sem]; exact ⟨rfl, rfl⟩, by simp [go_sem], by simp [go_sem]⟩
    · go_enter Try.func8, Try.ntmps8
      go_wp2_with fail
      go_step3
      go_wp2_with (first
        | (go_at_call 24; with_reducible refine (paid3 _ (addrCost far, true) (9000, true) (25000, false) _ ?_ ?_ ?_).mono ?_; rotate_left 3; rintro e w' ⟨rfl, hb⟩)
        | (go_at_call 23; refine (kinds_any _).mono ?_; rintro e w' ⟨rfl, rfl⟩)
        | (go_at_call 26; refine (address_any _ _).mono ?_; rintro e w' ⟨rfl, rfl⟩)
        | (go_at_call 25; refine (when_any _ _ _).mono ?_; rintro e w' ⟨rfl, rfl⟩))
      · rw [Exit.noGoto_ret]; go_ret2
        exact ⟨rfl, xtrans (by repeat (first | exact xrefl _ | refine xalloc ?_ _ | refine xdrew ?_)) hb⟩
      all_goals exact ⟨_, _, by simp [go_sem]; exact ⟨rfl, rfl⟩, by simp [go_sem], by simp [go_sem]⟩
  · cases v <;> cases d
    · go_enter Try.func8, Try.ntmps8
      go_wp2_with fail
      go_step3
      go_wp2_with (first
        | (go_at_call 24; with_reducible refine (paid3 _ (addrCost far, true) (9000, false) (25000, false) _ ?_ ?_ ?_).mono ?_; rotate_left 3; rintro e w' ⟨rfl, hb⟩)
        | (go_at_call 23; refine (kinds_any _).mono ?_; rintro e w' ⟨rfl, rfl⟩)
        | (go_at_call 26; refine (address_any _ _).mono ?_; rintro e w' ⟨rfl, rfl⟩)
        | (go_at_call 25; refine (when_any _ _ _).mono ?_; rintro e w' ⟨rfl, rfl⟩))
      · rw [Exit.noGoto_ret]; go_ret2
        exact ⟨rfl, xtrans (by repeat (first | exact xrefl _ | refine xalloc ?_ _ | refine xdrew ?_)) hb⟩
      all_goals exact ⟨_, _, by simp [go_sem]; exact ⟨rfl, rfl⟩, by simp [go_sem], by simp [go_sem]⟩
    · go_enter Try.func8, Try.ntmps8
      go_wp2_with fail
      go_step3
      go_wp2_with (first
        | (go_at_call 24; with_reducible refine (paid3 _ (addrCost far, true) (9000, false) (25000, false) _ ?_ ?_ ?_).mono ?_; rotate_left 3; rintro e w' ⟨rfl, hb⟩)
        | (go_at_call 23; refine (kinds_any _).mono ?_; rintro e w' ⟨rfl, rfl⟩)
        | (go_at_call 26; refine (address_any _ _).mono ?_; rintro e w' ⟨rfl, rfl⟩)
        | (go_at_call 25; refine (when_any _ _ _).mono ?_; rintro e w' ⟨rfl, rfl⟩))
      · rw [Exit.noGoto_ret]; go_ret2
        exact ⟨rfl, xtrans (by repeat (first | exact xrefl _ | refine xalloc ?_ _ | refine xdrew ?_)) hb⟩
      all_goals exact ⟨_, _, by simp [go_sem]; exact ⟨rfl, rfl⟩, by simp [go_sem], by simp [go_sem]⟩
    · go_enter Try.func8, Try.ntmps8
      go_wp2_with fail
      go_step3
      go_wp2_with (first
        | (go_at_call 24; with_reducible refine (paid3 _ (addrCost far, true) (9000, false) (25000, false) _ ?_ ?_ ?_).mono ?_; rotate_left 3; rintro e w' ⟨rfl, hb⟩)
        | (go_at_call 23; refine (kinds_any _).mono ?_; rintro e w' ⟨rfl, rfl⟩)
        | (go_at_call 26; refine (address_any _ _).mono ?_; rintro e w' ⟨rfl, rfl⟩)
        | (go_at_call 25; refine (when_any _ _ _).mono ?_; rintro e w' ⟨rfl, rfl⟩))
      · rw [Exit.noGoto_ret]; go_ret2
        exact ⟨rfl, xtrans (by repeat (first | exact xrefl _ | refine xalloc ?_ _ | refine xdrew ?_)) hb⟩
      all_goals exact ⟨_, _, by simp [go_sem]; exact ⟨rfl, rfl⟩, by simp [go_sem], by simp [go_sem]⟩
    · go_enter Try.func8, Try.ntmps8
      go_wp2_with fail
      go_step3
      go_wp2_with (first
        | (go_at_call 24; with_reducible refine (paid3 _ (addrCost far, true) (9000, false) (25000, false) _ ?_ ?_ ?_).mono ?_; rotate_left 3; rintro e w' ⟨rfl, hb⟩)
        | (go_at_call 23; refine (kinds_any _).mono ?_; rintro e w' ⟨rfl, rfl⟩)
        | (go_at_call 26; refine (address_any _ _).mono ?_; rintro e w' ⟨rfl, rfl⟩)
        | (go_at_call 25; refine (when_any _ _ _).mono ?_; rintro e w' ⟨rfl, rfl⟩))
      · rw [Exit.noGoto_ret]; go_ret2
        exact ⟨rfl, xtrans (by repeat (first | exact xrefl _ | refine xalloc ?_ _ | refine xdrew ?_)) hb⟩
      all_goals exact ⟨_, _, by simp [go_sem]; exact ⟨rfl, rfl⟩, by simp [go_sem], by simp [go_sem]⟩
  · cases v <;> cases d
    · go_enter Try.func8, Try.ntmps8
      go_wp2_with fail
      go_step3
      go_wp2_with (first
        | (go_at_call 24; with_reducible refine (paid3 _ (addrCost far, true) (9000, false) (25000, false) _ ?_ ?_ ?_).mono ?_; rotate_left 3; rintro e w' ⟨rfl, hb⟩)
        | (go_at_call 23; refine (kinds_any _).mono ?_; rintro e w' ⟨rfl, rfl⟩)
        | (go_at_call 26; refine (address_any _ _).mono ?_; rintro e w' ⟨rfl, rfl⟩)
        | (go_at_call 25; refine (when_any _ _ _).mono ?_; rintro e w' ⟨rfl, rfl⟩))
      · rw [Exit.noGoto_ret]; go_ret2
        exact ⟨rfl, xtrans (by repeat (first | exact xrefl _ | refine xalloc ?_ _ | refine xdrew ?_)) hb⟩
      all_goals exact ⟨_, _, by simp [go_sem]; exact ⟨rfl, rfl⟩, by simp [go_sem], by simp [go_sem]⟩
    · go_enter Try.func8, Try.ntmps8
      go_wp2_with fail
      go_step3
      go_wp2_with (first
        | (go_at_call 24; with_reducible refine (paid3 _ (addrCost far, true) (9000, false) (25000, false) _ ?_ ?_ ?_).mono ?_; rotate_left 3; rintro e w' ⟨rfl, hb⟩)
        | (go_at_call 23; refine (kinds_any _).mono ?_; rintro e w' ⟨rfl, rfl⟩)
        | (go_at_call 26; refine (address_any _ _).mono ?_; rintro e w' ⟨rfl, rfl⟩)
        | (go_at_call 25; refine (when_any _ _ _).mono ?_; rintro e w' ⟨rfl, rfl⟩))
      · rw [Exit.noGoto_ret]; go_ret2
        exact ⟨rfl, xtrans (by repeat (first | exact xrefl _ | refine xalloc ?_ _ | refine xdrew ?_)) hb⟩
      all_goals exact ⟨_, _, by simp [go_sem]; exact ⟨rfl, rfl⟩, by simp [go_sem], by simp [go_sem]⟩
    · go_enter Try.func8, Try.ntmps8
      go_wp2_with fail
      go_step3
      go_wp2_with (first
        | (go_at_call 24; with_reducible refine (paid3 _ (addrCost far, true) (9000, false) (25000, false) _ ?_ ?_ ?_).mono ?_; rotate_left 3; rintro e w' ⟨rfl, hb⟩)
        | (go_at_call 23; refine (kinds_any _).mono ?_; rintro e w' ⟨rfl, rfl⟩)
        | (go_at_call 26; refine (address_any _ _).mono ?_; rintro e w' ⟨rfl, rfl⟩)
        | (go_at_call 25; refine (when_any _ _ _).mono ?_; rintro e w' ⟨rfl, rfl⟩))
      · rw [Exit.noGoto_ret]; go_ret2
        exact ⟨rfl, xtrans (by repeat (first | exact xrefl _ | refine xalloc ?_ _ | refine xdrew ?_)) hb⟩
      all_goals exact ⟨_, _, by simp [go_sem]; exact ⟨rfl, rfl⟩, by simp [go_sem], by simp [go_sem]⟩
    · go_enter Try.func8, Try.ntmps8
      go_wp2_with fail
      go_step3
      go_wp2_with (first
        | (go_at_call 24; with_reducible refine (paid3 _ (addrCost far, true) (9000, false) (25000, false) _ ?_ ?_ ?_).mono ?_; rotate_left 3; rintro e w' ⟨rfl, hb⟩)
        | (go_at_call 23; refine (kinds_any _).mono ?_; rintro e w' ⟨rfl, rfl⟩)
        | (go_at_call 26; refine (address_any _ _).mono ?_; rintro e w' ⟨rfl, rfl⟩)
        | (go_at_call 25; refine (when_any _ _ _).mono ?_; rintro e w' ⟨rfl, rfl⟩))
      · rw [Exit.noGoto_ret]; go_ret2
        exact ⟨rfl, xtrans (by repeat (first | exact xrefl _ | refine xalloc ?_ _ | refine xdrew ?_)) hb⟩
      all_goals exact ⟨_, _, by simp [go_sem]; exact ⟨rfl, rfl⟩, by simp [go_sem], by simp [go_sem]⟩

end Go.Proofs.Ytioihjgobmbanaa
