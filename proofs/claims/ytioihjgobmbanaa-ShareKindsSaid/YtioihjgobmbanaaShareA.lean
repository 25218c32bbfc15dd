/- Contracts of the small functions under share: what each returns. -/
import Derived.Test.YtioihjgobmbanaaKit
namespace Go.Proofs.Ytioihjgobmbanaa
open Go.RowKit

theorem refValues_any (k : Int) (w : World) :
    Calls Try.prog 28 #[.int .i64 k] w fun e w' => e = .returned (.bool (k == 1 || k == 2)) ∧ w = w' := by
  go_enter Try.func28, Try.ntmps28
  go_wp2
  all_goals (go_ret; simp [*])

theorem either_any (c : Bool) (x y : Int) (w : World) :
    Calls Try.prog 43 #[.bool c, .agg #[.int .u64 x, .int .u64 y]] w fun e w' => e = .returned (.int .u64 (if c then y else x)) ∧ w.alloc (.cells #[.int .u64 x, .int .u64 y] 85) = w' := by
  go_enter Try.func43, Try.ntmps43
  go_wp2
  all_goals (go_ret; refine ⟨by simp [*], rfl⟩)

def addrCost (far : Bool) : Int := if far then 2600 else 100

theorem address_any (far : Bool) (w : World) :
    Calls Try.prog 26 #[.bool far] w fun e w' => e = .returned (.int .u64 (addrCost far)) ∧ w.alloc (.cells #[.int .u64 100, .int .u64 2600] 85) = w' := by
  go_enter Try.func26, Try.ntmps26
  go_wp2_with (go_at_call 43; refine (either_any _ _ _ _).mono ?_; rintro e w' ⟨rfl, rfl⟩)
  all_goals (go_ret; refine ⟨rfl, rfl⟩)

theorem refAddress_any (c : Bool) (w : World) :
    Calls Try.prog 27 #[.bool c] w fun e w' => e = .returned (.int .u64 (addrCost c)) ∧ w = w' := by
  go_enter Try.func27, Try.ntmps27
  go_wp2
  all_goals (go_ret; simp [*, addrCost])

theorem when_any (c : Bool) (x : Int) (w : World) :
    Calls Try.prog 25 #[.bool c, .int .u64 x] w fun e w' => e = .returned (.func (.func 42) #[] #[.pointer (some ⟨w.heap.size + 1, 0, none⟩), .pointer (some ⟨w.heap.size, 0, none⟩)]) ∧ (w.alloc (.cells #[.bool c] 4)).alloc (.cells #[.int .u64 x] 23) = w' := by
  go_enter Try.func25, Try.ntmps25
  go_wp2
  go_ret
  exact ⟨rfl, rfl⟩

theorem when1_any (c : Bool) (x : Int) (w : World) (p q : Addr) (hp : w.cell? p = some (.int .u64 x)) (hq : w.cell? q = some (.bool c)) :
    Calls Try.prog 42 #[.pointer (some p), .pointer (some q)] w fun e w' => e = .returned (.tuple #[.int .u64 x, .bool c]) ∧ w.drewN 1 = w' := by
  go_enter Try.func42, Try.ntmps42
  go_wp2
  go_region
  all_goals (go_wp2; go_ret2; exact ⟨rfl, rfl⟩)

end Go.Proofs.Ytioihjgobmbanaa
