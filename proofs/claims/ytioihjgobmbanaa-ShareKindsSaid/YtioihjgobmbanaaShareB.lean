/- Layer 22: the map of kinds, sums; what each call returns. No condition beyond those written at each theorem. -/
import Derived.Test.YtioihjgobmbanaaShareA
namespace Go.Proofs.Ytioihjgobmbanaa
open Go.RowKit

def kindsL : List (Int × Value) := [(1, .agg #[.string ⟨#[67, 65, 76, 76]⟩, .bool true]), (2, .agg #[.string ⟨#[67, 65, 76, 76, 67, 79, 68, 69]⟩, .bool true]),
  (3, .agg #[.string ⟨#[68, 69, 76, 69, 71, 65, 84, 69, 67, 65, 76, 76]⟩, .bool false]), (4, .agg #[.string ⟨#[83, 84, 65, 84, 73, 67, 67, 65, 76, 76]⟩, .bool false])]

@[go_sem] theorem kindsL_1 : findI 1 kindsL = some (.agg #[.string ⟨#[67, 65, 76, 76]⟩, .bool true]) := Eq.trans rfl rfl
@[go_sem] theorem kindsL_2 : findI 2 kindsL = some (.agg #[.string ⟨#[67, 65, 76, 76, 67, 79, 68, 69]⟩, .bool true]) := Eq.trans rfl rfl
@[go_sem] theorem kindsL_3 : findI 3 kindsL = some (.agg #[.string ⟨#[68, 69, 76, 69, 71, 65, 84, 69, 67, 65, 76, 76]⟩, .bool false]) := Eq.trans rfl rfl
@[go_sem] theorem kindsL_4 : findI 4 kindsL = some (.agg #[.string ⟨#[83, 84, 65, 84, 73, 67, 67, 65, 76, 76]⟩, .bool false]) := Eq.trans rfl rfl
theorem kindsL_no {k : Int} (h : (k == 1 || k == 2 || k == 3 || k == 4) = false) : findI k kindsL = none := by
  simp at h
  simp [kindsL, findI, h]

set_option maxRecDepth 100000 in
theorem kinds_any (w : World) :
    Calls Try.prog 23 #[] w fun e w' => e = .returned (.map (some w.heap.size)) ∧ w.alloc (mapI .i64 kindsL) = w' := by
  have hmm := @run_makeMapI Try.prog .i64 55
  have hin := @run_insertI Try.prog 55 _ _ _ Try.underlying55 Try.underlying27
  go_enter Try.func23, Try.ntmps23
  go_wp2
  go_ret
  exact ⟨rfl, rfl⟩


def u64add (a b : Int) : Int := IntKind.u64.wrap (a + b)

theorem add_any (p q : Addr) (s n : Int) (w : World) (hp : w.cell? p = some (.int .u64 s)) (hf : w.frozen? p = false) (hq : w.cell? q = some (.int .u64 n)) :
    Calls Try.prog 40 #[.pointer (some p), .slice (some q) 1 1] w fun e w' => e = .returned (.tuple #[]) ∧ w.setCell p (.int .u64 (u64add s n)) = w' := by
  obtain ⟨qb, qo, qs⟩ := q
  have hqs : qs = none := World.cell?_spot hq
  subst hqs
  go_enter Try.func40, Try.ntmps40
  go_wp2
  go_loopw [8] (fun i wr => (i = .int .i64 0 ∧ wr = w) ∨ (i = .int .i64 1 ∧ wr = w.setCell p (.int .u64 (u64add s n)))) (fun i _ => 1 - (intOf i).toNat)
  case atStart => exact .inl ⟨rfl, rfl⟩
  case round =>
    rcases hrel with ⟨rfl, rfl⟩ | ⟨rfl, rfl⟩
    · go_wp2
      go_roundw
      case rel => exact .inr ⟨rfl, rfl⟩
      case measure => simp [intOf]
    · go_wp2
      go_end0
      exact ⟨rfl, rfl⟩

theorem total_any (p : Addr) (s : Int) (w : World) (hp : w.cell? p = some (.int .u64 s)) :
    Calls Try.prog 41 #[.pointer (some p)] w fun e w' => e = .returned (.int .u64 s) ∧ w = w' := by
  go_enter Try.func41, Try.ntmps41
  go_wp2
  go_ret
  exact ⟨rfl, rfl⟩

end Go.Proofs.Ytioihjgobmbanaa
