/- Package sha: roots. -/
import Derived.Test.YtfieagpidplmoaaRef23D
import Derived.Shelf.Bits.Mul64
import Derived.Deep.Cut
namespace Go.Proofs.Ytfieagpidplmoaa
open Go.RowKit

set_option maxHeartbeats 1000000 in
theorem mul64_any (x y : Nat) (hx : x < 18446744073709551616) (hy : y < 18446744073709551616) (w : World) :
    Calls Try.prog 50 #[.int .u64 x, .int .u64 y] w fun e w' => e = .returned (.tuple #[.int .u64 ((x * y / 18446744073709551616 : Nat) : Int), .int .u64 ((x * y % 18446744073709551616 : Nat) : Int)]) ∧ w = w' := by
  obtain ⟨bd, bt, bw, hhi⟩ := Lib.mul64_hi x y hx hy
  have ba := Lib.half_mul_le (a := x / 4294967296) (b := y / 4294967296) (by omega) (by omega)
  have bb := Lib.half_mul_le (a := x / 4294967296) (b := y % 4294967296) (by omega) (by omega)
  have bc := Lib.half_mul_le (a := x % 4294967296) (b := y / 4294967296) (by omega) (by omega)
  have ba' : x / 4294967296 * (y / 4294967296) < 18446744073709551616 := by omega
  have bb' : x / 4294967296 * (y % 4294967296) < 18446744073709551616 := by omega
  have bc' : x % 4294967296 * (y / 4294967296) < 18446744073709551616 := by omega
  have bh1 : x / 4294967296 * (y / 4294967296) + (x / 4294967296 * (y % 4294967296) + x % 4294967296 * (y % 4294967296) / 4294967296) / 4294967296 < 18446744073709551616 := by omega
  have bh : x / 4294967296 * (y / 4294967296) + (x / 4294967296 * (y % 4294967296) + x % 4294967296 * (y % 4294967296) / 4294967296) / 4294967296 + ((x / 4294967296 * (y % 4294967296) + x % 4294967296 * (y % 4294967296) / 4294967296) % 4294967296 + x % 4294967296 * (y / 4294967296)) / 4294967296 < 18446744073709551616 := by omega
  go_enter Try.func50, Try.ntmps50
  go_wp2
  simp only [Mul64.maskN x hx, Mul64.maskN y hy, Mul64.divN, Mul64.mulN, Mul64.addN, Mul64.wrapN _ bd, Mul64.wrapN _ bb', Mul64.wrapN _ bt, Mul64.maskN _ bt, Mul64.wrapN _ bc', Mul64.wrapN _ bw, Mul64.wrapN _ ba', Mul64.wrapN _ bh1, Mul64.wrapN _ bh, Mul64.wrapM (x * y)]
  rw [hhi]
  go_ret2
  exact ⟨rfl, rfl⟩

theorem sq_le (s p : Nat) : (s / 18446744073709551616 < p ∨ s / 18446744073709551616 = p ∧ s % 18446744073709551616 = 0) ↔ s ≤ p * 18446744073709551616 := by omega

theorem b1 (s p : Nat) (_ : (p : Int) ≤ (s : Int) / 18446744073709551616) (h : (s : Int) / 18446744073709551616 = (p : Int)) : ((s : Int) % 18446744073709551616 == 0) = decide (s ≤ p * 18446744073709551616) := by
  rw [Bool.eq_iff_iff]; simp only [beq_iff_eq, decide_eq_true_eq]; omega
theorem b2 (s p : Nat) (_ : (p : Int) ≤ (s : Int) / 18446744073709551616) (h : ¬ (s : Int) / 18446744073709551616 = (p : Int)) : (decide ((s : Int) / 18446744073709551616 < (p : Int))) = decide (s ≤ p * 18446744073709551616) := by
  rw [Bool.eq_iff_iff]; simp only [beq_iff_eq, decide_eq_true_eq]; omega
theorem b3 (s p : Nat) (h : (s : Int) / 18446744073709551616 < (p : Int)) : true = decide (s ≤ p * 18446744073709551616) := by
  rw [Bool.eq_iff_iff]; simp only [decide_eq_true_eq, true_iff]; omega
theorem belowSq_any (x p : Nat) (w : World) (hx : x < 137438953472) (hp : p < 65536) :
    Calls Try.prog 48 #[.int .u64 x, .int .u64 p, .bool false] w fun e w' => e = .returned (.bool (decide (x ^ 2 ≤ p * 2 ^ (32 * 2)))) ∧ w = w' := by
  have hsq : x ^ 2 = x * x := Nat.pow_two x
  rw [hsq, show 2 ^ (32 * 2) = 18446744073709551616 by decide]
  have hb : x * x ≤ 137438953471 * 137438953471 := Nat.mul_le_mul (by omega) (by omega)
  obtain ⟨s, hs⟩ : ∃ s : Nat, x * x = s := ⟨_, rfl⟩
  rw [hs] at hb ⊢
  replace hs := Lib.hid hs
  clear hsq
  go_enter Try.func48, Try.ntmps48
  go_wp2_with (first
    | (go_at_call 50; refine (mul64_any _ _ (by omega) (by omega) _).mono ?_; rintro e w' ⟨rfl, rfl⟩; rw [hs.out]))
  all_goals (go_ret; refine ⟨congrArg (fun b => Ending.returned (Value.bool b)) ?_, rfl⟩; first | exact b3 s p (by assumption) | exact b1 s p (by assumption) (by assumption) | exact b2 s p (by assumption) (by assumption))

theorem cube_le (x p : Nat) (hx : x < 137438953472) : x * x / 18446744073709551616 * x + x * x % 18446744073709551616 * x / 18446744073709551616 < 18446744073709551616 ∧
    ((x * x / 18446744073709551616 * x + x * x % 18446744073709551616 * x / 18446744073709551616 < p * 4294967296 ∨ x * x / 18446744073709551616 * x + x * x % 18446744073709551616 * x / 18446744073709551616 = p * 4294967296 ∧ x * x % 18446744073709551616 * x % 18446744073709551616 = 0) ↔ x ^ 3 ≤ p * 2 ^ (32 * 3)) := by
  have hb : x * x ≤ 137438953471 * 137438953471 := Nat.mul_le_mul (by omega) (by omega)
  have e3 : x ^ 3 = x * x * x := by rw [Nat.pow_succ, Nat.pow_two]
  rw [e3, show 2 ^ (32 * 3) = 4294967296 * 18446744073709551616 by decide]
  have hs := Nat.div_add_mod (x * x) 18446744073709551616
  generalize x * x = s at *
  have h1 : s / 18446744073709551616 ≤ 1024 := by omega
  have h2 : s % 18446744073709551616 < 18446744073709551616 := Nat.mod_lt _ (by decide)
  generalize s / 18446744073709551616 = h at *
  generalize s % 18446744073709551616 = l at *
  have e4 : s * x = 18446744073709551616 * (h * x) + l * x := by rw [← hs, Nat.add_mul, Nat.mul_assoc]
  rw [e4]
  have h5 : h * x ≤ 1024 * 137438953472 := Nat.mul_le_mul h1 (by omega)
  have h6 : l * x ≤ 18446744073709551616 * 137438953472 := Nat.mul_le_mul (by omega) (by omega)
  generalize h * x = hx1 at *
  generalize l * x = lx at *
  omega
theorem belowCu_any (x p : Nat) (w : World) (hx : x < 137438953472) (hp : p < 65536) :
    Calls Try.prog 48 #[.int .u64 x, .int .u64 p, .bool true] w fun e w' => e = .returned (.bool (decide (x ^ 3 ≤ p * 2 ^ (32 * 3)))) ∧ w = w' := by
  obtain ⟨hc1, hc2⟩ := cube_le x p hx
  have hb : x * x ≤ 137438953471 * 137438953471 := Nat.mul_le_mul (by omega) (by omega)
  obtain ⟨r, hr⟩ : ∃ r, r = decide (x ^ 3 ≤ p * 2 ^ (32 * 3)) := ⟨_, rfl⟩
  rw [← hr]
  have hc3 := (show (r = true) ↔ x ^ 3 ≤ p * 2 ^ (32 * 3) by rw [hr]; exact decide_eq_true_iff).trans hc2.symm
  clear hr hc2
  have hl : x * x % 18446744073709551616 < 18446744073709551616 := Nat.mod_lt _ (by decide)
  obtain ⟨h, hh⟩ : ∃ h : Nat, x * x / 18446744073709551616 = h := ⟨_, rfl⟩
  obtain ⟨l, hl2⟩ : ∃ l : Nat, x * x % 18446744073709551616 = l := ⟨_, rfl⟩
  rw [hh, hl2] at hc1 hc3
  rw [hl2] at hl
  replace hh := Lib.hid hh
  replace hl2 := Lib.hid hl2
  obtain ⟨hx1, hhx⟩ : ∃ k : Nat, h * x = k := ⟨_, rfl⟩
  obtain ⟨lx, hlx⟩ : ∃ k : Nat, l * x = k := ⟨_, rfl⟩
  rw [hhx, hlx] at hc1 hc3
  have hhx2 : (h : Int) * (x : Int) = (hx1 : Int) := by rw [← hhx]; simp
  replace hhx := Lib.hid hhx
  replace hlx := Lib.hid hlx
  replace hc3 := Lib.hid hc3
  clear hb
  replace hc1 : hx1 + lx / 18446744073709551616 < 18446744073709551616 := hc1
  go_enter Try.func48, Try.ntmps48
  go_upto_region 4 with (first
    | (go_at_call 50; refine (mul64_any x x (by omega) (by omega) _).mono ?_; rintro e w' ⟨rfl, rfl⟩; rw [hh.out, hl2.out]))
  go_upto_region 5 with (first
    | (go_at_call 50; refine (mul64_any l x hl (by omega) _).mono ?_; rintro e w' ⟨rfl, rfl⟩; rw [hlx.out]))
  go_upto_region 6 with fail
  obtain ⟨q, hq⟩ : ∃ q : Nat, q = p * 4294967296 := ⟨_, rfl⟩
  obtain ⟨tt, htt⟩ : ∃ k : Nat, k = hx1 + lx / 18446744073709551616 := ⟨_, rfl⟩
  obtain ⟨z, hz⟩ : ∃ k : Nat, k = lx % 18446744073709551616 := ⟨_, rfl⟩
  rw [← hq, ← htt, ← hz] at hc3
  have e1 : (lx : Int) / 18446744073709551616 + (hx1 : Int) = (tt : Int) := by omega
  have e2 : (lx : Int) % 18446744073709551616 = (z : Int) := by omega
  have e3 : IntKind.u64.wrap ((p : Int) * 2 ^ Int.toNat 32) = (q : Int) := by rw [IntKind.wrap_u64, hq, show Int.toNat 32 = 32 by decide]; omega
  have e4 : IntKind.u64.wrap ((p : Int) * 4294967296) = (q : Int) := by rw [IntKind.wrap_u64, hq]; omega
  rw [e1, e2]
  clear e1 e2 hq htt hz hhx2 hhx hlx hh hl2 hc1 hl
  go_wp2
  all_goals (go_ret; refine ⟨congrArg (fun b => Ending.returned (Value.bool b)) ?_, rfl⟩; have hc4 := hc3.out; clear hc3; rw [Bool.eq_iff_iff, hc4]; simp; omega)
end Go.Proofs.Ytfieagpidplmoaa
