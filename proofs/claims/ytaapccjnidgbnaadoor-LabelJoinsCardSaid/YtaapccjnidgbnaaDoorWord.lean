/- Numbers of 32 and 64 bits as bit vectors behind a name: what Go's operators do to them. -/
import Derived.Test.YtaapccjnidgbnaaDoorKit
namespace Go.Proofs.YtaapccjnidgbnaaDoor
open Go.RowKit

/-- A number of 32 bits, as Go's uint32 holds it. -/
def iv32 (x : BitVec 32) : Int := x.toNat
def iv64 (x : BitVec 64) : Int := x.toNat
def iv8 (x : BitVec 8) : Int := x.toNat
theorem iv32_bd (x : BitVec 32) : 0 ≤ iv32 x ∧ iv32 x < 4294967296 := by unfold iv32; have := x.isLt; omega
theorem iv64_bd (x : BitVec 64) : 0 ≤ iv64 x ∧ iv64 x < 18446744073709551616 := by unfold iv64; have := x.isLt; omega
theorem iv8_bd (x : BitVec 8) : 0 ≤ iv8 x ∧ iv8 x < 256 := by unfold iv8; have := x.isLt; omega
theorem iv32_inj {x y : BitVec 32} : iv32 x = iv32 y ↔ x = y := by unfold iv32; rw [BitVec.toNat_eq]; omega
theorem iv64_inj {x y : BitVec 64} : iv64 x = iv64 y ↔ x = y := by unfold iv64; rw [BitVec.toNat_eq]; omega
theorem iv8_inj {x y : BitVec 8} : iv8 x = iv8 y ↔ x = y := by unfold iv8; rw [BitVec.toNat_eq]; omega
theorem ofInt32 (x : BitVec 32) : BitVec.ofInt 32 (x.toNat : Int) = x := by rw [BitVec.ofInt_natCast]; simp
theorem ofInt64 (x : BitVec 64) : BitVec.ofInt 64 (x.toNat : Int) = x := by rw [BitVec.ofInt_natCast]; simp
theorem ofInt8 (x : BitVec 8) : BitVec.ofInt 8 (x.toNat : Int) = x := by rw [BitVec.ofInt_natCast]; simp
theorem wrap32_nat (n : Nat) : IntKind.u32.wrap (n : Int) = iv32 (BitVec.ofNat 32 n) := by
  simp [IntKind.wrap, IntKind.bits, IntKind.signed, iv32]
theorem wrap64_nat (n : Nat) : IntKind.u64.wrap (n : Int) = iv64 (BitVec.ofNat 64 n) := by
  simp [IntKind.wrap, IntKind.bits, IntKind.signed, iv64]
theorem wrap8_nat (n : Nat) : IntKind.u8.wrap (n : Int) = iv8 (BitVec.ofNat 8 n) := by
  simp [IntKind.wrap, IntKind.bits, IntKind.signed, iv8]

/-! The operations, behind names. -/
def add32 (a b : BitVec 32) : BitVec 32 := a + b
def sub32 (a b : BitVec 32) : BitVec 32 := a - b
def mul32 (a b : BitVec 32) : BitVec 32 := a * b
def and32 (a b : BitVec 32) : BitVec 32 := a &&& b
def or32 (a b : BitVec 32) : BitVec 32 := a ||| b
def xor32 (a b : BitVec 32) : BitVec 32 := a ^^^ b
def not32 (a : BitVec 32) : BitVec 32 := ~~~a
def shl32 (a : BitVec 32) (n : Nat) : BitVec 32 := a <<< n
def shr32 (a : BitVec 32) (n : Nat) : BitVec 32 := a >>> n

section
variable (t : TypeId) (a b : BitVec 32)
@[go_sem high] theorem op_add32 : binOp .add t (.int .u32 (iv32 a)) (.int .u32 (iv32 b)) = pure (.int .u32 (iv32 (add32 a b))) := by
  simp only [binOp_add, Op.intArith, iv32]
  rw [show ((a.toNat : Int) + (b.toNat : Int)) = ((a.toNat + b.toNat : Nat) : Int) by omega, wrap32_nat]
  simp [iv32, add32]
@[go_sem high] theorem op_sub32 : binOp .sub t (.int .u32 (iv32 a)) (.int .u32 (iv32 b)) = pure (.int .u32 (iv32 (sub32 a b))) := by
  simp only [binOp_sub, Op.intArith, iv32]
  have ha := a.isLt
  have hb := b.isLt
  congr 2
  simp only [IntKind.wrap, IntKind.bits, IntKind.signed, sub32, BitVec.toNat_sub]
  simp
  omega
@[go_sem high] theorem op_and32 : binOp .and t (.int .u32 (iv32 a)) (.int .u32 (iv32 b)) = pure (.int .u32 (iv32 (and32 a b))) := by
  simp only [binOp_and, intBits_and, bits, iv32, IntKind.bits, ofInt32, wrap32_nat]
  rw [BitVec.ofNat_toNat, BitVec.setWidth_eq]; rfl
@[go_sem high] theorem op_or32 : binOp .or t (.int .u32 (iv32 a)) (.int .u32 (iv32 b)) = pure (.int .u32 (iv32 (or32 a b))) := by
  simp only [binOp_or, intBits_or, bits, iv32, IntKind.bits, ofInt32, wrap32_nat]
  rw [BitVec.ofNat_toNat, BitVec.setWidth_eq]; rfl
@[go_sem high] theorem op_xor32 : binOp .xor t (.int .u32 (iv32 a)) (.int .u32 (iv32 b)) = pure (.int .u32 (iv32 (xor32 a b))) := by
  simp only [binOp_xor, intBits_xor, bits, iv32, IntKind.bits, ofInt32, wrap32_nat]
  rw [BitVec.ofNat_toNat, BitVec.setWidth_eq]; rfl
@[go_sem high] theorem op_not32 : Op.unary .xor (.int .u32 (iv32 a)) = pure (.int .u32 (iv32 (not32 a))) := by
  rw [unary_xor]
  simp only [IntKind.signed, Bool.false_eq_true, if_false, intBits_xor, bits, iv32, IntKind.bits, ofInt32, wrap32_nat]
  rw [BitVec.ofNat_toNat, BitVec.setWidth_eq, show (BitVec.ofInt 32 IntKind.u32.max) = BitVec.allOnes 32 by rfl]
  exact congrArg (fun v : BitVec 32 => (pure (Value.int .u32 (v.toNat : Int)) : Sem Value)) BitVec.allOnes_xor
@[go_sem high] theorem op_shl32 (yk : IntKind) (y : Int) (h0 : 0 ≤ y) (h : y < 32) : binOp .shl t (.int .u32 (iv32 a)) (.int yk y) = pure (.int .u32 (iv32 (shl32 a y.toNat))) := by
  obtain ⟨n, rfl⟩ := Int.eq_ofNat_of_zero_le h0
  rw [binOp_shl, shift_shl_u32 _ _ _ (by omega) (by omega), Int.toNat_natCast]
  simp only [iv32, shl32]
  rw [show ((a.toNat : Int) * 2 ^ n) = ((a.toNat * 2 ^ n : Nat) : Int) by simp, wrap32_nat]
  simp [iv32, Nat.shiftLeft_eq]
@[go_sem high] theorem op_shr32 (yk : IntKind) (y : Int) (h0 : 0 ≤ y) (h : y < 32) : binOp .shr t (.int .u32 (iv32 a)) (.int yk y) = pure (.int .u32 (iv32 (shr32 a y.toNat))) := by
  obtain ⟨n, rfl⟩ := Int.eq_ofNat_of_zero_le h0
  rw [binOp_shr, shift_shr_u32 _ _ _ (by omega) (by omega), Int.toNat_natCast]
  simp only [iv32, shr32, BitVec.toNat_ushiftRight, Nat.shiftRight_eq_div_pow]
  simp
@[go_sem high] theorem op_eql32 : binOp .eql t (.int .u32 (iv32 a)) (.int .u32 (iv32 b)) = pure (.bool (a == b)) := by
  rw [binOp_eql]
  have : (iv32 a == iv32 b) = (a == b) := by rw [Bool.eq_iff_iff, beq_iff_eq, beq_iff_eq, iv32_inj]
  rw [this]
end

end Go.Proofs.YtaapccjnidgbnaaDoor
