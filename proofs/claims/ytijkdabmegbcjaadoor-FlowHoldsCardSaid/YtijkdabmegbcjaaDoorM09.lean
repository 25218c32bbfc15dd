/- Labels as bit vectors: what Go's operators do to them; their principals, texts, and the labels of texts: plain law. Rows of values of any kind, elements of any size: read, appended. Blocks that hold values of any kind (structs): loaded and stored whole, read by parts. -/
import Derived.Lib.TrailingZeros
import Derived.Lib.ItoaNum
import Derived.Lib.Join
import Derived.Test.YtijkdabmegbcjaaDoorM08
import Derived.Laws.MakeOwn
import Derived.Test.YtijkdabmegbcjaaDoorM01
set_option linter.all false
namespace Go.Proofs.YtijkdabmegbcjaaDoor
open Go.RowKit

def or64 (a b : BitVec 64) : BitVec 64 := a ||| b
def and64 (a b : BitVec 64) : BitVec 64 := a &&& b
def andn64 (a b : BitVec 64) : BitVec 64 := a &&& ~~~b
def shr64 (a : BitVec 64) (n : Nat) : BitVec 64 := a >>> n
def dec64 (a : BitVec 64) : BitVec 64 := a - 1
def bit64 (n : Nat) : BitVec 64 := 1#64 <<< n
section
variable (t : TypeId) (a b : BitVec 64)
@[go_sem high] theorem op_and64 : binOp .and t (.int .u64 (iv64 a)) (.int .u64 (iv64 b)) = pure (.int .u64 (iv64 (and64 a b))) := by
  simp only [binOp_and, intBits_and, bits, iv64, IntKind.bits, ofInt64, wrap64_nat]
  rw [BitVec.ofNat_toNat, BitVec.setWidth_eq]; rfl
@[go_sem high] theorem op_or64 : binOp .or t (.int .u64 (iv64 a)) (.int .u64 (iv64 b)) = pure (.int .u64 (iv64 (or64 a b))) := by
  simp only [binOp_or, intBits_or, bits, iv64, IntKind.bits, ofInt64, wrap64_nat]
  rw [BitVec.ofNat_toNat, BitVec.setWidth_eq]; rfl
@[go_sem high] theorem op_andn64 : binOp .andNot t (.int .u64 (iv64 a)) (.int .u64 (iv64 b)) = pure (.int .u64 (iv64 (andn64 a b))) := by
  simp only [binOp_andNot, intBits_andNot, bits, iv64, IntKind.bits, ofInt64, wrap64_nat]
  rw [BitVec.ofNat_toNat, BitVec.setWidth_eq]; rfl
@[go_sem high] theorem op_dec64 : binOp .sub t (.int .u64 (iv64 a)) (.int .u64 1) = pure (.int .u64 (iv64 (dec64 a))) := by
  simp only [binOp_sub, Op.intArith, iv64]
  have ha := a.isLt
  congr 2
  simp only [IntKind.wrap, IntKind.bits, IntKind.signed, dec64, BitVec.toNat_sub]
  simp
  omega
@[go_sem high] theorem op_bit64 (yk : IntKind) (y : Int) (h0 : 0 ≤ y) (h : y < 64) : binOp .shl t (.int .u64 1) (.int yk y) = pure (.int .u64 (iv64 (bit64 y.toNat))) := by
  obtain ⟨n, rfl⟩ := Int.eq_ofNat_of_zero_le h0
  rw [binOp_shl, shift_shl_u64 _ _ _ (by omega) (by omega), Int.toNat_natCast]
  rw [show ((1 : Int) * 2 ^ n) = ((2 ^ n : Nat) : Int) by simp, wrap64_nat]
  simp only [iv64, bit64, BitVec.toNat_shiftLeft, BitVec.toNat_ofNat, Nat.shiftLeft_eq]
  simp
@[go_sem high] theorem op_shr64 (yk : IntKind) (y : Int) (h0 : 0 ≤ y) (h : y < 64) : binOp .shr t (.int .u64 (iv64 a)) (.int yk y) = pure (.int .u64 (iv64 (shr64 a y.toNat))) := by
  obtain ⟨n, rfl⟩ := Int.eq_ofNat_of_zero_le h0
  rw [binOp_shr, shift_shr_u64 _ _ _ (by omega) (by omega), Int.toNat_natCast]
  simp only [iv64, shr64, BitVec.toNat_ushiftRight, Nat.shiftRight_eq_div_pow]
  simp
@[go_sem high] theorem op_eql64 : binOp .eql t (.int .u64 (iv64 a)) (.int .u64 (iv64 b)) = pure (.bool (a == b)) := by
  rw [binOp_eql]
  have : (iv64 a == iv64 b) = (a == b) := by rw [Bool.eq_iff_iff, beq_iff_eq, beq_iff_eq, iv64_inj]
  rw [this]
@[go_sem high] theorem op_eqz64 : binOp .eql t (.int .u64 (iv64 a)) (.int .u64 0) = pure (.bool (a == 0)) := op_eql64 t a 0
@[go_sem high] theorem op_nez64 : binOp .neq t (.int .u64 (iv64 a)) (.int .u64 0) = pure (.bool (!(a == 0))) := by
  rw [binOp_neq]
  have : (iv64 a == 0) = (a == 0) := by
    have h := @iv64_inj a 0
    rw [Bool.eq_iff_iff, beq_iff_eq, beq_iff_eq, ← h]; rfl
  show pure (Value.bool (!(iv64 a == 0))) = _
  rw [this]
end

/-! Principals. -/
def hasB (a : BitVec 64) (k : Nat) : Bool := a.getLsbD k
theorem has_mod (a : BitVec 64) (k : Nat) : (iv64 (shr64 a k) % 2 == 1) = hasB a k := by
  have h : (shr64 a k).toNat = a.toNat / 2 ^ k := by simp [shr64, Nat.shiftRight_eq_div_pow]
  have h2 : hasB a k = a.toNat.testBit k := rfl
  have h3 : a.toNat.testBit k = decide (a.toNat / 2 ^ k % 2 = 1) := Nat.testBit_eq_decide_div_mod_eq
  rw [h2, h3]
  unfold iv64
  rw [h, Bool.eq_iff_iff, beq_iff_eq, decide_eq_true_eq]
  omega
def memL (a : BitVec 64) : List Nat := (List.range 64).filter (hasB a)
theorem mem_lt {a : BitVec 64} {k : Nat} (h : k ∈ memL a) : k < 64 := List.mem_range.1 (List.mem_filter.1 h).1
theorem mem_len (a : BitVec 64) : (memL a).length ≤ 64 := by
  have := List.length_filter_le (hasB a) (List.range 64)
  rw [List.length_range] at this
  exact this
theorem filter_first (k0 : Nat) (p q : Nat → Bool) (h1 : ∀ j < k0, p j = false) (h2 : p k0 = true) (h3 : q k0 = false) (h4 : ∀ j < k0, q j = false) : ∀ n, k0 < n → (∀ j, k0 < j → j < n → p j = q j) → (List.range n).filter p = k0 :: (List.range n).filter q
  | 0, hk, _ => by omega
  | n + 1, hk, h5 => by
    rw [List.range_succ, List.filter_append, List.filter_append]
    by_cases e : k0 = n
    · subst e
      have e1 : (List.range k0).filter p = [] := List.filter_eq_nil_iff.2 fun j hj => by rw [h1 j (List.mem_range.1 hj)]; decide
      have e2 : (List.range k0).filter q = [] := List.filter_eq_nil_iff.2 fun j hj => by rw [h4 j (List.mem_range.1 hj)]; decide
      rw [e1, e2]
      simp [h2, h3]
    · rw [filter_first k0 p q h1 h2 h3 h4 n (by omega) (fun j a b => h5 j a (by omega))]
      have := h5 n (by omega) (by omega)
      simp [List.filter_cons, this]
/-- The next one: the lowest bit, and what is left. -/
def ctzB (a : BitVec 64) : Nat := Lib.ctz 64 a.toNat
def restB (a : BitVec 64) : BitVec 64 := and64 a (dec64 a)
theorem low_split (a : BitVec 64) (h : a ≠ 0) : ∃ m, a.toNat = 2 ^ ctzB a * (2 * m + 1) ∧ ctzB a < 64 := by
  have h0 : a.toNat ≠ 0 := fun e => h (BitVec.eq_of_toNat_eq (by simpa using e))
  obtain ⟨m, hm, hk⟩ := Lib.ctzFrom_spec 64 a.toNat (by omega) (by simpa using a.isLt)
  have e : ctzB a = Lib.ctzFrom 64 a.toNat := by simp [ctzB, Lib.ctz, h0]
  rw [e]
  exact ⟨m, hm, hk⟩
theorem mem_step (a : BitVec 64) (h : a ≠ 0) : memL a = ctzB a :: memL (restB a) := by
  obtain ⟨m, hm, hk⟩ := low_split a h
  generalize ctzB a = k at hm hk
  have hp : 0 < 2 ^ k := Nat.two_pow_pos k
  have hbit : ∀ j, a.toNat.testBit j = if j < k then false else (2 * m + 1).testBit (j - k) := fun j => by
    have := Nat.testBit_two_pow_mul_add (2 * m + 1) hp j
    rw [Nat.add_zero] at this
    rw [hm, this]
    simp
  have hd : (dec64 a).toNat = 2 ^ k * (2 * m) + (2 ^ k - 1) := by
    have h1 : 1 ≤ a.toNat := by rw [hm]; exact Nat.mul_pos hp (by omega)
    have : (dec64 a).toNat = a.toNat - 1 := by
      unfold dec64
      rw [BitVec.toNat_sub_of_le (by rw [BitVec.le_def]; simpa using h1)]
      simp
    rw [this, hm, Nat.mul_add, Nat.mul_one]
    omega
  have hbd : ∀ j, (dec64 a).toNat.testBit j = if j < k then (2 ^ k - 1).testBit j else (2 * m).testBit (j - k) := fun j => by
    rw [hd]
    exact Nat.testBit_two_pow_mul_add (2 * m) (by omega) j
  have hr : ∀ j, hasB (restB a) j = (hasB a j && (dec64 a).toNat.testBit j) := fun j => by
    unfold hasB restB and64
    rw [BitVec.getLsbD_and]; rfl
  have ha : ∀ j, hasB a j = a.toNat.testBit j := fun _ => rfl
  refine filter_first k (hasB a) (hasB (restB a)) (fun j hj => ?_) ?_ ?_ (fun j hj => ?_) 64 hk (fun j hj h64 => ?_)
  · rw [ha, hbit, if_pos hj]
  · rw [ha, hbit, if_neg (by omega), Nat.sub_self, Nat.testBit_zero]; simp
  · rw [hr, hbd, if_neg (by omega), Nat.sub_self, Nat.testBit_zero]; simp
  · rw [hr, ha, hbit, if_pos hj]; rfl
  · rw [hr, ha, hbit, hbd, if_neg (by omega), if_neg (by omega)]
    obtain ⟨d, hd⟩ : ∃ d, j - k = d + 1 := ⟨j - k - 1, by omega⟩
    rw [hd, Nat.testBit_succ, Nat.testBit_succ, show (2 * m + 1) / 2 = m by omega, show (2 * m) / 2 = m by omega, Bool.and_self]
theorem mem_zero : memL 0 = [] := by decide
theorem mem_nil {a : BitVec 64} (h : memL a = []) : a = 0 := by
  by_cases e : a = 0
  · exact e
  · rw [mem_step a e] at h; cases h
/-- What is left behind i of them. -/
def leftB (a : BitVec 64) : Nat → BitVec 64
  | 0 => a
  | i + 1 => restB (leftB a i)
theorem left_mem (a : BitVec 64) : ∀ i, i ≤ (memL a).length → memL (leftB a i) = (memL a).drop i
  | 0, _ => rfl
  | i + 1, h => by
    have ih := left_mem a i (by omega)
    have hne : leftB a i ≠ 0 := fun e => by
      rw [e, mem_zero] at ih
      have := congrArg List.length ih
      simp at this
      omega
    rw [mem_step _ hne] at ih
    show memL (restB (leftB a i)) = _
    have := congrArg List.tail ih
    simpa using this
theorem left_get (a : BitVec 64) (i : Nat) (h : i < (memL a).length) : leftB a i ≠ 0 ∧ ctzB (leftB a i) = (memL a)[i] := by
  have ih := left_mem a i (by omega)
  have hne : leftB a i ≠ 0 := fun e => by
    rw [e, mem_zero] at ih
    have := congrArg List.length ih
    simp at this
    omega
  refine ⟨hne, ?_⟩
  rw [mem_step _ hne] at ih
  have := congrArg (·[0]?) ih
  simpa [h] using this
theorem left_end (a : BitVec 64) : leftB a (memL a).length = 0 := mem_nil (by rw [left_mem a _ (Nat.le_refl _), List.drop_length])

/-! Texts. -/
def textL (a : BitVec 64) : List UInt8 := if memL a = [] then [45] else Lib.join ((memL a).map Lib.decDigits) [44]
theorem dec_lo (k : Nat) (h : k < 10) : Lib.decDigits k = [UInt8.ofNat (48 + k)] := by rw [Lib.decDigits, dif_pos h]
theorem dec_hi (k : Nat) (h : 10 ≤ k) (h2 : k < 100) : Lib.decDigits k = [UInt8.ofNat (48 + k / 10), UInt8.ofNat (48 + k % 10)] := by
  rw [Lib.decDigits, dif_neg (by omega), dec_lo (k / 10) (by omega)]; rfl
theorem u8_nat (k : Nat) (h : k < 100) : (UInt8.ofNat (48 + k)).toNat = 48 + k := by
  rw [UInt8.toNat_ofNat']; omega
abbrev PSt := Option (BitVec 64 × Nat)
def pStep (s : PSt) (c : UInt8) : PSt := s.bind fun (a, n) =>
  if c.toNat = 44 then (if 63 < n then none else some (or64 a (bit64 n), 0)) else if 48 ≤ c.toNat ∧ c.toNat ≤ 57 ∧ n < 64 then some (a, 10 * n + (c.toNat - 48)) else none
def pRun (s : PSt) (l : List UInt8) : PSt := l.foldl pStep s
abbrev RSt := Option (BitVec 64 × Nat × Nat)
def rStep (s : RSt) (c : UInt8) : RSt := s.bind fun (a, n, m) =>
  if c.toNat = 44 then (if m = 0 ∨ 63 < n then none else some (or64 a (bit64 n), 0, 0)) else if c.toNat < 48 ∨ 57 < c.toNat ∨ m = 2 then none else some (a, 10 * n + (c.toNat - 48), m + 1)
def rRun (s : RSt) (l : List UInt8) : RSt := l.foldl rStep s
theorem pRun_none (l : List UInt8) : pRun none l = none := by induction l with | nil => rfl | cons c l ih => exact ih
theorem rRun_none (l : List UInt8) : rRun none l = none := by induction l with | nil => rfl | cons c l ih => exact ih
theorem pRun_app (s : PSt) (l l' : List UInt8) : pRun s (l ++ l') = pRun (pRun s l) l' := List.foldl_append
theorem rRun_app (s : RSt) (l l' : List UInt8) : rRun s (l ++ l') = rRun (rRun s l) l' := List.foldl_append
theorem pRun_num (a : BitVec 64) (k : Nat) (h : k < 64) : pRun (some (a, 0)) (Lib.decDigits k ++ [44]) = some (or64 a (bit64 k), 0) := by
  have e44 : (44 : UInt8).toNat = 44 := rfl
  by_cases hk : k < 10
  · rw [dec_lo k hk]
    show pStep (pStep (some (a, 0)) (UInt8.ofNat (48 + k))) 44 = _
    have e1 : pStep (some (a, 0)) (UInt8.ofNat (48 + k)) = some (a, k) := by
      simp only [pStep, Option.bind_some, u8_nat k (by omega)]
      rw [if_neg (by omega), if_pos (by omega)]; congr 2; omega
    rw [e1]
    simp only [pStep, Option.bind_some, e44]
    rw [if_pos trivial, if_neg (by omega)]
  · rw [dec_hi k (by omega) (by omega)]
    show pStep (pStep (pStep (some (a, 0)) (UInt8.ofNat (48 + k / 10))) (UInt8.ofNat (48 + k % 10))) 44 = _
    have e1 : pStep (some (a, 0)) (UInt8.ofNat (48 + k / 10)) = some (a, k / 10) := by
      simp only [pStep, Option.bind_some, u8_nat (k / 10) (by omega)]
      rw [if_neg (by omega), if_pos (by omega)]; congr 2; omega
    have e2 : pStep (some (a, k / 10)) (UInt8.ofNat (48 + k % 10)) = some (a, k) := by
      simp only [pStep, Option.bind_some, u8_nat (k % 10) (by omega)]
      rw [if_neg (by omega), if_pos (by omega)]; congr 2; omega
    rw [e1, e2]
    simp only [pStep, Option.bind_some, e44]
    rw [if_pos trivial, if_neg (by omega)]
theorem rRun_num (a : BitVec 64) (k : Nat) (h : k < 64) : rRun (some (a, 0, 0)) (Lib.decDigits k ++ [44]) = some (or64 a (bit64 k), 0, 0) := by
  have e44 : (44 : UInt8).toNat = 44 := rfl
  by_cases hk : k < 10
  · rw [dec_lo k hk]
    show rStep (rStep (some (a, 0, 0)) (UInt8.ofNat (48 + k))) 44 = _
    have e1 : rStep (some (a, 0, 0)) (UInt8.ofNat (48 + k)) = some (a, k, 1) := by
      simp only [rStep, Option.bind_some, u8_nat k (by omega)]
      rw [if_neg (by omega), if_neg (by omega)]; congr 3; omega
    rw [e1]
    simp only [rStep, Option.bind_some, e44]
    rw [if_pos trivial, if_neg (by omega)]
  · rw [dec_hi k (by omega) (by omega)]
    show rStep (rStep (rStep (some (a, 0, 0)) (UInt8.ofNat (48 + k / 10))) (UInt8.ofNat (48 + k % 10))) 44 = _
    have e1 : rStep (some (a, 0, 0)) (UInt8.ofNat (48 + k / 10)) = some (a, k / 10, 1) := by
      simp only [rStep, Option.bind_some, u8_nat (k / 10) (by omega)]
      rw [if_neg (by omega), if_neg (by omega)]; congr 3; omega
    have e2 : rStep (some (a, k / 10, 1)) (UInt8.ofNat (48 + k % 10)) = some (a, k, 2) := by
      simp only [rStep, Option.bind_some, u8_nat (k % 10) (by omega)]
      rw [if_neg (by omega), if_neg (by omega)]; congr 3; omega
    rw [e1, e2]
    simp only [rStep, Option.bind_some, e44]
    rw [if_pos trivial, if_neg (by omega)]
theorem join_end (x : List UInt8) : ∀ r : List (List UInt8), Lib.join (x :: r) [44] ++ [44] = (x :: r).flatMap (· ++ [44])
  | [] => by rw [Lib.join_one]; simp
  | y :: r => by
    have ih := join_end y r
    rw [List.flatMap_cons, ← ih, Lib.join_cons, Lib.join_cons]
    simp [Lib.joinTail]
def orL (l : List Nat) (a : BitVec 64) : BitVec 64 := l.foldl (fun x k => or64 x (bit64 k)) a
theorem pRun_mem : ∀ (l : List Nat) (a : BitVec 64), (∀ k ∈ l, k < 64) → pRun (some (a, 0)) ((l.map Lib.decDigits).flatMap (· ++ [44])) = some (orL l a, 0)
  | [], _, _ => rfl
  | k :: l, a, h => by
    rw [List.map_cons, List.flatMap_cons, pRun_app, pRun_num a k (h k (by simp)), pRun_mem l _ fun j hj => h j (by simp [hj])]
    rfl
theorem rRun_mem : ∀ (l : List Nat) (a : BitVec 64), (∀ k ∈ l, k < 64) → rRun (some (a, 0, 0)) ((l.map Lib.decDigits).flatMap (· ++ [44])) = some (orL l a, 0, 0)
  | [], _, _ => rfl
  | k :: l, a, h => by
    rw [List.map_cons, List.flatMap_cons, rRun_app, rRun_num a k (h k (by simp)), rRun_mem l _ fun j hj => h j (by simp [hj])]
    rfl
theorem bit_get (k j : Nat) (hj : j < 64) : (bit64 k).getLsbD j = decide (j = k) := by
  unfold bit64
  rw [BitVec.getLsbD_shiftLeft]
  by_cases h : j = k
  · subst h; simp [hj]
  · rw [decide_eq_false h]
    by_cases h2 : j < k
    · simp [h2]
    · have h3 : (1#64).getLsbD (j - k) = false := by
        show (1 % 2 ^ 64).testBit (j - k) = false
        obtain ⟨d, hd⟩ : ∃ d, j - k = d + 1 := ⟨j - k - 1, by omega⟩
        rw [hd, show 1 % 2 ^ 64 = 1 by decide, Nat.testBit_succ]
        simp
      rw [h3]; simp
theorem orL_get (j : Nat) (hj : j < 64) : ∀ (l : List Nat) (a : BitVec 64), (orL l a).getLsbD j = (a.getLsbD j || decide (j ∈ l))
  | [], a => by simp [orL]
  | k :: l, a => by
    show (orL l (or64 a (bit64 k))).getLsbD j = _
    rw [orL_get j hj l, or64, BitVec.getLsbD_or, bit_get k j hj, Bool.or_assoc]
    congr 1
    rw [Bool.eq_iff_iff]
    simp
theorem orL_mem (a : BitVec 64) : orL (memL a) 0 = a := by
  apply BitVec.eq_of_getLsbD_eq
  intro j hj
  rw [orL_get j hj]
  simp [memL, hj, hasB]
theorem text_end (a : BitVec 64) (h : a ≠ 0) : textL a ++ [44] = ((memL a).map Lib.decDigits).flatMap (· ++ [44]) := by
  unfold textL
  rw [mem_step a h, if_neg (by simp), List.map_cons, join_end]
theorem pRun_text (a : BitVec 64) (h : a ≠ 0) : pRun (some (0, 0)) (textL a ++ [44]) = some (a, 0) := by
  rw [text_end a h, pRun_mem _ _ fun k hk => mem_lt hk, orL_mem]
theorem rRun_text (a : BitVec 64) (h : a ≠ 0) : rRun (some (0, 0, 0)) (textL a ++ [44]) = some (a, 0, 0) := by
  rw [text_end a h, rRun_mem _ _ fun k hk => mem_lt hk, orL_mem]
theorem text_zero : textL 0 = [45] := by unfold textL; rw [mem_zero, if_pos rfl]
theorem text_dash {a : BitVec 64} (h : textL a = [45]) : a = 0 := by
  by_cases e : a = 0
  · exact e
  · have := pRun_text a e
    rw [h] at this
    cases this
theorem text_inj {a b : BitVec 64} (h : textL a = textL b) : a = b := by
  by_cases e : a = 0
  · subst e
    rw [text_zero] at h
    exact (text_dash h.symm).symm
  · have ha := pRun_text a e
    by_cases e2 : b = 0
    · subst e2
      rw [text_zero] at h
      exact absurd (text_dash h) e
    · have hb := pRun_text b e2
      rw [h, hb] at ha
      injection ha with ha
      injection ha with ha
      exact ha.symm
def parseP (s : List UInt8) : Option (BitVec 64) :=
  if s = [45] then some 0 else (pRun (some (0, 0)) (s ++ [44])).bind fun p => if textL p.1 = s then some p.1 else none
def parseR (s : List UInt8) : Option (BitVec 64) :=
  if s = [45] then some 0 else (rRun (some (0, 0, 0)) (s ++ [44])).bind fun p => if textL p.1 = s then some p.1 else none
theorem parseP_text (a : BitVec 64) : parseP (textL a) = some a := by
  unfold parseP
  by_cases h : textL a = [45]
  · rw [if_pos h, text_dash h]
  · have e : a ≠ 0 := fun e => h (by rw [e, text_zero])
    rw [if_neg h, pRun_text a e, Option.bind_some, if_pos rfl]
theorem parseR_text (a : BitVec 64) : parseR (textL a) = some a := by
  unfold parseR
  by_cases h : textL a = [45]
  · rw [if_pos h, text_dash h]
  · have e : a ≠ 0 := fun e => h (by rw [e, text_zero])
    rw [if_neg h, rRun_text a e, Option.bind_some, if_pos rfl]
theorem parse_sound {s : List UInt8} {a : BitVec 64} (h : parseP s = some a) : textL a = s := by
  unfold parseP at h
  by_cases e : s = [45]
  · rw [if_pos e] at h; injection h with h; rw [← h, text_zero, e]
  · rw [if_neg e] at h
    obtain ⟨p, -, hp⟩ := Option.bind_eq_some_iff.1 h
    by_cases e2 : textL p.1 = s
    · rw [if_pos e2] at hp; injection hp with hp; rw [← hp, e2]
    · rw [if_neg e2] at hp; cases hp
theorem parseR_sound {s : List UInt8} {a : BitVec 64} (h : parseR s = some a) : textL a = s := by
  unfold parseR at h
  by_cases e : s = [45]
  · rw [if_pos e] at h; injection h with h; rw [← h, text_zero, e]
  · rw [if_neg e] at h
    obtain ⟨p, -, hp⟩ := Option.bind_eq_some_iff.1 h
    by_cases e2 : textL p.1 = s
    · rw [if_pos e2] at hp; injection hp with hp; rw [← hp, e2]
    · rw [if_neg e2] at hp; cases hp
theorem parse_eq (s : List UInt8) : parseP s = parseR s := by
  cases h : parseP s with
  | some a => rw [← parse_sound h, parseR_text]
  | none =>
    cases h2 : parseR s with
    | none => rfl
    | some a => rw [← parseR_sound h2, parseP_text] at h; cases h

/-! Order. -/
def belowB (a b : BitVec 64) : Bool := andn64 a b == 0
theorem below_iff (a b : BitVec 64) : belowB a b = true ↔ ∀ k, k < 64 → hasB a k = true → hasB b k = true := by
  unfold belowB andn64 hasB
  rw [beq_iff_eq]
  constructor
  · intro h k hk ha
    have := congrArg (·.getLsbD k) h
    simp only [BitVec.getLsbD_and, BitVec.getLsbD_not, ha] at this
    simpa [hk] using this
  · intro h
    apply BitVec.eq_of_getLsbD_eq
    intro k hk
    simp only [BitVec.getLsbD_and, BitVec.getLsbD_not]
    cases ha : a.getLsbD k with
    | false => simp
    | true => simp [hk, h k hk ha]
theorem has_or (a b : BitVec 64) (k : Nat) : hasB (or64 a b) k = (hasB a k || hasB b k) := BitVec.getLsbD_or
theorem has_and (a b : BitVec 64) (k : Nat) : hasB (and64 a b) k = (hasB a k && hasB b k) := BitVec.getLsbD_and
end Go.Proofs.YtijkdabmegbcjaaDoor
namespace Go.Proofs.YtijkdabmegbcjaaDoor
open Go.RowKit

def RowV (w : World) (a : Option Addr) (vs : List Value) : Prop := ∀ i (h : i < vs.length), ∃ b o, a = some ⟨b, o, none⟩ ∧ w.cell? ⟨b, o + i, none⟩ = some vs[i]
theorem RowV.below {w w' : World} {a : Option Addr} {vs : List Value} (h : RowV w a vs) (hb : Below w.heap.size w w') : RowV w' a vs := fun i hi => by
  obtain ⟨b, o, h1, h2⟩ := h i hi
  exact ⟨b, o, h1, cbel hb h2⟩
theorem RowV.nil {w : World} {a : Option Addr} : RowV w a [] := fun i hi => absurd hi (by simp)
theorem RowAt.vals {q : IntKind} {w : World} {a : Option Addr} {zs : List Int} (h : RowAt q w a zs) : RowV w a (zs.map (Value.int q)) := fun i hi => by
  obtain ⟨b, o, h1, h2⟩ := h i (by simpa using hi)
  exact ⟨b, o, h1, by rw [h2]; simp⟩
theorem RowV.ints {q : IntKind} {w : World} {a : Option Addr} {zs : List Int} (h : RowV w a (zs.map (Value.int q))) : RowAt q w a zs := fun i hi => by
  obtain ⟨b, o, h1, h2⟩ := h i (by simpa using hi)
  exact ⟨b, o, h1, by rw [h2]; simp⟩
theorem rowV_new (w : World) (T : TypeId) (vs : List Value) : RowV (w.alloc (.cells vs.toArray T)) (some ⟨w.heap.size, 0, none⟩) vs := fun i hi =>
  ⟨_, _, rfl, by rw [Nat.zero_add, cell_of_row _ _ i _ T (0, 0) (World.alloc_heap_new w _)]; simp [hi]⟩
theorem rowV_own {w : World} {base : Nat} {e : TypeId} {size : Nat} {v : Value} {n : Nat} {vs : List Value} (h : w.ownsRow base e size v n vs) :
    ∃ a c, v = .slice a n c ∧ RowV w a vs ∧ (a = none → c = 0) ∧ (∀ x, a = some x → base ≤ x.block) ∧ vs.length = n * size ∧ (n ≠ 0 → a ≠ none) := by
  have hlen := h.1
  rcases h.2 with ⟨rfl, rfl⟩ | ⟨g, cap, cur, rfl, hg, _⟩
  · have : vs = [] := List.length_eq_zero_iff.1 (by simpa using hlen)
    subst this
    exact ⟨none, 0, rfl, RowV.nil, fun _ => rfl, by simp, by simp, by simp⟩
  · refine ⟨_, cap, rfl, fun i hi => ⟨g, 0, rfl, ?_⟩, by simp, by rintro x ⟨⟩; exact hg, hlen, by simp⟩
    have := h.cellAt i (by omega)
    simpa [List.getElem?_eq_getElem hi] using this

theorem run_append_vals {P : Program} (w : World) (base : Nat) (t ty e : TypeId) (i : TypeInfo) (z : Value) (size bytes : Nat) (ht : P.underlying t = some (.slice e)) (hi : P.info? e = some i) (hz : i.zero = some z)
    (hsize : i.size = size) (hby : i.bytes = bytes) (hzs : z.cells.size = size) (hsz : 0 < size) (v : Value) (n : Nat) (xs : List Value) (hown : w.ownsRow base e size v n xs)
    (a : Option Addr) (m c : Nat) (hn : a = none → m = 0 ∧ c = 0) (vs : List Value) (hl : vs.length = m * size) (hr : RowV w a vs) (h1 : ∀ u ∈ vs, u.oneCell' = true) (h63 : n + m ≤ maxLen) (hbytes : (n + m) * bytes ≤ 140737488355328) (hbase : base ≤ w.heap.size) :
    ∃ v' w', (Builtin.append_ #[t, t] ty #[v, .slice a m c]).run P w = .ok v' w' ∧ w'.ownsRow base e size v' (n + m) (xs ++ vs) ∧ w.grownBy w' v.ownBlock := by
  cases a with
  | none =>
    obtain ⟨rfl, rfl⟩ := hn rfl
    have h0 : vs = [] := List.length_eq_zero_iff.1 (by simpa using hl)
    subst h0
    exact ⟨v, w, run_append_owned_none w base t ty e i size ht hi v n xs hown, by simpa using hown, World.grownBy.refl _ _⟩
  | some x =>
    obtain ⟨v', w', h1, h2, h3, _⟩ := run_append_own (P := P) (w := w) base t ty e i z size bytes ht hi hz hsize hby hzs hsz v n xs hown x m c vs hl (by
      intro j u hj
      obtain ⟨hlt, rfl⟩ := List.getElem?_eq_some_iff.1 hj
      obtain ⟨b, o, h1, h2⟩ := hr j hlt
      cases h1
      rw [Addr.add_lit]
      exact h2) h1 h63 hbytes hbase
    exact ⟨v', w', h1, h2, h3⟩
theorem wpList_append_vals {P : Program} (w : World) {ops : Array Oper} {rest : List Oper} {o : Oper} {ac : Act} {Q : Exit → Act → World → Prop} (hgd : o.guard = none) (s x : Operand) (t : TypeId)
    (ho : o.op = .call { callee := .builtin .append, args := #[s, x], argTypes := #[t, t] })
    (base e : TypeId) (i : TypeInfo) (z : Value) (size bytes : Nat) (ht : P.underlying t = some (.slice e)) (hi : P.info? e = some i) (hz : i.zero = some z)
    (hsize : i.size = size) (hby : i.bytes = bytes) (hzs : z.cells.size = size) (hsz : 0 < size) (v : Value) (n : Nat) (xs : List Value) (hs : ac.eval s = v) (hown : w.ownsRow base e size v n xs)
    (a : Option Addr) (m c : Nat) (vs : List Value) (hx : ac.eval x = .slice a m c) (hn : a = none → m = 0 ∧ c = 0) (hl : vs.length = m * size) (hr : RowV w a vs) (h1 : ∀ u ∈ vs, u.oneCell' = true) (h63 : n + m ≤ maxLen) (hbytes : (n + m) * bytes ≤ 140737488355328) (hbase : base ≤ w.heap.size)
    (h : ∀ v' w', w'.ownsRow base e size v' (n + m) (xs ++ vs) → w.grownBy w' v.ownBlock → wpList P ops Q rest (ac.put o.dst v') w') : wpList P ops Q (o :: rest) ac w := by
  obtain ⟨v', w', h1, h2, h3⟩ := run_append_vals (P := P) w base t o.type e i z size bytes ht hi hz hsize hby hzs hsz v n xs hown a m c hn vs hl hr h1 h63 hbytes hbase
  exact Lib.wpList_append_run w hgd s x t t ho _ _ hs hx v' w' h1 (h v' w' h2 h3)
theorem wp_append_vals {P : Program} (w : World) {o : Oper} {ac : Act} {K : Act → World → Prop} {Q : Exit → Act → World → Prop} (s x : Operand) (t : TypeId)
    (ho : o.op = .call { callee := .builtin .append, args := #[s, x], argTypes := #[t, t] })
    (base e : TypeId) (i : TypeInfo) (z : Value) (size bytes : Nat) (ht : P.underlying t = some (.slice e)) (hi : P.info? e = some i) (hz : i.zero = some z)
    (hsize : i.size = size) (hby : i.bytes = bytes) (hzs : z.cells.size = size) (hsz : 0 < size) (v : Value) (n : Nat) (xs : List Value) (hs : ac.eval s = v) (hown : w.ownsRow base e size v n xs)
    (a : Option Addr) (m c : Nat) (vs : List Value) (hx : ac.eval x = .slice a m c) (hn : a = none → m = 0 ∧ c = 0) (hl : vs.length = m * size) (hr : RowV w a vs) (h1 : ∀ u ∈ vs, u.oneCell' = true) (h63 : n + m ≤ maxLen) (hbytes : (n + m) * bytes ≤ 140737488355328) (hbase : base ≤ w.heap.size)
    (h : ∀ v' w', w'.ownsRow base e size v' (n + m) (xs ++ vs) → w.grownBy w' v.ownBlock → K (ac.put o.dst v') w') : o.wp P ac w K Q := by
  obtain ⟨v', w', h1, h2, h3⟩ := run_append_vals (P := P) w base t o.type e i z size bytes ht hi hz hsize hby hzs hsz v n xs hown a m c hn vs hl hr h1 h63 hbytes hbase
  exact Lib.wp_append_run w s x t t ho _ _ hs hx v' w' h1 (h v' w' h2 h3)

/-- make([]T, n) for integers. -/
theorem run_mk_ints {P : Program} (t e : TypeId) (i : TypeInfo) (q : IntKind) (bytes : Nat) (ht : P.underlying t = some (.slice e)) (hi : P.info? e = some i) (hz : i.zero = some (.int q 0)) (hsize : i.size = 1) (hby : i.bytes = bytes)
    (n : Nat) (z : Int) (hzn : z = n) (hb : bytes * n ≤ 281474976710656) (h63 : n ≤ 9223372036854775807) (W : World) :
    (Instr.makeSlice t (.int .i64 z) (.int .i64 z)).run P W = .ok (.slice (some ⟨W.heap.size, 0, none⟩) n n) (W.alloc (.cells ((List.replicate n (0 : Int)).map (Value.int q)).toArray e)) := by
  subst hzn
  subst hby
  have hb' : (i.bytes : Int) * (n : Int) ≤ 281474976710656 := by
    have h : ((i.bytes * n : Nat) : Int) ≤ 281474976710656 := by omega
    rwa [Int.natCast_mul] at h
  rw [run_make (P := P) W t e i _ ht hi hz .i64 .i64 n n (by omega) (Int.le_refl _) hb' (by omega)]
  simp only [Int.toNat_natCast, hsize, Nat.mul_one]
  have e1 : madeCells (Value.int q 0).cells n = ((List.replicate n (0 : Int)).map (Value.int q)).toArray := by
    apply Array.ext
    · simp [madeCells]
    · intro j h1 h2
      simp [madeCells, Value.cells, Nat.mod_one]
  rw [e1]
end Go.Proofs.YtijkdabmegbcjaaDoor
namespace Go.Proofs.YtijkdabmegbcjaaDoor
open Go.RowKit

def BlkG (w : World) (b : Nat) (T : TypeId) (vs : List Value) : Prop := w.heap[b]? = some (.cells vs.toArray T (0, 0))
section
variable {w w' : World} {b : Nat} {T : TypeId} {vs : List Value}
theorem BlkG.lt (h : BlkG w b T vs) : b < w.heap.size := (Array.getElem?_eq_some_iff.1 h).1
theorem BlkG.cell (h : BlkG w b T vs) (i : Nat) (hi : i < vs.length) : w.cell? ⟨b, i, none⟩ = some vs[i] := by
  rw [cell_of_row w b i _ T (0, 0) h]; simp [hi]
theorem BlkG.free (h : BlkG w b T vs) (i : Nat) : w.frozen? ⟨b, i, none⟩ = false := frozen_of_row w b i _ T h
theorem BlkG.only {O : Nat → Prop} (h : BlkG w b T vs) (ho : Only O w w') (hb : ¬ O b) : BlkG w' b T vs := (ho.same b h.lt hb).trans h
theorem BlkG.below (h : BlkG w b T vs) (hb : Below w.heap.size w w') : BlkG w' b T vs := (hb.block b h.lt).trans h
theorem BlkG.alloc (h : BlkG w b T vs) (o : Obj) : BlkG (w.alloc o) b T vs := (Below.heap_alloc w o b h.lt).trans h
theorem BlkG.oth (h : BlkG w b T vs) {c i : Nat} (v : Value) (hb : b ≠ c) : BlkG (w.setCell ⟨c, i, none⟩ v) b T vs := (heap_setCell_other w ⟨c, i, none⟩ b v hb).trans h
theorem BlkG.set (h : BlkG w b T vs) (i : Nat) (v : Value) : BlkG (w.setCell ⟨b, i, none⟩ v) b T (vs.set i v) := by
  unfold BlkG at *
  rw [heap_setCell_same w b i _ T _ h]
  congr 2
  apply Array.ext'
  simp
theorem BlkG.new (w : World) (T : TypeId) (vs : List Value) : BlkG (w.alloc (.cells vs.toArray T)) w.heap.size T vs := World.alloc_heap_new w _
theorem BlkG.there (h : BlkG w b T vs) : w.there b 0 vs.length := fun j hj => ⟨by rw [Nat.zero_add, h.cell j hj]; rfl, by rw [Nat.zero_add]; exact h.free j⟩
end
theorem wp_load_blkG {P : Program} {o : Oper} {a : Act} {w : World} {K : Act → World → Prop} {Q : Exit → Act → World → Prop} (ty : TypeId) (x : Operand) (ho : o.op = .load ty x)
    (b : Nat) (hx : a.eval x = .pointer (some ⟨b, 0, none⟩)) (T : TypeId) (vs : List Value) (d : TypeDesc) (hB : BlkG w b T vs) (hu : P.underlying ty = some d) (hd : (match d with | .struct _ | .array _ _ => true | _ => false) = true) (hi : (P.info? ty).map (·.size) = some vs.length)
    (h : K (a.put o.dst (.agg vs.toArray)) w) : o.wp P a w K Q := wp_load_row ty x ho b hx T _ (0, 0) d hB hu hd (by simpa using hi) h
theorem wpList_load_blkG {P : Program} {ops : Array Oper} {rest : List Oper} {o : Oper} {a : Act} {w : World} {Q : Exit → Act → World → Prop} (hgd : o.guard = none) (ty : TypeId) (x : Operand) (ho : o.op = .load ty x)
    (b : Nat) (hx : a.eval x = .pointer (some ⟨b, 0, none⟩)) (T : TypeId) (vs : List Value) (d : TypeDesc) (hB : BlkG w b T vs) (hu : P.underlying ty = some d) (hd : (match d with | .struct _ | .array _ _ => true | _ => false) = true) (hi : (P.info? ty).map (·.size) = some vs.length)
    (h : wpList P ops Q rest (a.put o.dst (.agg vs.toArray)) w) : wpList P ops Q (o :: rest) a w := wpList_load_row hgd ty x ho b hx T _ (0, 0) d hB hu hd (by simpa using hi) h
theorem wp_store_blkG {P : Program} {o : Oper} {a : Act} {w : World} {K : Act → World → Prop} {Q : Exit → Act → World → Prop} (ty : TypeId) (x y : Operand) (ho : o.op = .store ty x y)
    (b : Nat) (hx : a.eval x = .pointer (some ⟨b, 0, none⟩)) (T : TypeId) (vs vs' : List Value) (hB : BlkG w b T vs) (hy : a.eval y = .agg vs'.toArray) (hl : vs'.length = vs.length) (hi : (P.info? ty).map (·.size) = some vs'.length) (h1 : vs'.all (·.oneCell') = true)
    (h : ∀ w', BlkG w' b T vs' → Only (· = b) w w' → K (a.put o.dst undef) w') : o.wp P a w K Q := by
  refine wp_store_mid ty x y ho b 0 _ hx hy (by simpa [hl] using hB.there) (by simpa using hi) (by simpa using h1) (h _ ?_ (setCells_only _ _ _ _))
  have := setCells_blk b T vs' [] vs w (by simpa [BlkG] using hB) (by simp [hl])
  simpa [BlkG] using this
theorem wpList_store_blkG {P : Program} {ops : Array Oper} {rest : List Oper} {o : Oper} {a : Act} {w : World} {Q : Exit → Act → World → Prop} (hgd : o.guard = none) (ty : TypeId) (x y : Operand) (ho : o.op = .store ty x y)
    (b : Nat) (hx : a.eval x = .pointer (some ⟨b, 0, none⟩)) (T : TypeId) (vs vs' : List Value) (hB : BlkG w b T vs) (hy : a.eval y = .agg vs'.toArray) (hl : vs'.length = vs.length) (hi : (P.info? ty).map (·.size) = some vs'.length) (h1 : vs'.all (·.oneCell') = true)
    (h : ∀ w', BlkG w' b T vs' → Only (· = b) w w' → wpList P ops Q rest (a.put o.dst undef) w') : wpList P ops Q (o :: rest) a w :=
  wpList_plain hgd fun _ hK => wp_store_blkG ty x y ho b hx T vs vs' hB hy hl hi h1 fun w' h1 h2 => hK _ _ (h w' h1 h2)
theorem results_blkG {P : Program} {fn : Func} {p : Tmp} {ty : TypeId} (h : fn.results = #[.cell p ty]) (tmps : Array Value) (w : World) (b : Nat) (T : TypeId) (vs : List Value) (d : TypeDesc)
    (hp : tmps.getD p undef = .pointer (some ⟨b, 0, none⟩)) (hB : BlkG w b T vs) (hu : P.underlying ty = some d) (hd : (match d with | .struct _ | .array _ _ => true | _ => false) = true) (hi : (P.info? ty).map (·.size) = some vs.length) :
    (results fn tmps).run P w = .ok (.agg vs.toArray) w := results_cell_row h tmps w b T _ (0, 0) d hp hB hu hd (by simpa using hi)
theorem results_blkG2 {P : Program} {fn : Func} {p r : Tmp} {ty : TypeId} (h : fn.results = #[.cell p ty, .tmp r]) (tmps : Array Value) (w : World) (b : Nat) (T : TypeId) (vs : List Value) (d : TypeDesc)
    (hp : tmps.getD p undef = .pointer (some ⟨b, 0, none⟩)) (hB : BlkG w b T vs) (hu : P.underlying ty = some d) (hd : (match d with | .struct _ | .array _ _ => true | _ => false) = true) (hi : (P.info? ty).map (·.size) = some vs.length) :
    (results fn tmps).run P w = .ok (.tuple #[.agg vs.toArray, tmps.getD r undef]) w := by
  have hp' : tmps[p]?.getD undef = .pointer (some ⟨b, 0, none⟩) := by simpa using hp
  simp [results, h, hp', asAddr, run_loadVar_row w b T ty _ (0, 0) d hB hu hd (by simpa using hi), Sem.run_bind]
end Go.Proofs.YtijkdabmegbcjaaDoor
