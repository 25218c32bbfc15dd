/- Plain facts on sums and products of numbers, byte by byte. -/
import Derived.Test.YtfafancacfjodaaWordM
namespace Go.Proofs.Ytfafancacfjodaa
open Go.RowKit

theorem pw (t : Nat) : 0 < 256 ^ t := Nat.pow_pos (by decide)

/-- The bytes of C below t, those of A from t on. -/
def mixL (C A t : Nat) : List Int := (List.range 32).map fun j => if 31 - j < t then (byteAt C (31 - j) : Int) else (byteAt A (31 - j) : Int)
theorem mixL_len (C A t : Nat) : (mixL C A t).length = 32 := by simp [mixL]
theorem mixL_zero (C A : Nat) : mixL C A 0 = bytesL A := by
  unfold mixL bytesL
  refine List.map_congr_left fun j hj => ?_
  rw [if_neg (by omega)]
theorem mixL_all (C A : Nat) : mixL C A 32 = bytesL C := by
  unfold mixL bytesL
  refine List.map_congr_left fun j hj => ?_
  rw [if_pos (by omega)]
theorem mixL_get (C A t : Nat) (h : t < 32) (hl : 31 - t < (mixL C A t).length) : (mixL C A t)[31 - t] = byteAt A t := by
  simp only [mixL, List.getElem_map, List.getElem_range]
  rw [if_neg (by omega), show 31 - (31 - t) = t by omega]
theorem mixL_succ (C C' A t : Nat) (h : t < 32) (hC : ∀ j, j < t → byteAt C' j = byteAt C j) : (mixL C A t).set (31 - t) (byteAt C' t : Int) = mixL C' A (t + 1) := by
  apply List.ext_getElem
  · simp [mixL_len]
  · intro i h1 h2
    have hi : i < 32 := by simpa [mixL_len] using h2
    rw [List.getElem_set]
    simp only [mixL, List.getElem_map, List.getElem_range]
    by_cases e : 31 - t = i
    · subst e
      rw [if_pos rfl, if_pos (by omega), show 31 - (31 - t) = t by omega]
    · rw [if_neg e]
      by_cases c : 31 - i < t
      · rw [if_pos c, if_pos (by omega), hC _ c]
      · rw [if_neg c, if_neg (by omega)]

/-- What is carried into byte t of a sum. -/
def carry (A B t : Nat) : Nat := (A % 256 ^ t + B % 256 ^ t) / 256 ^ t
theorem mod_succ (A t : Nat) : A % 256 ^ (t + 1) = A % 256 ^ t + 256 ^ t * byteAt A t := by
  unfold byteAt
  rw [Nat.pow_succ, Nat.mod_mul]
theorem carry_step (A B t : Nat) : (carry A B t + byteAt A t + byteAt B t) / 256 = carry A B (t + 1) := by
  unfold carry
  rw [mod_succ, mod_succ]
  have hM := pw t
  have e : A % 256 ^ t + 256 ^ t * byteAt A t + (B % 256 ^ t + 256 ^ t * byteAt B t) = (A % 256 ^ t + B % 256 ^ t) + 256 ^ t * (byteAt A t + byteAt B t) := by rw [Nat.mul_add]; omega
  rw [e, Nat.pow_succ, ← Nat.div_div_eq_div_mul, Nat.add_mul_div_left _ _ hM]
  congr 1
  omega
theorem carry_byte (A B t : Nat) : (carry A B t + byteAt A t + byteAt B t) % 256 = byteAt (A + B) t := by
  have hM := pw t
  have hA := Nat.div_add_mod A (256 ^ t)
  have hB := Nat.div_add_mod B (256 ^ t)
  have e : A + B = (A % 256 ^ t + B % 256 ^ t) + 256 ^ t * (A / 256 ^ t + B / 256 ^ t) := by rw [Nat.mul_add]; omega
  unfold carry
  rw [show byteAt (A + B) t = (A + B) / 256 ^ t % 256 from rfl, e, Nat.add_mul_div_left _ _ hM]
  unfold byteAt
  omega
theorem carry_zero (A B : Nat) : carry A B 0 = 0 := by simp [carry, Nat.mod_one]
theorem carry_le (A B t : Nat) : carry A B t ≤ 1 := by
  unfold carry
  have hM := pw t
  have h1 := Nat.mod_lt A hM
  have h2 := Nat.mod_lt B hM
  have : (A % 256 ^ t + B % 256 ^ t) < 2 * 256 ^ t := by omega
  exact Nat.lt_succ_iff.1 ((Nat.div_lt_iff_lt_mul hM).2 this)

/-- A product under way: i bytes of A are done, and k bytes of B in this round. -/
def prodP (A B i k : Nat) : Nat := (A % 256 ^ i * B) % 256 ^ (i + k) + byteAt A i * (B % 256 ^ k) * 256 ^ i
theorem prodP_succ (A B i k : Nat) : prodP A B i (k + 1) = prodP A B i k + 256 ^ (i + k) * (byteAt (A % 256 ^ i * B) (i + k) + byteAt A i * byteAt B k) := by
  unfold prodP
  rw [show i + (k + 1) = (i + k) + 1 by omega, mod_succ, mod_succ]
  generalize (A % 256 ^ i * B) % 256 ^ (i + k) = z
  generalize byteAt (A % 256 ^ i * B) (i + k) = zn
  generalize byteAt A i = a
  generalize byteAt B k = b
  generalize B % 256 ^ k = r
  rw [Nat.pow_add]
  simp only [Nat.mul_add, Nat.add_mul]
  have : a * (256 ^ k * b) * 256 ^ i = 256 ^ i * 256 ^ k * (a * b) := by ac_rfl
  omega
theorem prodP_lt (A B i k : Nat) : prodP A B i k < 256 ^ (i + k) * 256 := by
  unfold prodP
  have h1 := Nat.mod_lt (A % 256 ^ i * B) (pw (i + k))
  have h2 := byteAt_lt A i
  have h3 := Nat.mod_lt B (pw k)
  have h4 : byteAt A i * (B % 256 ^ k) * 256 ^ i ≤ 255 * 256 ^ (i + k) := by
    rw [Nat.pow_add, Nat.mul_comm (256 ^ i), ← Nat.mul_assoc]
    exact Nat.mul_le_mul (Nat.mul_le_mul (by omega) (Nat.le_of_lt h3)) (Nat.le_refl _)
  omega
/-- What is carried within the product. -/
def pcarry (A B i k : Nat) : Nat := prodP A B i k / 256 ^ (i + k)
theorem pcarry_lt (A B i k : Nat) : pcarry A B i k < 256 := (Nat.div_lt_iff_lt_mul (pw _)).2 (by rw [Nat.mul_comm]; exact prodP_lt A B i k)
theorem pcarry_zero (A B i : Nat) : pcarry A B i 0 = 0 := by
  unfold pcarry prodP
  refine Nat.div_eq_of_lt ?_
  simp only [Nat.add_zero, Nat.pow_zero, Nat.mod_one, Nat.mul_zero, Nat.zero_mul]
  exact Nat.mod_lt _ (pw i)
theorem pc_sum (A B i k : Nat) : prodP A B i (k + 1) / 256 ^ (i + k) = pcarry A B i k + byteAt (A % 256 ^ i * B) (i + k) + byteAt A i * byteAt B k := by
  rw [prodP_succ, Nat.add_mul_div_left _ _ (pw _)]
  unfold pcarry
  omega
theorem pcarry_step (A B i k : Nat) : (pcarry A B i k + byteAt (A % 256 ^ i * B) (i + k) + byteAt A i * byteAt B k) / 256 = pcarry A B i (k + 1) := by
  rw [← pc_sum]
  unfold pcarry
  rw [Nat.div_div_eq_div_mul, show i + (k + 1) = (i + k) + 1 by omega, Nat.pow_succ 256 (i + k)]
theorem pcarry_byte (A B i k : Nat) : (pcarry A B i k + byteAt (A % 256 ^ i * B) (i + k) + byteAt A i * byteAt B k) % 256 = byteAt (prodP A B i (k + 1)) (i + k) := by
  rw [← pc_sum]; rfl
theorem byteAt_add (x y n j : Nat) (h : j < n) : byteAt (x + 256 ^ n * y) j = byteAt x j := by
  unfold byteAt
  have e : 256 ^ n * y = 256 ^ j * (256 * (256 ^ (n - j - 1) * y)) := by
    rw [← Nat.mul_assoc, ← Nat.mul_assoc, ← Nat.pow_succ, ← Nat.pow_add]
    congr 2; omega
  rw [e, Nat.add_mul_div_left _ _ (pw j)]
  omega
theorem prodP_low (A B i k j : Nat) (h : j < i + k) : byteAt (prodP A B i (k + 1)) j = byteAt (prodP A B i k) j := by
  rw [prodP_succ]; exact byteAt_add _ _ _ _ h
theorem bytesL_mod (x : Nat) : bytesL (x % 256 ^ 32) = bytesL x := by
  unfold bytesL
  refine List.map_congr_left fun j hj => ?_
  have e : x = x % 256 ^ 32 + 256 ^ 32 * (x / 256 ^ 32) := (Nat.mod_add_div x (256 ^ 32)).symm
  have := byteAt_add (x % 256 ^ 32) (x / 256 ^ 32) 32 (31 - j) (by omega)
  rw [← e] at this
  rw [this]
theorem bytesL_congr {x y : Nat} (h : x % 256 ^ 32 = y % 256 ^ 32) : bytesL x = bytesL y := by rw [← bytesL_mod x, h, bytesL_mod]
theorem prodP_zero (A B i : Nat) : mixL (prodP A B i 0) (A % 256 ^ i * B) i = bytesL (A % 256 ^ i * B) := by
  unfold mixL bytesL
  refine List.map_congr_left fun j hj => ?_
  split
  · rename_i h
    have e : prodP A B i 0 = (A % 256 ^ i * B) % 256 ^ i := by simp [prodP, Nat.mod_one]
    rw [e]
    have e2 : A % 256 ^ i * B = (A % 256 ^ i * B) % 256 ^ i + 256 ^ i * (A % 256 ^ i * B / 256 ^ i) := (Nat.mod_add_div _ _).symm
    have := byteAt_add ((A % 256 ^ i * B) % 256 ^ i) (A % 256 ^ i * B / 256 ^ i) i (31 - j) h
    rw [← e2] at this
    rw [this]
  · rfl
theorem prodP_all (A B i : Nat) (h : i < 32) : bytesL (prodP A B i (32 - i)) = bytesL (A % 256 ^ (i + 1) * B) := by
  refine bytesL_congr ?_
  unfold prodP
  rw [show i + (32 - i) = 32 by omega, mod_succ A i, Nat.add_mul]
  have e : byteAt A i * (B % 256 ^ (32 - i)) * 256 ^ i % 256 ^ 32 = 256 ^ i * byteAt A i * B % 256 ^ 32 := by
    have h32 : (256 : Nat) ^ 32 = 256 ^ (32 - i) * 256 ^ i := by rw [← Nat.pow_add]; congr 1; omega
    rw [h32, Nat.mul_mod_mul_right, show 256 ^ i * byteAt A i * B = (byteAt A i * B) * 256 ^ i by ac_rfl, Nat.mul_mod_mul_right]
    congr 1
    rw [Nat.mul_mod, Nat.mod_mod, ← Nat.mul_mod]
  rw [Nat.add_mod, Nat.mod_mod, e, ← Nat.add_mod]
theorem prod_end (A B : Nat) : bytesL (A % 256 ^ 32 * B) = bytesL (A * B) := bytesL_congr (by rw [Nat.mul_mod, Nat.mod_mod, ← Nat.mul_mod])

end Go.Proofs.Ytfafancacfjodaa
