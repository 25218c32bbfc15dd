/- Plain facts on numbers of 256 bits as four limbs and as bytes. -/
import Derived.Test.YtioihjgobmbanaaBytes
namespace Go.Proofs.Ytioihjgobmbanaa
open Go.RowKit

def limb (N j : Nat) : Nat := N / 2 ^ (64 * j) % 18446744073709551616
def byteAt (N i : Nat) : Nat := N / 256 ^ i % 256
theorem limb_lt (N j : Nat) : limb N j < 18446744073709551616 := Nat.mod_lt _ (by decide)
theorem byteAt_lt (N i : Nat) : byteAt N i < 256 := Nat.mod_lt _ (by decide)
/-- A word as Go holds it. -/
def wordL (N : Nat) : List Int := [limb N 0, limb N 1, limb N 2, limb N 3]
def wordV (N : Nat) : Value := .agg #[.int .u64 (limb N 0), .int .u64 (limb N 1), .int .u64 (limb N 2), .int .u64 (limb N 3)]
/-- The 32 bytes of a number, the highest first. -/
def bytesL (N : Nat) : List Int := (List.range 32).map fun j => (byteAt N (31 - j) : Int)

theorem sh_byte (x r : Nat) (h : r < 8) : x % 18446744073709551616 / 2 ^ (8 * r) % 256 = x / 2 ^ (8 * r) % 256 := by
  have : r = 0 ∨ r = 1 ∨ r = 2 ∨ r = 3 ∨ r = 4 ∨ r = 5 ∨ r = 6 ∨ r = 7 := by omega
  rcases this with rfl | rfl | rfl | rfl | rfl | rfl | rfl | rfl <;> simp <;> omega
theorem limb_byte (N i : Nat) : limb N (i / 8) / 2 ^ (8 * (i % 8)) % 256 = byteAt N i := by
  unfold limb byteAt
  rw [sh_byte _ _ (Nat.mod_lt _ (by decide)), Nat.div_div_eq_div_mul, ← Nat.pow_add, show (256 : Nat) = 2 ^ 8 by decide, ← Nat.pow_mul]
  congr 3
  omega

theorem val_limbs (N : Nat) (h : N < 2 ^ 256) : N = limb N 0 + limb N 1 * 2 ^ 64 + limb N 2 * 2 ^ 128 + limb N 3 * 2 ^ 192 := by
  unfold limb
  simp at *
  omega
theorem limb_of (a b c d : Nat) (ha : a < 18446744073709551616) (hb : b < 18446744073709551616) (hc : c < 18446744073709551616) (hd : d < 18446744073709551616) :
    limb (a + b * 2 ^ 64 + c * 2 ^ 128 + d * 2 ^ 192) 0 = a ∧ limb (a + b * 2 ^ 64 + c * 2 ^ 128 + d * 2 ^ 192) 1 = b ∧ limb (a + b * 2 ^ 64 + c * 2 ^ 128 + d * 2 ^ 192) 2 = c ∧ limb (a + b * 2 ^ 64 + c * 2 ^ 128 + d * 2 ^ 192) 3 = d := by
  unfold limb
  simp
  omega

/-! A block that holds integers. -/
def Blk (q : IntKind) (w : World) (b : Nat) (T : TypeId) (l : List Int) : Prop := w.heap[b]? = some (.cells (l.map (Value.int q)).toArray T (0, 0))
theorem Blk.cell {q : IntKind} {w : World} {b : Nat} {T : TypeId} {l : List Int} (h : Blk q w b T l) (i : Nat) (hi : i < l.length) : w.cell? ⟨b, i, none⟩ = some (.int q l[i]) := by
  rw [cell_of_row w b i _ T (0, 0) h]; simp [hi]
theorem Blk.frozen {q : IntKind} {w : World} {b : Nat} {T : TypeId} {l : List Int} (h : Blk q w b T l) (i : Nat) : w.frozen? ⟨b, i, none⟩ = false := frozen_of_row w b i _ T h
theorem Blk.lt {q : IntKind} {w : World} {b : Nat} {T : TypeId} {l : List Int} (h : Blk q w b T l) : b < w.heap.size := (Array.getElem?_eq_some_iff.1 h).1
theorem Blk.set {q : IntKind} {w : World} {b : Nat} {T : TypeId} {l : List Int} (h : Blk q w b T l) (i : Nat) (v : Int) : Blk q (w.setCell ⟨b, i, none⟩ (.int q v)) b T (l.set i v) := by
  unfold Blk at *
  rw [heap_setCell_same w b i _ T _ h]
  congr 2
  apply Array.ext'
  simp [List.map_set]
theorem Blk.other {q : IntKind} {w : World} {b : Nat} {T : TypeId} {l : List Int} (h : Blk q w b T l) (a : Addr) (v : Value) (hb : b ≠ a.block) : Blk q (w.setCell a v) b T l := (heap_setCell_other w a b v hb).trans h
theorem Blk.oth {q : IntKind} {w : World} {b : Nat} {T : TypeId} {l : List Int} (h : Blk q w b T l) {c i : Nat} (v : Value) (hb : b ≠ c) : Blk q (w.setCell ⟨c, i, none⟩ v) b T l := h.other ⟨c, i, none⟩ v hb
theorem xsetb {a w : World} (h : Below a.heap.size a w) {c i : Nat} (hp : a.heap.size ≤ c) (u : Value) : Below a.heap.size a (w.setCell ⟨c, i, none⟩ u) := h.setCell hp u
theorem Blk.alloc {q : IntKind} {w : World} {b : Nat} {T : TypeId} {l : List Int} (h : Blk q w b T l) (o : Obj) : Blk q (w.alloc o) b T l := (Below.heap_alloc w o b h.lt).trans h
theorem Blk.drew {q : IntKind} {w : World} {b : Nat} {T : TypeId} {l : List Int} (h : Blk q w b T l) : Blk q w.drew b T l := h
theorem Blk.below {q : IntKind} {w w' : World} {b : Nat} {T : TypeId} {l : List Int} (h : Blk q w b T l) (hb : Below w.heap.size w w') : Blk q w' b T l := (hb.block b h.lt).trans h
theorem Blk.new {q : IntKind} (w : World) (T : TypeId) (l : List Int) : Blk q (w.alloc (.cells (l.map (Value.int q)).toArray T)) w.heap.size T l := by
  show (w.heap.push _)[_]? = _
  simp

theorem Blk.new' {q : IntKind} (w : World) (b : Nat) (T : TypeId) (l : List Int) (hb : b = w.heap.size) : Blk q (w.alloc (.cells (l.map (Value.int q)).toArray T)) b T l := by subst hb; exact Blk.new w T l
theorem wordL_get (N j : Nat) (h : j < (wordL N).length) : (wordL N)[j] = limb N j := by
  have : j < 4 := h
  match j, this with
  | 0, _ => rfl
  | 1, _ => rfl
  | 2, _ => rfl
  | 3, _ => rfl
def zs32 : List Int := List.replicate 32 0
/-- The bytes that are laid after k rounds. -/
def bytesTo (N k : Nat) : List Int := (List.range 32).map fun j => if 31 - j < k then (byteAt N (31 - j) : Int) else 0
theorem bytesTo_len (N k : Nat) : (bytesTo N k).length = 32 := by simp [bytesTo]
theorem bytesTo_all (N : Nat) : bytesTo N 32 = bytesL N := by
  unfold bytesTo bytesL
  refine List.map_congr_left fun j hj => ?_
  rw [if_pos (by omega)]
theorem bytesTo_succ (N k : Nat) (h : k < 32) : (bytesTo N k).set (31 - k) (byteAt N k : Int) = bytesTo N (k + 1) := by
  apply List.ext_getElem
  · simp [bytesTo_len]
  · intro i h1 h2
    have hi : i < 32 := by simpa [bytesTo_len] using h2
    rw [List.getElem_set]
    simp only [bytesTo, List.getElem_map, List.getElem_range]
    by_cases e : 31 - k = i
    · subst e
      rw [if_pos rfl, if_pos (by omega), show 31 - (31 - k) = k by omega]
    · rw [if_neg e]
      by_cases c : 31 - i < k
      · rw [if_pos c, if_pos (by omega)]
      · rw [if_neg c, if_neg (by omega)]

theorem cases32 (k : Nat) (h : k < 32) : k = 0 ∨ k = 1 ∨ k = 2 ∨ k = 3 ∨ k = 4 ∨ k = 5 ∨ k = 6 ∨ k = 7 ∨ k = 8 ∨ k = 9 ∨ k = 10 ∨ k = 11 ∨ k = 12 ∨ k = 13 ∨ k = 14 ∨ k = 15 ∨ k = 16 ∨ k = 17 ∨ k = 18 ∨ k = 19 ∨ k = 20 ∨ k = 21 ∨ k = 22 ∨ k = 23 ∨ k = 24 ∨ k = 25 ∨ k = 26 ∨ k = 27 ∨ k = 28 ∨ k = 29 ∨ k = 30 ∨ k = 31 := by omega
theorem wordTo_succ (N k : Nat) (h : k < 32) : (wordL (N % 256 ^ k)).set (k / 8) ((limb (N % 256 ^ k) (k / 8) + byteAt N k * 2 ^ (8 * (k % 8)) : Nat) : Int) = wordL (N % 256 ^ (k + 1)) := by
  rcases cases32 k h with rfl | rfl | rfl | rfl | rfl | rfl | rfl | rfl | rfl | rfl | rfl | rfl | rfl | rfl | rfl | rfl | rfl | rfl | rfl | rfl | rfl | rfl | rfl | rfl | rfl | rfl | rfl | rfl | rfl | rfl | rfl | rfl <;> simp [wordL, limb, byteAt] <;> omega
theorem limb_small (N k : Nat) (h : k < 32) : limb (N % 256 ^ k) (k / 8) < 2 ^ (8 * (k % 8)) := by
  rcases cases32 k h with rfl | rfl | rfl | rfl | rfl | rfl | rfl | rfl | rfl | rfl | rfl | rfl | rfl | rfl | rfl | rfl | rfl | rfl | rfl | rfl | rfl | rfl | rfl | rfl | rfl | rfl | rfl | rfl | rfl | rfl | rfl | rfl <;> simp [limb] <;> omega
theorem byte_small (N k : Nat) : byteAt N k * 2 ^ (8 * (k % 8)) < 18446744073709551616 := by
  have h1 := byteAt_lt N k
  have h2 : 2 ^ (8 * (k % 8)) ≤ 2 ^ 56 := Nat.pow_le_pow_right (by decide) (by omega)
  have h3 : byteAt N k * 2 ^ (8 * (k % 8)) ≤ 255 * 2 ^ 56 := Nat.mul_le_mul (by omega) h2
  omega
theorem wordL_mod (N : Nat) : wordL (N % 256 ^ 32) = wordL N := by
  simp [wordL, limb]; omega

end Go.Proofs.Ytioihjgobmbanaa
