/- The digest of layer 24, as values. -/
import Derived.Test.YtfafancacfjodaaRowW
namespace Go.Proofs.Ytfafancacfjodaa
open Go.RowKit

@[go_sem high] theorem op_andnot32 (t : TypeId) (a b : BitVec 32) : binOp .andNot t (.int .u32 (iv32 a)) (.int .u32 (iv32 b)) = pure (.int .u32 (iv32 (and32 a (not32 b)))) := by
  simp only [binOp_andNot, intBits_andNot, bits, iv32, IntKind.bits, ofInt32, wrap32_nat]
  rw [BitVec.ofNat_toNat, BitVec.setWidth_eq]; rfl
def rol32 (a : BitVec 32) (n : Nat) : BitVec 32 := or32 (shl32 a n) (shr32 a (32 - n))
def ordL : List Int := [7, 4, 13, 1, 10, 6, 15, 3, 12, 0, 9, 5, 2, 14, 11, 8]
def ordN (n : Nat) : Nat := [7, 4, 13, 1, 10, 6, 15, 3, 12, 0, 9, 5, 2, 14, 11, 8].getD n 0
theorem ord_lt : ∀ n < 16, ordN n < 16 := by decide
theorem ord_get : ∀ n (h : n < 16), ordL[n]'h = (ordN n : Int) := by decide
def iterO (s : Nat) : Nat → Nat
  | 0 => s
  | i + 1 => ordN (iterO s i)
def startN (second : Bool) (k : Nat) : Nat := if second then (9 * (k % 16) + 5) % 16 else k % 16
theorem start_lt (second : Bool) (k : Nat) : startN second k < 16 := by unfold startN; split <;> omega
theorem iterO_lt (s : Nat) (hs : s < 16) : ∀ i, iterO s i < 16
  | 0 => hs
  | i + 1 => ord_lt _ (iterO_lt s hs i)
/-- Which number a step takes. -/
def takeN (second : Bool) (k : Nat) : Nat := iterO (startN second k) (k / 16)
theorem take_lt (second : Bool) (k : Nat) : takeN second k < 16 := iterO_lt _ (start_lt _ _) _
theorem take_lo (second : Bool) (k : Nat) (h : k < 16) : takeN second k = startN second k := by
  unfold takeN
  rw [show k / 16 = 0 by omega]; rfl
theorem take_hi (second : Bool) (k : Nat) (h : 16 ≤ k) : takeN second k = ordN (takeN second (k - 16)) := by
  unfold takeN
  rw [show k / 16 = (k - 16) / 16 + 1 by omega]
  show ordN (iterO (startN second k) ((k - 16) / 16)) = _
  have : startN second k = startN second (k - 16) := by unfold startN; rw [show (k - 16) % 16 = k % 16 by omega]
  rw [this]
def takeL (second : Bool) : List Int := allL 80 (fun k => (takeN second k : Int))
def turnRows : List (List Int) := [
  [11, 14, 15, 12, 5, 8, 7, 9, 11, 13, 14, 15, 6, 7, 9, 8],
  [12, 13, 11, 15, 6, 9, 9, 7, 12, 15, 11, 13, 7, 8, 7, 7],
  [13, 15, 14, 11, 7, 7, 6, 8, 13, 14, 13, 12, 5, 5, 6, 9],
  [14, 11, 12, 14, 8, 6, 5, 5, 15, 12, 15, 14, 9, 9, 8, 6],
  [15, 12, 13, 13, 9, 5, 8, 6, 14, 11, 12, 11, 8, 6, 5, 5]]
def turnN (r n : Nat) : Nat := ((turnRows.getD r []).getD n 0).toNat
theorem turn_bd : ∀ r < 5, ∀ n < 16, 0 < turnN r n ∧ turnN r n < 32 := by decide
def fF (r : Nat) (x y z : BitVec 32) : BitVec 32 :=
  if r = 0 then xor32 (xor32 x y) z else if r = 1 then or32 (and32 x y) (and32 (not32 x) z) else if r = 2 then xor32 (or32 x (not32 y)) z else if r = 3 then or32 (and32 x z) (and32 y (not32 z)) else xor32 x (or32 y (not32 z))
def keyN (second : Bool) (r : Nat) : Nat :=
  if second then [0x50a28be6, 0x5c4dd124, 0x6d703ef3, 0x7a6d76e9, 0].getD r 0 else [0, 0x5a827999, 0x6ed9eba1, 0x8f1bbcdc, 0xa953fd4e].getD r 0
def keyF (second : Bool) (r : Nat) : BitVec 32 := BitVec.ofNat 32 (keyN second r)
/-- What is added to the first number in a step, F and all. -/
def sumK (second : Bool) (k : Nat) (b h : Nat → BitVec 32) : BitVec 32 :=
  add32 (add32 (add32 (h 0) (fF (if second then 4 - k / 16 else k / 16) (h 1) (h 2) (h 3))) (b (takeN second k))) (keyF second (k / 16))
def stepR (second : Bool) (k : Nat) (b h : Nat → BitVec 32) : Nat → BitVec 32 := fun i =>
  if i = 0 then h 4 else if i = 1 then add32 (rol32 (sumK second k b h) (turnN (k / 16) (takeN second k))) (h 4) else if i = 2 then h 1 else if i = 3 then rol32 (h 2) 10 else h 3
def lineTo (second : Bool) (b h : Nat → BitVec 32) : Nat → Nat → BitVec 32
  | 0 => h
  | k + 1 => stepR second k b (lineTo second b h k)
def lineF (second : Bool) (b h : Nat → BitVec 32) : Nat → BitVec 32 := lineTo second b h 80
def mixR (h b : Nat → BitVec 32) : Nat → BitVec 32 := fun i => add32 (add32 (h ((i + 1) % 5)) (lineF false b h ((i + 2) % 5))) (lineF true b h ((i + 3) % 5))

/-! Roots: the whole part of 2^30 times a root. -/
def rootGo (T n : Nat) : Nat → Nat → Nat
  | 0, x => x
  | i + 1, x => if (x + 2 ^ i) ^ n ≤ T then rootGo T n i (x + 2 ^ i) else rootGo T n i x
def wholeN (p n : Nat) : Nat := rootGo (p * 2 ^ (30 * n)) n 34 0
theorem rootGo_yes {T n i x r : Nat} (h : rootGo T n (i + 1) x = r) (hc : (x + 2 ^ i) ^ n ≤ T) : rootGo T n i (x + 2 ^ i) = r := by
  rw [rootGo, if_pos hc] at h; exact h
theorem rootGo_no {T n i x r : Nat} (h : rootGo T n (i + 1) x = r) (hc : ¬ (x + 2 ^ i) ^ n ≤ T) : rootGo T n i x = r := by
  rw [rootGo, if_neg hc] at h; exact h
def prN (i : Nat) : Nat := [2, 3, 5, 7].getD i 0
theorem key_second : ∀ r < 4, wholeN (prN r) 3 % 4294967296 = keyN true r := by decide +kernel
theorem key_first : ∀ r < 4, wholeN (prN r) 2 % 4294967296 = keyN false (r + 1) := by decide +kernel

/-! Blocks: four bytes, the lowest first. -/
def accF (f : Nat → BitVec 32) (j : Nat) : Nat → BitVec 32
  | 0 => 0
  | n + 1 => or32 (accF f j n) (shl32 (f (4 * j + n)) (8 * n))
def blockTo (f : Nat → BitVec 32) (i : Nat) : Nat → BitVec 32 := fun j => accF f j (min 4 (i - 4 * j))
def blockF (f : Nat → BitVec 32) : Nat → BitVec 32 := fun j => accF f j 4
theorem blockTo_set (f : Nat → BitVec 32) (i : Nat) : (rowI 16 (blockTo f i)).set (i / 4) (iv32 (or32 (blockTo f i (i / 4)) (shl32 (f i) (8 * (i % 4))))) = rowI 16 (blockTo f (i + 1)) := by
  apply List.ext_getElem
  · simp [rowI_len]
  · intro k h1 h2
    rw [List.getElem_set]
    simp only [rowI_get]
    by_cases e : i / 4 = k
    · subst e
      rw [if_pos rfl]
      unfold blockTo
      have e1 : min 4 (i - 4 * (i / 4)) = i % 4 := by omega
      have e2 : min 4 (i + 1 - 4 * (i / 4)) = i % 4 + 1 := by omega
      rw [e1, e2, accF, show 4 * (i / 4) + i % 4 = i by omega]
    · rw [if_neg e]
      unfold blockTo
      congr 2
      omega
theorem blockTo_zero (f : Nat → BitVec 32) : rowI 16 (blockTo f 0) = List.replicate 16 0 := by
  apply List.ext_getElem
  · simp [rowI_len]
  · intro k h1 h2
    rw [rowI_get, List.getElem_replicate]
    unfold blockTo
    rw [show min 4 (0 - 4 * k) = 0 by omega]
    rfl
theorem blockTo_all (f : Nat → BitVec 32) : rowI 16 (blockTo f 64) = rowI 16 (blockF f) := allL_congr fun i hi => by
  show iv32 (accF f i (min 4 (64 - 4 * i))) = iv32 (accF f i 4)
  rw [show min 4 (64 - 4 * i) = 4 by omega]
/-- The bytes of a block. -/
def byteF (bs : List (BitVec 8)) (at' : Nat) : Nat → BitVec 32 := fun k => w8 (bs.getD (64 * at' + k) 0)

/-! What is behind the bytes. -/
def padN (n : Nat) : Nat := (119 - n % 64) % 64
def lenB (n : Nat) : List (BitVec 8) := (List.range 8).map fun j => BitVec.ofNat 8 (8 * n / 256 ^ j)
def padL (bs : List (BitVec 8)) : List (BitVec 8) := bs ++ [128] ++ List.replicate (padN bs.length) 0 ++ lenB bs.length
theorem padN_lt (n : Nat) : padN n < 64 := Nat.mod_lt _ (by decide)
theorem padN_ok (n : Nat) : (n + 1 + padN n) % 64 = 56 := by unfold padN; omega
theorem padL_len (bs : List (BitVec 8)) : (padL bs).length = bs.length + 1 + padN bs.length + 8 := by simp [padL, lenB]; omega
theorem padL_mod (bs : List (BitVec 8)) : (padL bs).length % 64 = 0 := by have := padN_ok bs.length; rw [padL_len]; omega
def lenOf : Value → Nat
  | .slice _ n _ => n
  | _ => 0
def padTo (bs : List (BitVec 8)) (k : Nat) : List (BitVec 8) := bs ++ [128] ++ List.replicate k 0
theorem padTo_len (bs : List (BitVec 8)) (k : Nat) : (padTo bs k).length = bs.length + 1 + k := by simp [padTo]; omega
theorem padTo_succ (bs : List (BitVec 8)) (k : Nat) : padTo bs (k + 1) = padTo bs k ++ [0] := by unfold padTo; rw [List.append_assoc _ _ [0], ← List.replicate_succ']
def padK (bs : List (BitVec 8)) (k : Nat) : List (BitVec 8) := padTo bs (padN bs.length) ++ (lenB bs.length).take k
theorem padK_zero (bs : List (BitVec 8)) : padK bs 0 = padTo bs (padN bs.length) := by simp [padK]
theorem padK_all (bs : List (BitVec 8)) : padK bs 8 = padL bs := by
  have : (lenB bs.length).length = 8 := by simp [lenB]
  unfold padK padL padTo
  rw [List.take_of_length_le (by omega)]
theorem padK_succ (bs : List (BitVec 8)) (k : Nat) (h : k < 8) : padK bs (k + 1) = padK bs k ++ [BitVec.ofNat 8 (8 * bs.length / 256 ^ k)] := by
  unfold padK
  rw [List.take_succ_eq_append_getElem (by simp [lenB]; exact h), ← List.append_assoc]
  simp [lenB]
theorem padK_len (bs : List (BitVec 8)) (k : Nat) (h : k ≤ 8) : (padK bs k).length = bs.length + 1 + padN bs.length + k := by
  simp [padK, padTo_len, lenB]; omega

/-! The digest. -/
def begR : Nat → BitVec 32 := fun i => [0x67452301#32, 0xefcdab89#32, 0x98badcfe#32, 0x10325476#32, 0xc3d2e1f0#32].getD i 0
def sumTo (pd : List (BitVec 8)) : Nat → Nat → BitVec 32
  | 0 => begR
  | n + 1 => mixR (sumTo pd n) (blockF (byteF pd n))
def sumF (bs : List (BitVec 8)) : Nat → BitVec 32 := sumTo (padL bs) ((padL bs).length / 64)
def digF (h : Nat → BitVec 32) (i : Nat) : BitVec 8 := BitVec.ofNat 8 ((h (i / 4)).toNat / 2 ^ (8 * (i % 4)))
def digL (h : Nat → BitVec 32) : List Int := allL 20 (fun i => iv8 (digF h i))
theorem iv8_dig (h : Nat → BitVec 32) (i : Nat) : iv8 (digF h i) = iv32 (h (i / 4)) / 2 ^ (8 * (i % 4)) % 256 := by
  unfold iv8 iv32 digF
  simp
/-- A slice of integers is laid anew. -/
theorem wpList_row {P : Program} {ops : Array Oper} {rest : List Oper} {o : Oper} {a : Act} {w : World} {Q : Exit → Act → World → Prop} (hgd : o.guard = none) (q : IntKind) (zs : List Int) (T : TypeId)
    (hr : (execOp a.eval o).run P w = .ok (.value (.slice (some ⟨w.heap.size, 0, none⟩) zs.length zs.length)) (w.alloc (.cells (zs.map (Value.int q)).toArray T)))
    (h : ∀ b w', b = w.heap.size → Blk q w' b T zs → Below w.heap.size w w' → wpList P ops Q rest (a.put o.dst (.slice (some ⟨b, 0, none⟩) zs.length zs.length)) w') : wpList P ops Q (o :: rest) a w := by
  refine wpList_plain hgd fun K hK => ?_
  unfold Oper.wp
  rw [hr]
  exact hK _ _ (h _ _ rfl (Blk.new w T zs) (xalloc (xrefl w) _))
/-- A block and its place. -/
abbrev BlkP := Nat × (Nat → BitVec 32)
def encB (x : BlkP) : Array Value := #[.int .i64 x.1, arrV .u32 (rowI 16 x.2)]
def blkAt (pd : List (BitVec 8)) (k : Nat) : BlkP := (k, blockF (byteF pd k))
end Go.Proofs.Ytfafancacfjodaa
