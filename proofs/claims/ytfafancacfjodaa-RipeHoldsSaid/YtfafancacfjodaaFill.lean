/- Rows that are filled from the front. -/
import Derived.Test.YtfafancacfjodaaArr
namespace Go.Proofs.Ytfafancacfjodaa
open Go.RowKit

def fillL (n : Nat) (f : Nat → Int) (k : Nat) : List Int := (List.range n).map fun j => if j < k then f j else 0
def allL (n : Nat) (f : Nat → Int) : List Int := (List.range n).map f
theorem fillL_len (n : Nat) (f : Nat → Int) (k : Nat) : (fillL n f k).length = n := by simp [fillL]
theorem allL_len (n : Nat) (f : Nat → Int) : (allL n f).length = n := by simp [allL]
theorem fillL_zero (n : Nat) (f : Nat → Int) : fillL n f 0 = List.replicate n 0 := by
  apply List.ext_getElem <;> simp [fillL]
theorem fillL_all (n : Nat) (f : Nat → Int) (k : Nat) (h : n ≤ k) : fillL n f k = allL n f := by
  unfold fillL allL
  refine List.map_congr_left fun j hj => ?_
  rw [if_pos (by have := List.mem_range.1 hj; omega)]
theorem fillL_succ (n : Nat) (f : Nat → Int) (k : Nat) : (fillL n f k).set k (f k) = fillL n f (k + 1) := by
  apply List.ext_getElem
  · simp [fillL_len]
  · intro i h1 h2
    rw [List.getElem_set]
    simp only [fillL, List.getElem_map, List.getElem_range]
    by_cases e : k = i
    · subst e; rw [if_pos rfl, if_pos (by omega)]
    · rw [if_neg e]
      by_cases c : i < k
      · rw [if_pos c, if_pos (by omega)]
      · rw [if_neg c, if_neg (by omega)]
theorem fillL_get (n : Nat) (f : Nat → Int) (k i : Nat) (h : i < k) (hl : i < (fillL n f k).length) : (fillL n f k)[i] = f i := by simp [fillL, h]
theorem fillL_get0 (n : Nat) (f : Nat → Int) (k i : Nat) (h : k ≤ i) (hl : i < (fillL n f k).length) : (fillL n f k)[i] = 0 := by simp [fillL]; omega
theorem allL_get (n : Nat) (f : Nat → Int) (i : Nat) (hl : i < (allL n f).length) : (allL n f)[i] = f i := by simp [allL]
theorem allL_congr {n : Nat} {f g : Nat → Int} (h : ∀ i, i < n → f i = g i) : allL n f = allL n g := List.map_congr_left fun i hi => h i (List.mem_range.1 hi)
theorem allL_inj {n : Nat} {f g : Nat → Int} (h : allL n f = allL n g) (i : Nat) (hi : i < n) : f i = g i := by
  have e := congrArg (·[i]?) h
  simpa [allL, hi] using e
/-- An array as a value. -/
def arrV (q : IntKind) (l : List Int) : Value := .agg (l.map (Value.int q)).toArray

end Go.Proofs.Ytfafancacfjodaa
