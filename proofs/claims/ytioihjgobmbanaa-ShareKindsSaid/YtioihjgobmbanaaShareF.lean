/- Layer 22: making accounts, keeping code, ends, beginnings. -/
import Derived.Test.YtioihjgobmbanaaShareE
import Derived.Test.YtioihjgobmbanaaPriceD
namespace Go.Proofs.Ytioihjgobmbanaa
open Go.RowKit

theorem u64_id (a : Int) (h : 0 ≤ a ∧ a < 18446744073709551616) : IntKind.u64.wrap a = a := by
  simp [IntKind.wrap, IntKind.bits, IntKind.signed]; omega

def makeCost (k n : Int) : Int := if k = 2 then u64add (priceOf 4 n) (6 * nWords n) else priceOf 4 n

theorem okN_of {n : Int} (h : 0 ≤ n ∧ n ≤ 49152) : okN n = true := by simp [okN]; omega

theorem sum_make1 (n : Int) (h : 0 ≤ n ∧ n ≤ 49152) (b : Bool) (x : Int) (hx : b = true → x = 6 * nWords n) : sumPaid [(priceOf 4 n, true), (x, b)] = if b then u64add (priceOf 4 n) (6 * nWords n) else priceOf 4 n := by
  have hb := nWords_bd n (okN_of h)
  have e : u64add 0 (priceOf 4 n) = priceOf 4 n := by unfold u64add; rw [u64_id] <;> (simp [priceOf]; try omega)
  cases b
  · simp [sumPaid, payOf, e]
  · simp [sumPaid, payOf, e, hx rfl]

theorem make_arg (k n : Int) (w : World) (h : (k ≠ 1 ∧ k ≠ 2) ∨ n < 0) :
    Calls Try.prog 14 #[.int .i64 k, .int .i64 n] w fun e w' => e = .returned (.tuple #[.int .u64 0, .int .i64 2]) ∧ Below w.heap.size w w' := by
  by_cases h1 : k = 1
  · subst h1
    have h2 : n < 0 := by omega
    clear h
    go_enter Try.func14, Try.ntmps14
    go_wp2
    go_ret2
    exact ⟨rfl, xrefl _⟩
  · by_cases h1' : k = 2
    · subst h1'
      have h2 : n < 0 := by omega
      clear h h1
      go_enter Try.func14, Try.ntmps14
      go_wp2
      go_ret2
      exact ⟨rfl, xrefl _⟩
    · have e1 : (k == 1) = false := by simpa using h1
      have e2 : (k == 2) = false := by simpa using h1'
      have e3 : (k != 1) = true := by simpa using h1
      have e4 : (k != 2) = true := by simpa using h1'
      clear h h1 h1'
      go_enter Try.func14, Try.ntmps14
      go_wp2
      go_ret2
      exact ⟨rfl, xrefl _⟩

theorem refMake_arg (k n : Int) (w : World) (h : (k ≠ 1 ∧ k ≠ 2) ∨ n < 0) :
    Calls Try.prog 15 #[.int .i64 k, .int .i64 n] w fun e w' => e = .returned (.tuple #[.int .u64 0, .int .i64 2]) ∧ w = w' := by
  by_cases h1 : k < 1
  · clear h
    go_enter Try.func15, Try.ntmps15
    go_wp2
    go_ret2
    exact ⟨rfl, rfl⟩
  · by_cases h2 : k > 2
    · clear h
      go_enter Try.func15, Try.ntmps15
      go_wp2
      go_ret2
      exact ⟨rfl, rfl⟩
    · have h3 : n < 0 := by omega
      clear h
      go_enter Try.func15, Try.ntmps15
      go_wp2
      go_ret2
      exact ⟨rfl, rfl⟩

theorem make_long2 (n : Int) (w : World) (h : 49152 < n) :
    Calls Try.prog 14 #[.int .i64 2, .int .i64 n] w fun e w' => e = .returned (.tuple #[.int .u64 0, .int .i64 3]) ∧ Below w.heap.size w w' := by
  have h2 : ¬ n < 0 := by omega
  have h3 : n > 49152 := h
  go_enter Try.func14, Try.ntmps14
  go_wp2
  go_ret2
  exact ⟨rfl, xrefl _⟩
theorem refMake_long2 (n : Int) (w : World) (h : 49152 < n) :
    Calls Try.prog 15 #[.int .i64 2, .int .i64 n] w fun e w' => e = .returned (.tuple #[.int .u64 0, .int .i64 3]) ∧ w = w' := by
  have h2 : ¬ n < 0 := by omega
  have h3 : n > 49152 := h
  go_enter Try.func15, Try.ntmps15
  go_wp2
  go_ret2
  exact ⟨rfl, rfl⟩

theorem make_ok2 (n : Int) (w : World) (h : 0 ≤ n ∧ n ≤ 49152) :
    Calls Try.prog 14 #[.int .i64 2, .int .i64 n] w fun e w' => e = .returned (.tuple #[.int .u64 (makeCost 2 n), .int .i64 0]) ∧ Below w.heap.size w w' := by
  have hok := Lib.hid (okN_of h)
  have hb := nWords_bd n (okN_of h)
  have hfin := Lib.hid (sum_make1 n h true (6 * nWords n) (fun _ => rfl))
  obtain ⟨h1, h2⟩ := h
  obtain ⟨b1, b2⟩ := hb
  go_enter Try.func14, Try.ntmps14
  go_wp2_with (first
    | (go_at_call 29; refine (of_4 n _ hok.out).mono ?_; rintro e w1 ⟨rfl, hb1⟩)
    | (go_at_call 30; refine (Words_any n _).mono ?_; rintro e w2 ⟨rfl, hb2⟩; rw [hok.out])
    | (go_at_call 25; refine (when_any _ _ _).mono ?_; rintro e w' ⟨rfl, rfl⟩)
    | (go_at_call 24; with_reducible refine (paid2 _ (priceOf 4 n, true) (6 * nWords n, true) _ ?_ ?_).mono ?_; rotate_left 2; rintro e w' ⟨rfl, hb3⟩))
  · go_ret2
    exact ⟨by rw [hfin.out]; rfl, xtrans (by repeat (first | exact xtrans hb1 hb2 | refine xalloc ?_ _)) hb3⟩
  all_goals exact ⟨_, _, by simp [go_sem]; exact ⟨rfl, rfl⟩, by simp [go_sem], by simp [go_sem]⟩

theorem refOf_4 (n : Int) (w : World) (h : okN n = true) :
    Calls Try.prog 31 #[.int .i64 4, .int .i64 n] w fun e w' => e = .returned (.tuple #[.int .u64 (priceOf 4 n), .int .i64 0]) ∧ w = w' := by
  obtain ⟨b1, b2⟩ := nWords_bd n h
  have Hk := Lib.hid h
  clear h
  go_enter Try.func31, Try.ntmps31
  go_wp2_with (first
    | (go_at_call 47; refine (refRight_any n _).mono ?_; rintro e w1 ⟨rfl, rfl⟩; rw [Hk.out])
    | (go_at_call 32; refine (refWords_any n _ Hk.out).mono ?_; rintro e w1 ⟨rfl, rfl⟩))
  go_ret2
  exact ⟨by simp [priceOf], rfl⟩

theorem refMake_ok2 (n : Int) (w : World) (h : 0 ≤ n ∧ n ≤ 49152) :
    Calls Try.prog 15 #[.int .i64 2, .int .i64 n] w fun e w' => e = .returned (.tuple #[.int .u64 (makeCost 2 n), .int .i64 0]) ∧ w = w' := by
  have hok := Lib.hid (okN_of h)
  have hb := nWords_bd n (okN_of h)
  obtain ⟨h1, h2⟩ := h
  obtain ⟨b1, b2⟩ := hb
  go_enter Try.func15, Try.ntmps15
  go_wp2_with (first
    | (go_at_call 31; refine (refOf_4 n _ hok.out).mono ?_; rintro e w1 ⟨rfl, rfl⟩)
    | (go_at_call 32; refine (refWords_any n _ hok.out).mono ?_; rintro e w1 ⟨rfl, rfl⟩))
  go_ret2
  exact ⟨by simp [makeCost, u64add], rfl⟩

theorem make_long1 (n : Int) (w : World) (h : 49152 < n) :
    Calls Try.prog 14 #[.int .i64 1, .int .i64 n] w fun e w' => e = .returned (.tuple #[.int .u64 0, .int .i64 3]) ∧ Below w.heap.size w w' := by
  have h2 : ¬ n < 0 := by omega
  have h3 : n > 49152 := h
  go_enter Try.func14, Try.ntmps14
  go_wp2
  go_ret2
  exact ⟨rfl, xrefl _⟩
theorem refMake_long1 (n : Int) (w : World) (h : 49152 < n) :
    Calls Try.prog 15 #[.int .i64 1, .int .i64 n] w fun e w' => e = .returned (.tuple #[.int .u64 0, .int .i64 3]) ∧ w = w' := by
  have h2 : ¬ n < 0 := by omega
  have h3 : n > 49152 := h
  go_enter Try.func15, Try.ntmps15
  go_wp2
  go_ret2
  exact ⟨rfl, rfl⟩

theorem make_ok1 (n : Int) (w : World) (h : 0 ≤ n ∧ n ≤ 49152) :
    Calls Try.prog 14 #[.int .i64 1, .int .i64 n] w fun e w' => e = .returned (.tuple #[.int .u64 (makeCost 1 n), .int .i64 0]) ∧ Below w.heap.size w w' := by
  have hok := Lib.hid (okN_of h)
  have hb := nWords_bd n (okN_of h)
  have hfin := Lib.hid (sum_make1 n h false (6 * nWords n) (fun _ => rfl))
  obtain ⟨h1, h2⟩ := h
  obtain ⟨b1, b2⟩ := hb
  go_enter Try.func14, Try.ntmps14
  go_wp2_with (first
    | (go_at_call 29; refine (of_4 n _ hok.out).mono ?_; rintro e w1 ⟨rfl, hb1⟩)
    | (go_at_call 30; refine (Words_any n _).mono ?_; rintro e w2 ⟨rfl, hb2⟩; rw [hok.out])
    | (go_at_call 25; refine (when_any _ _ _).mono ?_; rintro e w' ⟨rfl, rfl⟩)
    | (go_at_call 24; with_reducible refine (paid2 _ (priceOf 4 n, true) (6 * nWords n, false) _ ?_ ?_).mono ?_; rotate_left 2; rintro e w' ⟨rfl, hb3⟩))
  · go_ret2
    exact ⟨by rw [hfin.out]; rfl, xtrans (by repeat (first | exact xtrans hb1 hb2 | refine xalloc ?_ _)) hb3⟩
  all_goals exact ⟨_, _, by simp [go_sem]; exact ⟨rfl, rfl⟩, by simp [go_sem], by simp [go_sem]⟩

theorem refMake_ok1 (n : Int) (w : World) (h : 0 ≤ n ∧ n ≤ 49152) :
    Calls Try.prog 15 #[.int .i64 1, .int .i64 n] w fun e w' => e = .returned (.tuple #[.int .u64 (makeCost 1 n), .int .i64 0]) ∧ w = w' := by
  have hok := Lib.hid (okN_of h)
  have hb := nWords_bd n (okN_of h)
  obtain ⟨h1, h2⟩ := h
  obtain ⟨b1, b2⟩ := hb
  go_enter Try.func15, Try.ntmps15
  go_wp2_with (first
    | (go_at_call 31; refine (refOf_4 n _ hok.out).mono ?_; rintro e w1 ⟨rfl, rfl⟩)
    | (go_at_call 32; refine (refWords_any n _ hok.out).mono ?_; rintro e w1 ⟨rfl, rfl⟩))
  go_ret2
  exact ⟨by simp [makeCost], rfl⟩

end Go.Proofs.Ytioihjgobmbanaa
