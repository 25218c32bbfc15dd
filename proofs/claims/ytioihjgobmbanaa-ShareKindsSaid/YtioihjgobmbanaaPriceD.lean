/- Layer 20: the prices by kinds, at numbers that may be. -/
import Derived.Test.YtioihjgobmbanaaPriceC
namespace Go.Proofs.Ytioihjgobmbanaa
open Go.RowKit

def perF (p : Nat) : Value := .func (.func 56) #[] #[.pointer (some ⟨p, 0, none⟩)]
def eachF (p : Nat) : Value := .func (.func 58) #[] #[.pointer (some ⟨p, 0, none⟩)]
def pricesL (N : Nat) : List (Int × Value) := [(1, perF (N + 1)), (2, perF (N + 2)), (3, eachF (N + 3)), (4, perF (N + 4)), (5, eachF (N + 5))]
def boxI (n : Int) : Obj := .cells #[.int .i64 n] 3

theorem per_any (c : Int) (w : World) :
    Calls Try.prog 55 #[.int .i64 c] w fun e w' => e = .returned (perF w.heap.size) ∧ w.alloc (boxI c) = w' := by
  go_enter Try.func55, Try.ntmps55
  go_wp2
  go_ret
  exact ⟨rfl, rfl⟩
theorem each_any (c : Int) (w : World) :
    Calls Try.prog 57 #[.int .i64 c] w fun e w' => e = .returned (eachF w.heap.size) ∧ w.alloc (boxI c) = w' := by
  go_enter Try.func57, Try.ntmps57
  go_wp2
  go_ret
  exact ⟨rfl, rfl⟩

set_option maxRecDepth 100000 in
theorem prices_any (w : World) :
    Calls Try.prog 44 #[] w fun e w' => e = .returned (.map (some w.heap.size)) ∧ allocs (w.alloc (mapI .i64 (pricesL w.heap.size))) [boxI 3, boxI 6, boxI 8, boxI 2, boxI 50] = w' := by
  have hmm := @run_makeMapI Try.prog .i64 87
  have i1 := fun n v w l o1 => @run_insertI_allocs Try.prog 87 _ _ _ Try.underlying87 Try.underlying62 n v w l [o1]
  have i2 := fun n v w l o1 o2 => @run_insertI_allocs Try.prog 87 _ _ _ Try.underlying87 Try.underlying62 n v w l [o1, o2]
  have i3 := fun n v w l o1 o2 o3 => @run_insertI_allocs Try.prog 87 _ _ _ Try.underlying87 Try.underlying62 n v w l [o1, o2, o3]
  have i4 := fun n v w l o1 o2 o3 o4 => @run_insertI_allocs Try.prog 87 _ _ _ Try.underlying87 Try.underlying62 n v w l [o1, o2, o3, o4]
  have i5 := fun n v w l o1 o2 o3 o4 o5 => @run_insertI_allocs Try.prog 87 _ _ _ Try.underlying87 Try.underlying62 n v w l [o1, o2, o3, o4, o5]
  simp only [allocs] at i1 i2 i3 i4 i5
  go_enter Try.func44, Try.ntmps44
  go_wp2_with (first
    | (go_at_call 55; refine (per_any _ _).mono ?_; rintro e w' ⟨rfl, rfl⟩)
    | (go_at_call 57; refine (each_any _ _).mono ?_; rintro e w' ⟨rfl, rfl⟩))
  go_ret
  exact ⟨rfl, by simp [allocs, pricesL]⟩

theorem words_any' (n : Int) (w : World) (h : okN n = true) :
    Calls Try.prog 46 #[.int .i64 n] w fun e w' => e = .returned (.int .i64 (nWords n)) ∧ w' = w :=
  (words_any n w h).mono fun _ _ ⟨a, b⟩ => ⟨a, b.symm⟩

theorem nWords_bd (n : Int) (h : okN n = true) : 0 ≤ nWords n ∧ nWords n ≤ 524288 := by
  have h1 : 0 ≤ n ∧ n ≤ 16777216 := by simpa [okN] using h
  unfold nWords; omega

theorem perF_any (n c : Int) (p : Addr) (w : World) (h : okN n = true) (hc : 0 ≤ c ∧ c ≤ 100) (hp : w.cell? p = some (.int .i64 c)) :
    Calls Try.prog 56 #[.int .i64 n, .pointer (some p)] w fun e w' => e = .returned (.int .i64 (c * nWords n)) ∧ Below w.heap.size w w' := by
  obtain ⟨b1, b2⟩ := nWords_bd n h
  have e : wrap64 (c * nWords n) = c * nWords n := by
    have h1 : c * nWords n ≤ 100 * nWords n := Int.mul_le_mul_of_nonneg_right hc.2 b1
    have h0 : 0 ≤ c * nWords n := Int.mul_nonneg hc.1 b1
    generalize c * nWords n = x at *
    unfold wrap64; omega
  have He := Lib.hid e
  clear e hc
  go_enter Try.func56, Try.ntmps56
  go_wp2_with fail
  go_quiet ((go_at_call 46; exact Calls.quiet_of_same (words_any' _ _ h)))
  go_wp2_with fail
  go_ret
  exact ⟨by simp [He.out], xdrewN (xrefl _) _⟩
theorem eachF_any (n c : Int) (p : Addr) (w : World) (h : okN n = true) (hc : 0 ≤ c ∧ c ≤ 100) (hp : w.cell? p = some (.int .i64 c)) :
    Calls Try.prog 58 #[.int .i64 n, .pointer (some p)] w fun e w' => e = .returned (.int .i64 (c * n)) ∧ Below w.heap.size w w' := by
  have h1 : 0 ≤ n ∧ n ≤ 16777216 := by simpa [okN] using h
  have e : wrap64 (c * n) = c * n := by
    have h2 : c * n ≤ 100 * n := Int.mul_le_mul_of_nonneg_right hc.2 h1.1
    have h0 : 0 ≤ c * n := Int.mul_nonneg hc.1 h1.1
    generalize c * n = x at *
    unfold wrap64; omega
  have He := Lib.hid e
  clear e hc h1
  go_enter Try.func58, Try.ntmps58
  go_wp2_with fail
  go_ret
  exact ⟨by simp [He.out], xrefl _⟩

def priceOf (k n : Int) : Int := if k = 1 then 3 * nWords n else if k = 2 then 6 * nWords n else if k = 3 then 8 * n else if k = 4 then 2 * nWords n else 50 * n
def okK (k : Int) : Bool := k == 1 || k == 2 || k == 3 || k == 4 || k == 5
@[go_sem] theorem pricesL_1 (N : Nat) : findI 1 (pricesL N) = some (.func (.func 56) #[] #[.pointer (some ⟨N + 1, 0, none⟩)]) := Eq.trans rfl rfl
@[go_sem] theorem pricesL_2 (N : Nat) : findI 2 (pricesL N) = some (.func (.func 56) #[] #[.pointer (some ⟨N + 2, 0, none⟩)]) := Eq.trans rfl rfl
@[go_sem] theorem pricesL_3 (N : Nat) : findI 3 (pricesL N) = some (.func (.func 58) #[] #[.pointer (some ⟨N + 3, 0, none⟩)]) := Eq.trans rfl rfl
@[go_sem] theorem pricesL_4 (N : Nat) : findI 4 (pricesL N) = some (.func (.func 56) #[] #[.pointer (some ⟨N + 4, 0, none⟩)]) := Eq.trans rfl rfl
@[go_sem] theorem pricesL_5 (N : Nat) : findI 5 (pricesL N) = some (.func (.func 58) #[] #[.pointer (some ⟨N + 5, 0, none⟩)]) := Eq.trans rfl rfl
theorem pricesL_no (N : Nat) {k : Int} (h : okK k = false) : findI k (pricesL N) = none := by
  simp [okK] at h
  simp [pricesL, findI, h]

theorem of_1 (n : Int) (w : World) (h : okN n = true) :
    Calls Try.prog 29 #[.int .i64 1, .int .i64 n] w fun e w' => e = .returned (.tuple #[.int .u64 (priceOf 1 n), .int .i64 0]) ∧ Below w.heap.size w w' := by
  have hlk := fun n w l => @run_lookI_allocs Try.prog 87 _ _ _ Try.underlying87 Try.underlying62 .nilFunc (fun w => by kernel_rfl) n w l [boxI 3, boxI 6, boxI 8, boxI 2, boxI 50]
  have hb := nWords_bd n h
  have h1 : 0 ≤ n ∧ n ≤ 16777216 := by simpa [okN] using h
  have hfin := Lib.hid (show IntKind.u64.wrap (3 * nWords n) = priceOf 1 n by simp [priceOf, IntKind.wrap, IntKind.bits, IntKind.signed]; omega)
  clear hb h1
  go_enter Try.func29, Try.ntmps29
  go_wp2_with (first
    | (go_at_call 44; refine (prices_any _).mono ?_; rintro e w' ⟨rfl, rfl⟩)
    | (go_at_call 45; refine (right_any _ n _ (World.cell?_alloc_new _ _ _ _)).mono ?_; rintro e w' ⟨rfl, rfl⟩)
    | (go_at_call 56; refine (perF_any n 3 _ _ h (by decide) ?_).mono ?_; rotate_left 1; rintro e w' ⟨rfl, hb⟩))
  · go_ret2
    exact ⟨by simp [hfin.out], xtrans (xalloc (by simp only [allocs]; repeat (first | exact xrefl _ | refine xalloc ?_ _)) _) hb⟩
  · simp [allocs, go_sem, boxI]

theorem of_2 (n : Int) (w : World) (h : okN n = true) :
    Calls Try.prog 29 #[.int .i64 2, .int .i64 n] w fun e w' => e = .returned (.tuple #[.int .u64 (priceOf 2 n), .int .i64 0]) ∧ Below w.heap.size w w' := by
  have hlk := fun n w l => @run_lookI_allocs Try.prog 87 _ _ _ Try.underlying87 Try.underlying62 .nilFunc (fun w => by kernel_rfl) n w l [boxI 3, boxI 6, boxI 8, boxI 2, boxI 50]
  have hb := nWords_bd n h
  have h1 : 0 ≤ n ∧ n ≤ 16777216 := by simpa [okN] using h
  have hfin := Lib.hid (show IntKind.u64.wrap (6 * nWords n) = priceOf 2 n by simp [priceOf, IntKind.wrap, IntKind.bits, IntKind.signed]; omega)
  clear hb h1
  go_enter Try.func29, Try.ntmps29
  go_wp2_with (first
    | (go_at_call 44; refine (prices_any _).mono ?_; rintro e w' ⟨rfl, rfl⟩)
    | (go_at_call 45; refine (right_any _ n _ (World.cell?_alloc_new _ _ _ _)).mono ?_; rintro e w' ⟨rfl, rfl⟩)
    | (go_at_call 56; refine (perF_any n 6 _ _ h (by decide) ?_).mono ?_; rotate_left 1; rintro e w' ⟨rfl, hb⟩))
  · go_ret2
    exact ⟨by simp [hfin.out], xtrans (xalloc (by simp only [allocs]; repeat (first | exact xrefl _ | refine xalloc ?_ _)) _) hb⟩
  · simp [allocs, go_sem, boxI]

theorem of_3 (n : Int) (w : World) (h : okN n = true) :
    Calls Try.prog 29 #[.int .i64 3, .int .i64 n] w fun e w' => e = .returned (.tuple #[.int .u64 (priceOf 3 n), .int .i64 0]) ∧ Below w.heap.size w w' := by
  have hlk := fun n w l => @run_lookI_allocs Try.prog 87 _ _ _ Try.underlying87 Try.underlying62 .nilFunc (fun w => by kernel_rfl) n w l [boxI 3, boxI 6, boxI 8, boxI 2, boxI 50]
  have hb := nWords_bd n h
  have h1 : 0 ≤ n ∧ n ≤ 16777216 := by simpa [okN] using h
  have hfin := Lib.hid (show IntKind.u64.wrap (8 * n) = priceOf 3 n by simp [priceOf, IntKind.wrap, IntKind.bits, IntKind.signed]; omega)
  clear hb h1
  go_enter Try.func29, Try.ntmps29
  go_wp2_with (first
    | (go_at_call 44; refine (prices_any _).mono ?_; rintro e w' ⟨rfl, rfl⟩)
    | (go_at_call 45; refine (right_any _ n _ (World.cell?_alloc_new _ _ _ _)).mono ?_; rintro e w' ⟨rfl, rfl⟩)
    | (go_at_call 58; refine (eachF_any n 8 _ _ h (by decide) ?_).mono ?_; rotate_left 1; rintro e w' ⟨rfl, hb⟩))
  · go_ret2
    exact ⟨by simp [hfin.out], xtrans (xalloc (by simp only [allocs]; repeat (first | exact xrefl _ | refine xalloc ?_ _)) _) hb⟩
  · simp [allocs, go_sem, boxI]

theorem of_4 (n : Int) (w : World) (h : okN n = true) :
    Calls Try.prog 29 #[.int .i64 4, .int .i64 n] w fun e w' => e = .returned (.tuple #[.int .u64 (priceOf 4 n), .int .i64 0]) ∧ Below w.heap.size w w' := by
  have hlk := fun n w l => @run_lookI_allocs Try.prog 87 _ _ _ Try.underlying87 Try.underlying62 .nilFunc (fun w => by kernel_rfl) n w l [boxI 3, boxI 6, boxI 8, boxI 2, boxI 50]
  have hb := nWords_bd n h
  have h1 : 0 ≤ n ∧ n ≤ 16777216 := by simpa [okN] using h
  have hfin := Lib.hid (show IntKind.u64.wrap (2 * nWords n) = priceOf 4 n by simp [priceOf, IntKind.wrap, IntKind.bits, IntKind.signed]; omega)
  clear hb h1
  go_enter Try.func29, Try.ntmps29
  go_wp2_with (first
    | (go_at_call 44; refine (prices_any _).mono ?_; rintro e w' ⟨rfl, rfl⟩)
    | (go_at_call 45; refine (right_any _ n _ (World.cell?_alloc_new _ _ _ _)).mono ?_; rintro e w' ⟨rfl, rfl⟩)
    | (go_at_call 56; refine (perF_any n 2 _ _ h (by decide) ?_).mono ?_; rotate_left 1; rintro e w' ⟨rfl, hb⟩))
  · go_ret2
    exact ⟨by simp [hfin.out], xtrans (xalloc (by simp only [allocs]; repeat (first | exact xrefl _ | refine xalloc ?_ _)) _) hb⟩
  · simp [allocs, go_sem, boxI]

theorem of_5 (n : Int) (w : World) (h : okN n = true) :
    Calls Try.prog 29 #[.int .i64 5, .int .i64 n] w fun e w' => e = .returned (.tuple #[.int .u64 (priceOf 5 n), .int .i64 0]) ∧ Below w.heap.size w w' := by
  have hlk := fun n w l => @run_lookI_allocs Try.prog 87 _ _ _ Try.underlying87 Try.underlying62 .nilFunc (fun w => by kernel_rfl) n w l [boxI 3, boxI 6, boxI 8, boxI 2, boxI 50]
  have hb := nWords_bd n h
  have h1 : 0 ≤ n ∧ n ≤ 16777216 := by simpa [okN] using h
  have hfin := Lib.hid (show IntKind.u64.wrap (50 * n) = priceOf 5 n by simp [priceOf, IntKind.wrap, IntKind.bits, IntKind.signed]; omega)
  clear hb h1
  go_enter Try.func29, Try.ntmps29
  go_wp2_with (first
    | (go_at_call 44; refine (prices_any _).mono ?_; rintro e w' ⟨rfl, rfl⟩)
    | (go_at_call 45; refine (right_any _ n _ (World.cell?_alloc_new _ _ _ _)).mono ?_; rintro e w' ⟨rfl, rfl⟩)
    | (go_at_call 58; refine (eachF_any n 50 _ _ h (by decide) ?_).mono ?_; rotate_left 1; rintro e w' ⟨rfl, hb⟩))
  · go_ret2
    exact ⟨by simp [hfin.out], xtrans (xalloc (by simp only [allocs]; repeat (first | exact xrefl _ | refine xalloc ?_ _)) _) hb⟩
  · simp [allocs, go_sem, boxI]

end Go.Proofs.Ytioihjgobmbanaa
