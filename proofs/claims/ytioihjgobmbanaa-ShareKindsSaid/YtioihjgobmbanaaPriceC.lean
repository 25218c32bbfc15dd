/- Layer 20: prices by kinds. -/
import Derived.Test.YtioihjgobmbanaaConcatB
namespace Go.Proofs.Ytioihjgobmbanaa
open Go.RowKit

def okN (n : Int) : Bool := decide (0 ≤ n) && decide (n ≤ 16777216)
def nWords (n : Int) : Int := (n + 31) / 32

theorem right1_any (n : Int) (w : World) :
    Calls Try.prog 60 #[.int .i64 n] w fun e w' => e = .returned (.bool !okN n) ∧ w = w' := by
  by_cases h1 : n < 0
  · have e : okN n = false := by simp [okN]; omega
    rw [e]
    go_enter Try.func60, Try.ntmps60
    go_wp2
    go_ret
    exact ⟨rfl, rfl⟩
  · by_cases h2 : n > 16777216
    · have e : okN n = false := by simp [okN]; omega
      rw [e]
      go_enter Try.func60, Try.ntmps60
      go_wp2
      go_ret
      exact ⟨by simp [h2], rfl⟩
    · have e : okN n = true := by simp [okN]; omega
      rw [e]
      go_enter Try.func60, Try.ntmps60
      go_wp2
      go_ret
      exact ⟨by simp [h2], rfl⟩

theorem indexFunc1 (b : Nat) (n : Int) (w : World) (hc : w.cell? ⟨b, 0, none⟩ = some (.int .i64 n)) :
    Calls Try.prog 65 #[.slice (some ⟨b, 0, none⟩) 1 1, .func (.func 60) #[] #[]] w fun e w' => e = .returned (.int .i64 (if okN n then -1 else 0)) ∧ w = w' := by
  cases hk : okN n
  all_goals
    go_enter Try.func65, Try.ntmps65
    go_wp2
    go_loop [8] (fun i => i = .int .i64 0 ∨ (i = .int .i64 1 ∧ okN n = true)) (fun i => 1 - (intOf i).toNat)
    case atStart => exact .inl rfl
    case round =>
      rcases hrel with rfl | ⟨rfl, h1⟩
      · go_wp2_with (go_at_call 60; refine (right1_any _ _).mono ?_; rintro e w' ⟨rfl, rfl⟩)
        all_goals first
          | (go_ret; exact ⟨rfl, rfl⟩)
          | (go_round; (case rel => exact .inr ⟨rfl, hk⟩); (case measure => simp [intOf]))
      · first
          | (rw [hk] at h1; cases h1; done)
          | (go_wp2; go_ret; exact ⟨rfl, rfl⟩)

theorem right_any (b : Nat) (n : Int) (w : World) (hc : w.cell? ⟨b, 0, none⟩ = some (.int .i64 n)) :
    Calls Try.prog 45 #[.slice (some ⟨b, 0, none⟩) 1 1] w fun e w' => e = .returned (.bool (okN n)) ∧ w = w' := by
  have hf : Calls Try.prog 59 #[.slice (some ⟨b, 0, none⟩) 1 1, .func (.func 60) #[] #[]] w fun e w' => e = .returned (.bool !(okN n)) ∧ w = w' := by
    cases hk : okN n
    all_goals
      have hi := indexFunc1 b n w hc
      rw [hk] at hi
      have Hi := Lib.hid hi
      clear hi hk
      go_enter Try.func59, Try.ntmps59
      go_wp2_with (go_at_call 65; refine Hi.out.mono ?_; rintro e w' ⟨rfl, rfl⟩)
      go_ret
      exact ⟨rfl, rfl⟩
  have Hf := Lib.hid hf
  clear hf
  go_enter Try.func45, Try.ntmps45
  go_wp2_with (go_at_call 59; refine Hf.out.mono ?_; rintro e w' ⟨rfl, rfl⟩)
  go_ret
  exact ⟨by simp, rfl⟩

theorem words_any (n : Int) (w : World) (h : okN n = true) :
    Calls Try.prog 46 #[.int .i64 n] w fun e w' => e = .returned (.int .i64 (nWords n)) ∧ w = w' := by
  have h1 : 0 ≤ n ∧ n ≤ 16777216 := by simpa [okN] using h
  obtain ⟨h1, h2⟩ := h1
  clear h
  go_enter Try.func46, Try.ntmps46
  go_wp2
  go_ret
  exact ⟨by simp [nWords]; omega, rfl⟩

theorem Words_any (n : Int) (w : World) :
    Calls Try.prog 30 #[.int .i64 n] w fun e w' => e = .returned (.tuple #[.int .i64 (if okN n then nWords n else 0), .int .i64 (if okN n then 0 else 2)]) ∧ Below w.heap.size w w' := by
  cases hk : okN n
  all_goals
    go_enter Try.func30, Try.ntmps30
    go_wp2_with (first
      | (go_at_call 45; refine (right_any _ n _ (World.cell?_alloc_new _ _ _ _)).mono ?_; rintro e w' ⟨rfl, rfl⟩)
      | (go_at_call 46; refine (words_any _ _ hk).mono ?_; rintro e w' ⟨rfl, rfl⟩))
    go_ret2
    exact ⟨rfl, xalloc (xrefl _) _⟩

theorem refWords_any (n : Int) (w : World) (h : okN n = true) :
    Calls Try.prog 32 #[.int .i64 n] w fun e w' => e = .returned (.int .i64 (nWords n)) ∧ w = w' := by
  have h1 : 0 ≤ n ∧ n ≤ 16777216 := by simpa [okN] using h
  obtain ⟨h1, h2⟩ := h1
  clear h
  go_enter Try.func32, Try.ntmps32
  go_wp2
  go_ret
  exact ⟨rfl, rfl⟩

theorem refRight_any (n : Int) (w : World) :
    Calls Try.prog 47 #[.int .i64 n] w fun e w' => e = .returned (.bool (okN n)) ∧ w = w' := by
  by_cases h1 : n ≥ 0
  · by_cases h2 : n ≤ 16777216
    · have e : okN n = true := by simp [okN]; omega
      rw [e]
      go_enter Try.func47, Try.ntmps47
      go_wp2
      go_ret
      exact ⟨by simp [h2], rfl⟩
    · have e : okN n = false := by simp [okN]; omega
      rw [e]
      go_enter Try.func47, Try.ntmps47
      go_wp2
      go_ret
      exact ⟨by simp [h2], rfl⟩
  · have e : okN n = false := by simp [okN]; omega
    rw [e]
    go_enter Try.func47, Try.ntmps47
    go_wp2
    go_ret
    exact ⟨rfl, rfl⟩

end Go.Proofs.Ytioihjgobmbanaa
