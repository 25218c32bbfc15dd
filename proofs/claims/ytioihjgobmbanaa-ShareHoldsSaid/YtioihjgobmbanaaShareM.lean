/- The walk of ShareMakes. -/
import Derived.Test.YtioihjgobmbanaaShareW
namespace Go.Proofs.Ytioihjgobmbanaa
open Go.RowKit

/-- The end of the law: what the chapter and the document's answer say of k, n and of code. -/
theorem make_both (k n : Int) (w : World) : ∃ v e : Int, (e = 0 ∨ e = 2 ∨ e = 3) ∧
    Calls Try.prog 14 #[.int .i64 k, .int .i64 n] w (fun x w' => x = .returned (.tuple #[.int .u64 v, .int .i64 e]) ∧ Below w.heap.size w w') ∧
    ∀ w2, Calls Try.prog 15 #[.int .i64 k, .int .i64 n] w2 (fun x w' => x = .returned (.tuple #[.int .u64 v, .int .i64 e]) ∧ w2 = w') := by
  by_cases h : (k ≠ 1 ∧ k ≠ 2) ∨ n < 0
  · exact ⟨0, 2, by simp, make_arg k n w h, fun w2 => refMake_arg k n w2 h⟩
  · by_cases hl : 49152 < n
    · have hk : k = 1 ∨ k = 2 := by omega
      rcases hk with rfl | rfl
      · exact ⟨0, 3, by simp, make_long1 n w hl, fun w2 => refMake_long1 n w2 hl⟩
      · exact ⟨0, 3, by simp, make_long2 n w hl, fun w2 => refMake_long2 n w2 hl⟩
    · have hk : k = 1 ∨ k = 2 := by omega
      have hn : 0 ≤ n ∧ n ≤ 49152 := by omega
      rcases hk with rfl | rfl
      · exact ⟨makeCost 1 n, 0, by simp, make_ok1 n w hn, fun w2 => refMake_ok1 n w2 hn⟩
      · exact ⟨makeCost 2 n, 0, by simp, make_ok2 n w hn, fun w2 => refMake_ok2 n w2 hn⟩

theorem num3 (e : Int) (w : World) (h : e = 0 ∨ e = 2 ∨ e = 3) :
    Calls Try.prog 10 #[.int .i64 e] w fun x w' => x = .returned (.int .i64 e) ∧ w = w' := num_any e w (by omega)

set_option maxRecDepth 100000 in
theorem shareMakes_walk (k n : Int) (a : Option Addr) (c : Nat) (zs : List Int) (w : World) (hk : -9223372036854775808 ≤ k ∧ k ≤ 9223372036854775807) (hn : -9223372036854775808 ≤ n ∧ n ≤ 9223372036854775807)
    (hl : zs.length ≤ 9223372036854775807) (hr : RowAt .u8 w a zs) (ha : a = none → c = 0) (hw : ∀ z ∈ zs, (Lit.int .u8 z).wf = true) :
    Calls Try.prog 4 #[.int .i64 k, .int .i64 n, .slice a zs.length c] w (Yes w) := by
  have H := Lib.hid hr
  have Ha := Lib.hid ha
  clear hr hk hw ha
  by_cases h1 : (zs.length : Int) > 100
  · go_enter Try.func4, Try.ntmps4
    go_wp2_with (go_at_call 13; refine (works_any _).mono ?_; rintro e w3 ⟨rfl, b3⟩)
    go_ret
    exact ⟨rfl, b3⟩
  · by_cases h2 : n > 24000 ∧ n < 25000
    · obtain ⟨h2, h3⟩ := h2
      obtain ⟨m, rfl⟩ := Int.eq_ofNat_of_zero_le (show 0 ≤ n by omega)
      obtain ⟨i0, hi, hz0, hz1, hz2⟩ := info_parts Try.infoU8
      have h63a : 0 + zs.length ≤ maxLen := by unfold maxLen; omega
      have h63b : 0 + zs.length + m ≤ maxLen := by unfold maxLen; omega
      go_enter Try.func4, Try.ntmps4
      have hz : (m : Int) > 0 := by omega
      go_wp2_with (first
        | (at_builtin; refine wpList_append_row _ rfl _ _ 35 rfl w.heap.size 5 i0 (.int .u8 0) 1 Try.underlying35 hi hz0 hz1 hz2 rfl _ _ _ rfl (own_empty w _) a c .u8 zs rfl Ha.out (H.out.below (xalloc (xrefl _) _)) h63a (by omega) (by simp) ?_; intro v1 w1 ho1 hg1; have b1 : Below w.heap.size w w1 := (xalloc (xrefl w) (.cells #[] 5)).grown hg1 (by simp) (fun k hk => ((own_empty w 5).lt k hk).1); have bs1 := b1.size; clear hg1)
        | (at_builtin; refine wpList_append_zeros _ rfl _ _ 35 3 rfl w.heap.size 5 i0 (.int .u8 0) 1 .i64 .i64 Try.underlying35 Try.underlying3 hi hz0 hz1 hz2 rfl rfl _ _ _ rfl ho1 m rfl (by omega) h63b (by omega) bs1 ?_; intro v2 w2 ho2 hg2; have b2 : Below w.heap.size w w2 := b1.grown hg2 bs1 (fun k hk => (ho1.lt k hk).1); clear hg2 ho1; rw [List.nil_append, RowAt.own_zeros] at ho2; obtain ⟨L, hLd⟩ : ∃ L, L = zs ++ List.replicate m 0 := ⟨_, rfl⟩; rw [← hLd] at ho2; clear hLd; obtain ⟨a2, c2, rfl, hr2, _, _, hl2⟩ := rowAt_own ho2; have H2 := Lib.hid hr2; clear hr2 ho2; have hL : L.length ≤ 9223372036854775807 := (by omega); clear hl2)
        | fail)
      obtain ⟨mv, er, her, hmk, hrf⟩ := make_both k m w2
      refine hmk.mono ?_
      clear hmk
      have Hrf := Lib.hid hrf
      have Her := Lib.hid her
      clear hrf her
      rintro e w3 ⟨rfl, b3⟩
      go_wp2_with (first
        | (go_at_call 15; refine (Hrf.out _).mono ?_; rintro e w' ⟨rfl, rfl⟩)
        | (go_at_call 16; refine (keep_any _ _ L _ hL (H2.out.below b3)).mono ?_; rintro e w' ⟨rfl, rfl⟩)
        | (go_at_call 17; refine (refKeep_any _ _ L _ hL (H2.out.below b3)).mono ?_; rintro e w' ⟨rfl, rfl⟩)
        | (go_at_call 10; refine (num3 _ _ Her.out).mono ?_; rintro e w' ⟨rfl, rfl⟩)
        | (go_at_call 13; refine (works_any _).mono ?_; rintro e w4 ⟨rfl, b4⟩))
      go_ret
      exact ⟨by simp, xtrans (xtrans b2 b3) b4⟩
    · have h2' : n ≤ 24000 ∨ 25000 ≤ n := by omega
      by_cases h3 : n > 24000
      all_goals
        have h4 : ¬ n > 24000 ∨ ¬ n < 25000 := by omega
        clear h2
        go_enter Try.func4, Try.ntmps4
        go_wp2_with fail
        obtain ⟨mv, er, her, hmk, hrf⟩ := make_both k n w
        refine hmk.mono ?_
        clear hmk
        have Hrf := Lib.hid hrf
        have Her := Lib.hid her
        clear hrf her
        rintro e w3 ⟨rfl, b3⟩
        go_wp2_with (first
          | (go_at_call 15; refine (Hrf.out _).mono ?_; rintro e w' ⟨rfl, rfl⟩)
          | (go_at_call 16; refine (keep_any _ _ zs _ hl (H.out.below b3)).mono ?_; rintro e w' ⟨rfl, rfl⟩)
          | (go_at_call 17; refine (refKeep_any _ _ zs _ hl (H.out.below b3)).mono ?_; rintro e w' ⟨rfl, rfl⟩)
          | (go_at_call 10; refine (num3 _ _ Her.out).mono ?_; rintro e w' ⟨rfl, rfl⟩)
          | (go_at_call 13; refine (works_any _).mono ?_; rintro e w4 ⟨rfl, b4⟩))
        go_ret
        exact ⟨by simp, xtrans b3 b4⟩

end Go.Proofs.Ytioihjgobmbanaa
