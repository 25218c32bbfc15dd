/- The walk of ShareBegins. -/
import Derived.Test.YtioihjgobmbanaaShareM
namespace Go.Proofs.Ytioihjgobmbanaa
open Go.RowKit

theorem begin_both (a : Option Addr) (c : Nat) (zs : List Int) (m : Bool) (hs : zs.length ≤ 140737488355328) (hn : a = none → c = 0) : ∃ v e : Int, (e = 0 ∨ e = 2 ∨ e = 3) ∧
    ∀ w, RowAt .u8 w a zs →
    Calls Try.prog 18 #[.slice a zs.length c, .bool m] w (fun x w' => x = .returned (.tuple #[.int .u64 v, .int .i64 e]) ∧ Below w.heap.size w w') ∧
    Calls Try.prog 19 #[.slice a zs.length c, .bool m] w (fun x w' => x = .returned (.tuple #[.int .u64 v, .int .i64 e]) ∧ w = w') := by
  cases m
  · exact ⟨_, 0, by simp, fun w hr => ⟨begin_0 a c zs w hs hr hn, refBegin_0 a c zs w hs hr⟩⟩
  · by_cases hl : 49152 < (zs.length : Int)
    · exact ⟨_, 3, by simp, fun w hr => ⟨begin_long a c zs w hl, refBegin_long a c zs w hs hl hr⟩⟩
    · exact ⟨_, 0, by simp, fun w hr => ⟨begin_1 a c zs w (by omega) hr hn, refBegin_1 a c zs w (by omega) hr⟩⟩

set_option maxRecDepth 100000 in
set_option maxHeartbeats 1000000 in
theorem shareBegins_walk (l0 l1 l2 : Bool) (a : Option Addr) (c : Nat) (zs : List Int) (n : Int) (w : World)
    (hl : zs.length ≤ 9223372036854775807) (hr : RowAt .u8 w a zs) (ha : a = none → c = 0) (hw : ∀ z ∈ zs, (Lit.int .u8 z).wf = true) (hn : -9223372036854775808 ≤ n ∧ n ≤ 9223372036854775807) :
    Calls Try.prog 5 #[.agg #[.bool l0, .bool l1, .bool l2], .slice a zs.length c, .int .i64 n] w (Yes w) := by
  have H := Lib.hid hr
  have Ha := Lib.hid ha
  clear hr hw ha
  by_cases h1 : (zs.length : Int) > 300
  · go_enter Try.func5, Try.ntmps5
    go_wp2_with (go_at_call 13; refine (works_any _).mono ?_; rintro e w3 ⟨rfl, b3⟩)
    go_ret
    exact ⟨rfl, xtrans (xalloc (xrefl _) _) b3⟩
  · by_cases h2 : n > 48000 ∧ n < 50000
    · obtain ⟨h2, h3⟩ := h2
      obtain ⟨m, rfl⟩ := Int.eq_ofNat_of_zero_le (show 0 ≤ n by omega)
      obtain ⟨i0, hi, hz0, hz1, hz2⟩ := info_parts Try.infoU8
      have h63a : 0 + zs.length ≤ maxLen := by unfold maxLen; omega
      have h63b : 0 + zs.length + m ≤ maxLen := by unfold maxLen; omega
      go_enter Try.func5, Try.ntmps5
      have hz : (m : Int) > 0 := by omega
      go_wp2_with (first
        | (at_builtin; refine wpList_append_row _ rfl _ _ 35 rfl (w.heap.size + 1) 5 i0 (.int .u8 0) 1 Try.underlying35 hi hz0 hz1 hz2 rfl _ _ _ rfl (own_empty1 w _ _) a c .u8 zs rfl Ha.out (H.out.below (xalloc (xalloc (xrefl _) _) _)) h63a (by omega) (by simp) ?_; intro v1 w1 ho1 hg1; have b1 : Below (w.heap.size + 1) (w.alloc (.cells #[.bool l0, .bool l1, .bool l2] 22)) w1 := (own_below w _ _).grown hg1 (by simp) (fun k hk => ((own_empty1 w (.cells #[.bool l0, .bool l1, .bool l2] 22) 5).lt k hk).1); have bs1 := b1.size; clear hg1)
        | (at_builtin; refine wpList_append_zeros _ rfl _ _ 35 3 rfl (w.heap.size + 1) 5 i0 (.int .u8 0) 1 .i64 .i64 Try.underlying35 Try.underlying3 hi hz0 hz1 hz2 rfl rfl _ _ _ rfl ho1 m rfl (by omega) h63b (by omega) (by simpa using bs1) ?_; intro v2 w2 ho2 hg2; have b2 : Below (w.heap.size + 1) (w.alloc (.cells #[.bool l0, .bool l1, .bool l2] 22)) w2 := b1.grown hg2 (by simpa using bs1) (fun k hk => (ho1.lt k hk).1); clear hg2 ho1; rw [List.nil_append, RowAt.own_zeros] at ho2; obtain ⟨L, hLd⟩ : ∃ L, L = zs ++ List.replicate m 0 := ⟨_, rfl⟩; rw [← hLd] at ho2; clear hLd; obtain ⟨a2, c2, rfl, hr2, hn2, _, hl2⟩ := rowAt_own ho2; have HR := Lib.hid hr2; clear hr2 ho2; have hL : L.length ≤ 140737488355328 := (by omega); clear hl2; obtain ⟨bv, be, hbe, hbg⟩ := begin_both a2 c2 L l0 hL hn2; have Hbe := Lib.hid hbe; have Hbg := Lib.hid hbg; clear hbe hbg hn2; have hc0 := b2.cell (p := ⟨w.heap.size, 0, none⟩) (by simp); have hc1 := b2.cell (p := ⟨w.heap.size, 1, none⟩) (by simp); have hc2 := b2.cell (p := ⟨w.heap.size, 2, none⟩) (by simp); simp only [World.cell?_alloc_new] at hc0 hc1 hc2; have hb0 : Below w.heap.size w w2 := (xalloc (xrefl w) _).trans (b2.mono (by omega)))
        | (go_at_call 18; refine ((Hbg.out _ HR.out).1).mono ?_; rintro e w3 ⟨rfl, b3⟩; have d0 := cbel b3 hc0; have d1 := cbel b3 hc1; have d2 := cbel b3 hc2)
        | (go_at_call 19; refine ((Hbg.out _ (HR.out.below b3)).2).mono ?_; rintro e w' ⟨rfl, rfl⟩))
      clear hc0 hc1 hc2
      go_region_held3 (fun w' => w'.cell? ⟨w.heap.size, 0, none⟩ = some (.bool l0) ∧ w'.cell? ⟨w.heap.size, 1, none⟩ = some (.bool l1) ∧ w'.cell? ⟨w.heap.size, 2, none⟩ = some (.bool l2)) (first | exact ⟨d0, d1, d2⟩ | exact ⟨cbel b4 d0, cbel b4 d1, cbel b4 d2⟩ | exact ⟨cbel b5 (cbel b4 d0), cbel b5 (cbel b4 d1), cbel b5 (cbel b4 d2)⟩) (first
        | (go_at_call 20; refine (end_any _ _ _ _).mono ?_; rintro e w4 ⟨rfl, b4⟩)
        | (go_at_call 21; refine (refEnd_any _ _ _ _).mono ?_; rintro e w' ⟨rfl, rfl⟩)
        | (go_at_call 10; refine (num3 _ _ Hbe.out).mono ?_; rintro e w' ⟨rfl, rfl⟩)
        | (go_at_call 13; refine (works_any _).mono ?_; rintro e w5 ⟨rfl, b5⟩))
      go_wp2
      go_ret
      exact ⟨rfl, xtrans (xtrans (xdrew (xtrans hb0 b3)) b4) b5⟩
    · have h2' : n ≤ 48000 ∨ 50000 ≤ n := by omega
      obtain ⟨bv, be, hbe, hbg⟩ := begin_both a c zs l0 (by omega) Ha.out
      have Hbe := Lib.hid hbe
      have Hbg := Lib.hid hbg
      clear hbe hbg
      have HR := Lib.hid (H.out.below (xalloc (xrefl w) (.cells #[.bool l0, .bool l1, .bool l2] 22)))
      have hc0 : (w.alloc (.cells #[.bool l0, .bool l1, .bool l2] 22)).cell? ⟨w.heap.size, 0, none⟩ = some (.bool l0) := by simp
      have hc1 : (w.alloc (.cells #[.bool l0, .bool l1, .bool l2] 22)).cell? ⟨w.heap.size, 1, none⟩ = some (.bool l1) := by simp
      have hc2 : (w.alloc (.cells #[.bool l0, .bool l1, .bool l2] 22)).cell? ⟨w.heap.size, 2, none⟩ = some (.bool l2) := by simp
      have hb0 := xalloc (xrefl w) (.cells #[.bool l0, .bool l1, .bool l2] 22)
      by_cases h3 : n > 48000
      all_goals
        have h4 : ¬ n > 48000 ∨ ¬ n < 50000 := by omega
        clear h2
        go_enter Try.func5, Try.ntmps5
        go_wp2_with (first
          | (go_at_call 18; refine ((Hbg.out _ HR.out).1).mono ?_; rintro e w3 ⟨rfl, b3⟩; have d0 := cbel b3 hc0; have d1 := cbel b3 hc1; have d2 := cbel b3 hc2)
          | (go_at_call 19; refine ((Hbg.out _ (HR.out.below b3)).2).mono ?_; rintro e w' ⟨rfl, rfl⟩))
        clear hc0 hc1 hc2
        go_region_held3 (fun w' => w'.cell? ⟨w.heap.size, 0, none⟩ = some (.bool l0) ∧ w'.cell? ⟨w.heap.size, 1, none⟩ = some (.bool l1) ∧ w'.cell? ⟨w.heap.size, 2, none⟩ = some (.bool l2)) (first | exact ⟨d0, d1, d2⟩ | exact ⟨cbel b4 d0, cbel b4 d1, cbel b4 d2⟩ | exact ⟨cbel b5 (cbel b4 d0), cbel b5 (cbel b4 d1), cbel b5 (cbel b4 d2)⟩) (first
          | (go_at_call 20; refine (end_any _ _ _ _).mono ?_; rintro e w4 ⟨rfl, b4⟩)
          | (go_at_call 21; refine (refEnd_any _ _ _ _).mono ?_; rintro e w' ⟨rfl, rfl⟩)
          | (go_at_call 10; refine (num3 _ _ Hbe.out).mono ?_; rintro e w' ⟨rfl, rfl⟩)
          | (go_at_call 13; refine (works_any _).mono ?_; rintro e w5 ⟨rfl, b5⟩))
        go_wp2
        go_ret
        exact ⟨rfl, xtrans (xtrans (xdrew (xtrans hb0 b3)) b4) b5⟩

end Go.Proofs.Ytioihjgobmbanaa
