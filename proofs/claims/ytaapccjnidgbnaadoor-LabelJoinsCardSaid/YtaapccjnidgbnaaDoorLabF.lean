/- The walk of LabelTexts. -/
import Derived.Test.YtaapccjnidgbnaaDoorLabE
import Derived.Test.YtaapccjnidgbnaaDoorOpen
namespace Go.Proofs.YtaapccjnidgbnaaDoor
open Go.RowKit

theorem bits_of (x : Int) (h : 0 ≤ x ∧ x ≤ 18446744073709551615) : ∃ a : BitVec 64, x = iv64 a :=
  ⟨BitVec.ofNat 64 x.toNat, by unfold iv64; rw [BitVec.toNat_ofNat]; omega⟩
set_option maxRecDepth 100000 in
set_option maxHeartbeats 2000000 in
theorem labelTexts_walk (x : Int) (s : ByteArray) (w : World) (hx : 0 ≤ x ∧ x ≤ 18446744073709551615) (hs : s.size ≤ 9223372036854775807) (hT : Tab w) :
    Calls Tryd.prog 3 #[.int .u64 x, .string s] w (Yes w) := by
  obtain ⟨a, rfl⟩ := bits_of x hx
  clear hx
  by_cases hl : s.size > 300
  · replace hT := Lib.hid hT
    go_enter Tryd.func3, Tryd.ntmps3
    go_wp2_with (go_at_call 7; refine (works_any _ hT.out).mono ?_; rintro e w3 ⟨rfl, b3⟩)
    go_ret
    exact ⟨rfl, b3⟩
  · have htx := Lib.hid (text_any a)
    have hrx := Lib.hid (refText_any a)
    have hps := Lib.hid (fun W (h : Tab W) => parse_any s W (by omega) h)
    have hrs := Lib.hid (fun W => refParse_any s W (by omega))
    have hln : (textL a).length ≤ 200 := by
      unfold textL; split
      · decide
      · exact joinAll_len a
    have hpt := Lib.hid (fun W (h : Tab W) => parse_any ⟨(textL a).toArray⟩ W (by show (textL a).toArray.size ≤ _; simp; omega) h)
    have hpt2 : Hid (∀ W, Tab W → Calls Tryd.prog 9 #[.string ⟨(textL a).toArray⟩] W fun e w' => e = .returned (.tuple #[.int .u64 (iv64 a), .int .i64 0]) ∧ Below W.heap.size W w') := Lib.hid (by
      have := hpt.out
      rw [show (⟨(textL a).toArray⟩ : ByteArray).data.toList = textL a by simp, parseP_text] at this
      exact this)
    clear hpt
    rw [← parse_eq] at hrs
    unfold strL at htx hrx
    generalize textL a = T at *
    cases hR : parseP s.data.toList with
    | some b =>
      rw [hR] at hps hrs
      unfold parV at hps
      unfold parR at hrs
      replace hR := Lib.hid hR
      replace hT := Lib.hid hT
      go_enter Tryd.func3, Tryd.ntmps3
      go_wp2_with (first
        | (go_at_call 8; refine (htx.out _ hT.out).mono ?_; rintro e w1 ⟨rfl, b1⟩; have T1 := Lib.hid (hT.out.below b1))
        | (go_at_call 9; (with_reducible refine (hpt2.out _ T1.out).mono ?_); rintro e w2 ⟨rfl, b2⟩; have T2 := Lib.hid (T1.out.below b2))
        | (go_at_call 9; (with_reducible refine (hps.out _ T2.out).mono ?_); rintro e w3 ⟨rfl, b3⟩; have T3 := Lib.hid (T2.out.below b3))
        | (go_at_call 10; refine (hrs.out _).mono ?_; rintro e w4 ⟨rfl, b4⟩; have T4 := Lib.hid (T3.out.below b4))
        | (go_at_call 11; refine (hrx.out _).mono ?_; rintro e w5 ⟨rfl, b5⟩; have T5 := Lib.hid (T4.out.below b5))
        | (go_at_call 12; refine (num_any _ _).mono ?_; rintro e w' ⟨rfl, rfl⟩)
        | (go_at_call 7; refine (works_any _ T5.out).mono ?_; rintro e w6 ⟨rfl, b6⟩))
      go_ret
      exact ⟨rfl, xtrans (xtrans (xtrans (xtrans (xtrans b1 b2) b3) b4) b5) b6⟩
    | none =>
      rw [hR] at hps hrs
      unfold parV at hps
      unfold parR at hrs
      replace hR := Lib.hid hR
      replace hT := Lib.hid hT
      go_enter Tryd.func3, Tryd.ntmps3
      go_wp2_with (first
        | (go_at_call 8; refine (htx.out _ hT.out).mono ?_; rintro e w1 ⟨rfl, b1⟩; have T1 := Lib.hid (hT.out.below b1))
        | (go_at_call 9; (with_reducible refine (hpt2.out _ T1.out).mono ?_); rintro e w2 ⟨rfl, b2⟩; have T2 := Lib.hid (T1.out.below b2))
        | (go_at_call 9; (with_reducible refine (hps.out _ T2.out).mono ?_); rintro e w3 ⟨rfl, b3⟩; have T3 := Lib.hid (T2.out.below b3))
        | (go_at_call 10; refine (hrs.out _).mono ?_; rintro e w4 ⟨rfl, b4⟩; have T4 := Lib.hid (T3.out.below b4))
        | (go_at_call 11; refine (hrx.out _).mono ?_; rintro e w5 ⟨rfl, b5⟩; have T5 := Lib.hid (T4.out.below b5))
        | (go_at_call 12; refine (num_any _ _).mono ?_; rintro e w' ⟨rfl, rfl⟩)
        | (go_at_call 7; refine (works_any _ T5.out).mono ?_; rintro e w6 ⟨rfl, b6⟩))
      go_ret
      exact ⟨rfl, xtrans (xtrans (xtrans (xtrans (xtrans b1 b2) b3) b4) b5) b6⟩
end Go.Proofs.YtaapccjnidgbnaaDoor
