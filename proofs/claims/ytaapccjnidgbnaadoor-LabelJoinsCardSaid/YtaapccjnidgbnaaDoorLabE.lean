/- Labels: the chapter's rows. -/
import Derived.Test.YtaapccjnidgbnaaDoorLabD
namespace Go.Proofs.YtaapccjnidgbnaaDoor
open Go.RowKit

theorem rowAt_new' {q : IntKind} {w : World} {n : Nat} (h : w.heap.size = n) (T : TypeId) (zs : List Int) : RowAt q (w.alloc (.cells (zs.map (Value.int q)).toArray T)) (some ⟨n, 0, none⟩) zs := h ▸ rowAt_new w T zs
theorem num_any (n : Int) (w : World) : Calls Tryd.prog 12 #[.int .i64 n] w fun e w' => e = .returned (.int .i64 n) ∧ w = w' := by
  go_enter Tryd.func12, Tryd.ntmps12
  go_wp2
  go_ret
  exact ⟨rfl, rfl⟩
theorem text5 : textL 5 = [48, 44, 50] := by
  have h : memL 5 = [0, 2] := by decide
  unfold textL
  rw [h, if_neg (by decide), List.map_cons, List.map_cons, dec_lo 0 (by decide), dec_lo 2 (by decide)]
  decide
theorem text1 : textL 1 = [48] := by
  have h : memL 1 = [0] := by decide
  unfold textL
  rw [h, if_neg (by decide), List.map_cons, dec_lo 0 (by decide)]
  decide
theorem p5 : parseP [48, 44, 50] = some 5 := by rw [← text5, parseP_text]
theorem p20 : parseP [50, 44, 48] = none := by rw [parseP_end (a := 5) (n := 0) (by decide) (by decide), text5, if_neg (by decide)]
theorem p64 : parseP [54, 52] = none := parseP_none (by decide) (by decide)
theorem p00 : parseP [48, 48] = none := by rw [parseP_end (a := 1) (n := 0) (by decide) (by decide), text1, if_neg (by decide)]
theorem parse_at (l : List UInt8) (v : Value) (h : parV (parseP l) = v) (hl : l.length ≤ 100) (w : World) (hT : Tab w) : Calls Tryd.prog 9 #[.string ⟨l.toArray⟩] w fun e w' => e = .returned v ∧ Below w.heap.size w w' := by
  have := parse_any ⟨l.toArray⟩ w (by show l.toArray.size ≤ _; simp; omega) hT
  rw [show (⟨l.toArray⟩ : ByteArray).data.toList = l by simp, h] at this
  exact this
theorem join_at (l : List (BitVec 64)) (x : Int) (h : iv64 (joinF l) = x) (hl : l.length ≤ 100) (w : World) (q : Nat) (hr : RowAt .u64 w (some ⟨q, 0, none⟩) (l.map iv64)) : Calls Tryd.prog 15 #[.slice (some ⟨q, 0, none⟩) l.length l.length] w fun e w' => e = .returned (.int .u64 x) ∧ w = w' := by
  rw [← h]; exact join_any l _ _ w hr (by omega)
theorem meet_at (l : List (BitVec 64)) (x : Int) (h : iv64 (meetF l) = x) (hl : l.length ≤ 100) (w : World) (q : Nat) (hr : RowAt .u64 w (some ⟨q, 0, none⟩) (l.map iv64)) : Calls Tryd.prog 16 #[.slice (some ⟨q, 0, none⟩) l.length l.length] w fun e w' => e = .returned (.int .u64 x) ∧ w = w' := by
  rw [← h]; exact meet_any l _ _ w hr (by omega)
set_option maxRecDepth 100000 in
set_option maxHeartbeats 2000000 in
theorem works_any (w : World) (hT : Tab w) : Calls Tryd.prog 7 #[] w fun e w' => e = .returned (.bool true) ∧ Below w.heap.size w w' := by
  have j16 : ∀ W (q : Nat), RowAt .u64 W (some ⟨q, 0, none⟩) [1, 6] → Calls Tryd.prog 15 #[.slice (some ⟨q, 0, none⟩) 2 2] W fun e w' => e = .returned (.int .u64 7) ∧ W = w' := join_at [1, 6] 7 (by decide) (by decide)
  have m36 : ∀ W (q : Nat), RowAt .u64 W (some ⟨q, 0, none⟩) [3, 6] → Calls Tryd.prog 16 #[.slice (some ⟨q, 0, none⟩) 2 2] W fun e w' => e = .returned (.int .u64 2) ∧ W = w' := meet_at [3, 6] 2 (by decide) (by decide)
  have m00 : ∀ W, Calls Tryd.prog 16 #[.slice none 0 0] W fun e w' => e = .returned (.int .u64 18446744073709551615) ∧ W = w' := fun W => meet_any [] none 0 W RowAt.nil (by decide)
  have b23 : ∀ W, Calls Tryd.prog 17 #[.int .u64 2, .int .u64 3] W fun e w' => e = .returned (.bool true) ∧ W = w' := fun W => below_any 2 3 W
  have b43 : ∀ W, Calls Tryd.prog 17 #[.int .u64 4, .int .u64 3] W fun e w' => e = .returned (.bool false) ∧ W = w' := fun W => below_any 4 3 W
  have tx0 : ∀ W, Tab W → Calls Tryd.prog 8 #[.int .u64 0] W fun e w' => e = .returned (.string ⟨#[45]⟩) ∧ Below W.heap.size W w' := fun W h => by have := text_any 0 W h; rw [text_zero] at this; exact this
  have tx5 : ∀ W, Tab W → Calls Tryd.prog 8 #[.int .u64 5] W fun e w' => e = .returned (.string ⟨#[48, 44, 50]⟩) ∧ Below W.heap.size W w' := fun W h => by have := text_any 5 W h; rw [text5] at this; exact this
  have q5 := parse_at [48, 44, 50] (.tuple #[.int .u64 5, .int .i64 0]) (by rw [p5]; rfl) (by decide)
  have q20 := parse_at [50, 44, 48] (.tuple #[.int .u64 0, .int .i64 180]) (by rw [p20]; rfl) (by decide)
  have q64 := parse_at [54, 52] (.tuple #[.int .u64 0, .int .i64 180]) (by rw [p64]; rfl) (by decide)
  have q00 := parse_at [48, 48] (.tuple #[.int .u64 0, .int .i64 180]) (by rw [p00]; rfl) (by decide)
  replace j16 := Lib.hid j16
  replace m36 := Lib.hid m36
  replace m00 := Lib.hid m00
  replace b23 := Lib.hid b23
  replace b43 := Lib.hid b43
  replace tx0 := Lib.hid tx0
  replace tx5 := Lib.hid tx5
  replace q5 := Lib.hid q5
  replace q20 := Lib.hid q20
  replace q64 := Lib.hid q64
  replace q00 := Lib.hid q00
  have hTt := hT
  replace hT := Lib.hid hT
  go_enter Tryd.func7, Tryd.ntmps7
  go_wp2_with (first
    | (go_at_call 9; (with_reducible refine (q5.out _ hT.out).mono ?_); rintro e w1 ⟨rfl, b1⟩; have T1 := Lib.hid (hT.out.below b1))
    | (go_at_call 9; (with_reducible refine (q20.out _ T1.out).mono ?_); rintro e w2 ⟨rfl, b2⟩; have T2 := Lib.hid (T1.out.below b2))
    | (go_at_call 9; (with_reducible refine (q64.out _ T2.out).mono ?_); rintro e w3 ⟨rfl, b3⟩; have T3 := Lib.hid (T2.out.below b3))
    | (go_at_call 9; (with_reducible refine (q00.out _ T3.out).mono ?_); rintro e w4 ⟨rfl, b4⟩; have T4 := Lib.hid (T3.out.below b4))
    | (go_at_call 15; refine (j16.out _ _ (rowAt_new _ _ [1, 6])).mono ?_; rintro e w' ⟨rfl, rfl⟩)
    | (go_at_call 16; (with_reducible refine (m00.out _).mono ?_); rintro e w' ⟨rfl, rfl⟩)
    | (go_at_call 16; refine (m36.out _ _ (rowAt_new' (by simp) _ [3, 6])).mono ?_; rintro e w' ⟨rfl, rfl⟩)
    | (go_at_call 17; (with_reducible refine (b23.out _).mono ?_); rintro e w' ⟨rfl, rfl⟩)
    | (go_at_call 17; (with_reducible refine (b43.out _).mono ?_); rintro e w' ⟨rfl, rfl⟩)
    | (go_at_call 8; (with_reducible refine (tx0.out _ (T4.out.below (xalloc (xalloc (xrefl _) _) _))).mono ?_); rintro e w5 ⟨rfl, b5⟩; have T5 := Lib.hid ((T4.out.below (xalloc (xalloc (xrefl _) _) _)).below b5))
    | (go_at_call 8; (with_reducible refine (tx5.out _ T5.out).mono ?_); rintro e w6 ⟨rfl, b6⟩)
    | (go_at_call 12; refine (num_any _ _).mono ?_; rintro e w' ⟨rfl, rfl⟩))
  go_ret
  exact ⟨rfl, xtrans (xtrans (xalloc (xalloc (xtrans (xtrans (xtrans b1 b2) b3) b4) _) _) b5) b6⟩
end Go.Proofs.YtaapccjnidgbnaaDoor
