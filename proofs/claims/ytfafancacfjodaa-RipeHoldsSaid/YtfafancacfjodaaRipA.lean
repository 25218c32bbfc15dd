/- Layer 24, the document's answer: the numbers that steps take, turns, F. -/
import Derived.Test.YtfafancacfjodaaRipV
namespace Go.Proofs.Ytfafancacfjodaa
open Go.RowKit

theorem refOrd_any (n : Nat) (w : World) (hn : n < 16) :
    Calls Try.prog 28 #[.int .i64 n] w fun e w' => e = .returned (.int .i64 (ordN n)) ∧ Below w.heap.size w w' := by
  have hc : (w.alloc (Obj.cells #[.int .i64 7, .int .i64 4, .int .i64 13, .int .i64 1, .int .i64 10, .int .i64 6, .int .i64 15, .int .i64 3, .int .i64 12, .int .i64 0, .int .i64 9, .int .i64 5, .int .i64 2, .int .i64 14, .int .i64 11, .int .i64 8] 3)).cell? ⟨w.heap.size, n, none⟩ = some (.int .i64 (ordN n)) := by
    have := (Blk.new (q := .i64) w 3 ordL).cell n hn
    rw [ord_get] at this
    exact this
  have h16 : (n : Int) < 16 := by omega
  go_enter Try.func28, Try.ntmps28
  go_wp2
  go_ret
  exact ⟨rfl, xalloc (xrefl w) _⟩

theorem refTakes_any (second : Bool) (k : Nat) (w : World) (hk : k < 80) :
    Calls Try.prog 13 #[.bool second, .int .i64 k] w fun e w' => e = .returned (.int .i64 (takeN second k)) ∧ Below w.heap.size w w' := by
  have hs : ((9 * ((k : Int) % 16) + 5) % 16) = (startN true k : Int) := by simp [startN]
  have hs' : ((k : Int) % 16) = (startN false k : Int) := by simp [startN]
  obtain ⟨T, hT⟩ : ∃ T, T = takeN second k := ⟨_, rfl⟩
  rw [← hT]
  have hq : (k : Int) / 16 = ((k / 16 : Nat) : Int) := by omega
  have hq5 : k / 16 < 5 := by omega
  have hfin : Hid (iterO (startN second k) (k / 16) = T) := Lib.hid hT.symm
  clear hT
  have hst : ∀ i, iterO (startN second k) i < 16 := iterO_lt _ (start_lt second k)
  replace hst := Lib.hid hst
  go_enter Try.func13, Try.ntmps13
  cases second
  · clear hs
    go_wp2_with fail
    rw [hs']
    generalize hse : startN false k = s at *
    replace hse := Lib.hid hse
    generalize k / 16 = q at *
    go_loopw [5, 6] (fun nv iv wx => ∃ i : Nat, i ≤ q ∧ iv = .int .i64 i ∧ nv = .int .i64 (iterO s i) ∧ Below w.heap.size w wx) (fun _ iv _ => q - (intOf iv).toNat)
    case atStart => exact ⟨0, by omega, rfl, rfl, xrefl w⟩
    case round =>
      obtain ⟨i, hi, rfl, rfl, hb⟩ := hrel
      by_cases hlt : i < q
      · have hx := hst.out i
        have hnx := Lib.hid (show ordN (iterO s i) = iterO s (i + 1) from rfl)
        generalize iterO s i = x at *
        go_wp2_with (go_at_call 28; refine (refOrd_any x _ hx).mono ?_; rintro e w2 ⟨rfl, hb2⟩)
        exact ⟨⟨i + 1, by omega, rfl, by rw [← hnx.out], xtrans hb hb2⟩, by simp [intOf]; omega⟩
      · obtain rfl : i = q := by omega
        clear hlt
        go_wp2
        go_ret
        have hf := hfin.out
        exact ⟨by rw [← hf]; rfl, hb⟩
  · clear hs'
    go_wp2_with fail
    first | rw [hs] | skip
    generalize hse : startN true k = s at *
    replace hse := Lib.hid hse
    generalize k / 16 = q at *
    go_loopw [5, 6] (fun nv iv wx => ∃ i : Nat, i ≤ q ∧ iv = .int .i64 i ∧ nv = .int .i64 (iterO s i) ∧ Below w.heap.size w wx) (fun _ iv _ => q - (intOf iv).toNat)
    case atStart => exact ⟨0, by omega, rfl, rfl, xrefl w⟩
    case round =>
      obtain ⟨i, hi, rfl, rfl, hb⟩ := hrel
      by_cases hlt : i < q
      · have hx := hst.out i
        have hnx := Lib.hid (show ordN (iterO s i) = iterO s (i + 1) from rfl)
        generalize iterO s i = x at *
        go_wp2_with (go_at_call 28; refine (refOrd_any x _ hx).mono ?_; rintro e w2 ⟨rfl, hb2⟩)
        exact ⟨⟨i + 1, by omega, rfl, by rw [← hnx.out], xtrans hb hb2⟩, by simp [intOf]; omega⟩
      · obtain rfl : i = q := by omega
        clear hlt
        go_wp2
        go_ret
        have hf := hfin.out
        exact ⟨by rw [← hf]; rfl, hb⟩

set_option maxRecDepth 100000 in
set_option maxHeartbeats 1000000 in
theorem refTurn_any (r n : Nat) (w : World) (hr : r < 5) (hn : n < 16) :
    Calls Try.prog 43 #[.int .i64 r, .int .i64 n] w fun e w' => e = .returned (.int .i64 (turnN r n)) ∧ Below w.heap.size w w' := by
  have h16 : (n : Int) < 16 := by omega
  go_enter Try.func43, Try.ntmps43
  go_upto_region 1 with fail
  refine wp_region_lit ?_
  refine wpList_row rfl .i64 [11, 14, 15, 12, 5, 8, 7, 9, 11, 13, 14, 15, 6, 7, 9, 8] 3 (by go_simp) ?_
  intro b0 w0 e0 hB0 hb0
  replace e0 := Lib.hid e0
  replace hb0 := Lib.hid hb0
  simp only [Act.put, List.setIfInBounds_toArray, List.set_cons_succ, List.set_cons_zero, List.nil_append, List.cons_append, List.length_cons, List.length_nil, Nat.zero_add, Nat.reduceAdd]
  refine wpList_row rfl .i64 [12, 13, 11, 15, 6, 9, 9, 7, 12, 15, 11, 13, 7, 8, 7, 7] 3 (by go_simp) ?_
  intro b1 w1 e1 hB1 hb1
  replace e1 := Lib.hid e1
  replace hb1 := Lib.hid hb1
  simp only [Act.put, List.setIfInBounds_toArray, List.set_cons_succ, List.set_cons_zero, List.nil_append, List.cons_append, List.length_cons, List.length_nil, Nat.zero_add, Nat.reduceAdd]
  refine wpList_row rfl .i64 [13, 15, 14, 11, 7, 7, 6, 8, 13, 14, 13, 12, 5, 5, 6, 9] 3 (by go_simp) ?_
  intro b2 w2 e2 hB2 hb2
  replace e2 := Lib.hid e2
  replace hb2 := Lib.hid hb2
  simp only [Act.put, List.setIfInBounds_toArray, List.set_cons_succ, List.set_cons_zero, List.nil_append, List.cons_append, List.length_cons, List.length_nil, Nat.zero_add, Nat.reduceAdd]
  refine wpList_row rfl .i64 [14, 11, 12, 14, 8, 6, 5, 5, 15, 12, 15, 14, 9, 9, 8, 6] 3 (by go_simp) ?_
  intro b3 w3 e3 hB3 hb3
  replace e3 := Lib.hid e3
  replace hb3 := Lib.hid hb3
  simp only [Act.put, List.setIfInBounds_toArray, List.set_cons_succ, List.set_cons_zero, List.nil_append, List.cons_append, List.length_cons, List.length_nil, Nat.zero_add, Nat.reduceAdd]
  refine wpList_row rfl .i64 [15, 12, 13, 13, 9, 5, 8, 6, 14, 11, 12, 11, 8, 6, 5, 5] 3 (by go_simp) ?_
  intro b4 w4 e4 hB4 hb4
  replace e4 := Lib.hid e4
  replace hb4 := Lib.hid hb4
  simp only [Act.put, List.setIfInBounds_toArray, List.set_cons_succ, List.set_cons_zero, List.nil_append, List.cons_append, List.length_cons, List.length_nil, Nat.zero_add, Nat.reduceAdd]
  have x4 := xrefl w4
  have x3 := xtrans hb4.out x4
  have x2 := xtrans hb3.out x3
  have x1 := xtrans hb2.out x2
  have x0 := xtrans hb1.out x1
  have xw := Lib.hid (xtrans hb0.out x0)
  have hc0 : ∀ O, (w4.alloc O).cell? ⟨b0, n, none⟩ = some (.int .i64 (turnN 0 n)) := fun O => by
    have hg : ∀ n (h : n < 16), ([11, 14, 15, 12, 5, 8, 7, 9, 11, 13, 14, 15, 6, 7, 9, 8] : List Int)[n]'h = (turnN 0 n : Int) := by decide
    have := cbel (xalloc x0 O) (hB0.cell n hn)
    rw [hg n hn] at this
    exact this
  have hc1 : ∀ O, (w4.alloc O).cell? ⟨b1, n, none⟩ = some (.int .i64 (turnN 1 n)) := fun O => by
    have hg : ∀ n (h : n < 16), ([12, 13, 11, 15, 6, 9, 9, 7, 12, 15, 11, 13, 7, 8, 7, 7] : List Int)[n]'h = (turnN 1 n : Int) := by decide
    have := cbel (xalloc x1 O) (hB1.cell n hn)
    rw [hg n hn] at this
    exact this
  have hc2 : ∀ O, (w4.alloc O).cell? ⟨b2, n, none⟩ = some (.int .i64 (turnN 2 n)) := fun O => by
    have hg : ∀ n (h : n < 16), ([13, 15, 14, 11, 7, 7, 6, 8, 13, 14, 13, 12, 5, 5, 6, 9] : List Int)[n]'h = (turnN 2 n : Int) := by decide
    have := cbel (xalloc x2 O) (hB2.cell n hn)
    rw [hg n hn] at this
    exact this
  have hc3 : ∀ O, (w4.alloc O).cell? ⟨b3, n, none⟩ = some (.int .i64 (turnN 3 n)) := fun O => by
    have hg : ∀ n (h : n < 16), ([14, 11, 12, 14, 8, 6, 5, 5, 15, 12, 15, 14, 9, 9, 8, 6] : List Int)[n]'h = (turnN 3 n : Int) := by decide
    have := cbel (xalloc x3 O) (hB3.cell n hn)
    rw [hg n hn] at this
    exact this
  have hc4 : ∀ O, (w4.alloc O).cell? ⟨b4, n, none⟩ = some (.int .i64 (turnN 4 n)) := fun O => by
    have hg : ∀ n (h : n < 16), ([15, 12, 13, 13, 9, 5, 8, 6, 14, 11, 12, 11, 8, 6, 5, 5] : List Int)[n]'h = (turnN 4 n : Int) := by decide
    have := cbel (xalloc x4 O) (hB4.cell n hn)
    rw [hg n hn] at this
    exact this
  clear x0 x1 x2 x3 x4 hB0 hB1 hB2 hB3 hB4 hb0 hb1 hb2 hb3 hb4 e0 e1 e2 e3 e4
  have fin : ∀ x : Nat, x < 5 → x = 0 ∨ x = 1 ∨ x = 2 ∨ x = 3 ∨ x = 4 := by omega
  have hcs := fin r hr
  clear fin
  rcases hcs with rfl | rfl | rfl | rfl | rfl
  · clear hc1 hc2 hc3 hc4
    go_wp2
    go_ret
    exact ⟨rfl, xalloc xw.out _⟩
  · clear hc0 hc2 hc3 hc4
    go_wp2
    go_ret
    exact ⟨rfl, xalloc xw.out _⟩
  · clear hc0 hc1 hc3 hc4
    go_wp2
    go_ret
    exact ⟨rfl, xalloc xw.out _⟩
  · clear hc0 hc1 hc2 hc4
    go_wp2
    go_ret
    exact ⟨rfl, xalloc xw.out _⟩
  · clear hc0 hc1 hc2 hc3
    go_wp2
    go_ret
    exact ⟨rfl, xalloc xw.out _⟩

theorem refTurned_any (a : BitVec 32) (n : Nat) (w : World) (h1 : 0 < n) (h2 : n < 32) :
    Calls Try.prog 40 #[.int .u32 (iv32 a), .int .i64 n] w fun e w' => e = .returned (.int .u32 (iv32 (rol32 a n))) ∧ w = w' := by
  have h3 : (32 : Int) - (n : Int) = ((32 - n : Nat) : Int) := by omega
  have h4 : ((32 - n : Nat) : Int) < 32 := by omega
  have h5 : (n : Int) < 32 := by omega
  unfold rol32
  go_enter Try.func40, Try.ntmps40
  go_wp2
  go_ret
  exact ⟨rfl, rfl⟩

theorem refF_any (r : Nat) (x y z : BitVec 32) (w : World) (hr : r < 5) :
    Calls Try.prog 41 #[.int .i64 r, .int .u32 (iv32 x), .int .u32 (iv32 y), .int .u32 (iv32 z)] w fun e w' => e = .returned (.int .u32 (iv32 (fF r x y z))) ∧ w = w' := by
  have fin : ∀ x : Nat, x < 5 → x = 0 ∨ x = 1 ∨ x = 2 ∨ x = 3 ∨ x = 4 := by omega
  rcases fin r hr with rfl | rfl | rfl | rfl | rfl
  all_goals
    clear fin
    go_enter Try.func41, Try.ntmps41
    go_wp2
    go_ret
    exact ⟨rfl, rfl⟩
end Go.Proofs.Ytfafancacfjodaa
