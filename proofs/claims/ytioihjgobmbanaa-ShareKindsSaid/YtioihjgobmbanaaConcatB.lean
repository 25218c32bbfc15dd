/- slices.Grow of a nil slice of bytes, slices.Concat of slices of bytes. -/
import Derived.Test.YtioihjgobmbanaaPriceA
namespace Go.Proofs.Ytioihjgobmbanaa
open Go.RowKit

set_option maxHeartbeats 1000000 in
theorem growB_any (n : Nat) (w : World) (hn : n ≤ 140737488355328) :
    Calls Try.prog 61 #[.slice none 0 0, .int .i64 n] w fun e w' => ∃ v, e = .returned v ∧ w'.ownsRow w.heap.size 5 1 v 0 [] ∧ Below w.heap.size w w' := by
  by_cases h0 : n = 0
  · subst h0
    go_enter Try.func61, Try.ntmps61
    go_wp2
    go_ret
    exact ⟨_, rfl, World.ownsRow_nil _ _ _ _, xrefl _⟩
  · obtain ⟨i0, hi, hz0, hz1, hz2⟩ := info_parts Try.infoU8
    have hrz := fun ty => Lib.run_append_grow_zeros (P := Try.prog) w 35 3 ty 5 i0 (.int .u8 0) .i64 .i64 Try.underlying35 Try.underlying3 hi hz0 none 0 0 [] (run_firstCells_none w.drew i0.size 0 0 0) n (by omega) (by omega) (by omega) (by omega) (by rw [hz2]; omega)
      (by rw [Nat.zero_add]; exact growslice_fits (by omega) (by rw [hz2]; omega))
    simp only [Nat.zero_add] at hrz
    have hGn : n ≤ grownCap w n 0 5 := grownCap_ge w _ _ _
    have hG63 := grownCap_le_maxLen w n 0 5 (by unfold maxLen; omega)
    obtain ⟨G, hG⟩ : ∃ G, G = grownCap w n 0 5 := ⟨_, rfl⟩
    rw [← hG] at hrz hGn hG63
    clear hG
    have hG63' : G ≤ 9223372036854775807 := by unfold maxLen at hG63; omega
    have hpos : (n : Int) > 0 := by omega
    have hneg : ¬ ((n : Int) < 0) := by omega
    have hown : (w.alloc (.cells (Builtin.zeroCells #[.int .u8 0] n ++ Builtin.zeroCells #[.int .u8 0] (G - n)) 5)).drew.ownsRow w.heap.size 5 1 (.slice (some ⟨w.drew.heap.size, 0, none⟩) 0 G) 0 [] :=
      World.ownsRow_made w.drew _ G (Nat.le_refl _) hG63 (by simp [size_zeroCells, Value.cells]; omega)
    have Hown := Lib.hid hown
    clear hown hz0 hz1 hz2 hi hG63
    go_enter Try.func61, Try.ntmps61
    go_wp2_with (at_builtin; refine Lib.wpList_append_run _ rfl _ _ _ _ rfl _ _ rfl rfl _ _ (hrz _) ?_)
    all_goals (go_ret; exact ⟨_, rfl, Hown.out, xalloc (xdrew (xrefl _)) _⟩)

/-- The slices in the row at 'b', from 'o' on. -/
def RowsAt (w : World) (b o : Nat) (ss : List (Option Addr × Nat × List Int)) : Prop :=
  ∀ i (h : i < ss.length), w.cell? ⟨b, o + i, none⟩ = some (.slice ss[i].1 ss[i].2.2.length ss[i].2.1) ∧ RowAt .u8 w ss[i].1 ss[i].2.2 ∧ (ss[i].1 = none → ss[i].2.1 = 0)
theorem RowsAt.below {w w' : World} {b o : Nat} {ss : List (Option Addr × Nat × List Int)} (h : RowsAt w b o ss) (hb : Below w.heap.size w w') : RowsAt w' b o ss := fun i hi =>
  ⟨cbel hb (h i hi).1, (h i hi).2.1.below hb, (h i hi).2.2⟩
def joined (ss : List (Option Addr × Nat × List Int)) : List Int := ss.flatMap (fun s => s.2.2)
theorem joined_succ (ss : List (Option Addr × Nat × List Int)) (k : Nat) (h : k < ss.length) : joined (ss.take (k + 1)) = joined (ss.take k) ++ ss[k].2.2 := by
  unfold joined
  rw [List.take_succ_eq_append_getElem h, List.flatMap_append]; simp
theorem joined_le (ss : List (Option Addr × Nat × List Int)) (k : Nat) : (joined (ss.take k)).length ≤ (joined ss).length := by
  unfold joined
  conv => rhs; rw [← List.take_append_drop k ss, List.flatMap_append]
  simp

set_option maxHeartbeats 1000000 in
theorem concatB_any (b o : Nat) (ss : List (Option Addr × Nat × List Int)) (w : World) (hl : ss.length ≤ 9223372036854775807) (hs : (joined ss).length ≤ 140737488355328) (hr : RowsAt w b o ss) :
    Calls Try.prog 49 #[.slice (some ⟨b, o, none⟩) ss.length ss.length] w fun e w' => ∃ v, e = .returned v ∧ w'.ownsRow w.heap.size 5 1 v (joined ss).length ((joined ss).map (Value.int .u8)) ∧ Below w.heap.size w w' := by
  have H := Lib.hid hr
  clear hr
  obtain ⟨i0, hi, hz0, hz1, hz2⟩ := info_parts Try.infoU8
  go_enter Try.func49, Try.ntmps49
  go_wp2
  go_loop [3, 11] (fun s i => ∃ k : Nat, k ≤ ss.length ∧ i = .int .i64 k ∧ s = .int .i64 (joined (ss.take k)).length) (fun _ i => ss.length - (intOf i).toNat)
  case atStart => exact ⟨0, by omega, rfl, rfl⟩
  case round =>
    obtain ⟨k, hk, rfl, rfl⟩ := hrel
    have hle := joined_le ss k
    by_cases hlt : k < ss.length
    · have hcell := (H.out k hlt).1
      have hsuc := Lib.hid (joined_succ ss k hlt)
      have hle' := joined_le ss (k + 1)
      rw [hsuc.out] at hle'
      simp only [List.length_append] at hle'
      generalize ss[k] = x at hcell hsuc hle'
      obtain ⟨xa, xc, xz⟩ := x
      simp only at hcell hsuc hle'
      have hnn : ¬ (((joined (ss.take k)).length : Int) + (xz.length : Int) < 0) := by omega
      go_wp2
      go_round
      case rel => exact ⟨k + 1, by omega, by go_num, by rw [hsuc.out]; simp⟩
      case measure => simp [intOf]; omega
    · have fin := Lib.hid (show joined (ss.take k) = joined ss by rw [show k = ss.length by omega]; simp)
      have hm : (joined (ss.take k)).length ≤ 140737488355328 := by rw [fin.out]; exact hs
      go_wp2_with (go_at_call 61; refine (growB_any _ _ hm).mono ?_; rintro e w1 ⟨v, rfl, hown, hb⟩)
      go_loopw [6, 27] (fun v i wr => ∃ k : Nat, k ≤ ss.length ∧ i = .int .i64 k ∧ wr.ownsRow w.heap.size 5 1 v (joined (ss.take k)).length ((joined (ss.take k)).map (Value.int .u8)) ∧ Below w.heap.size w wr) (fun _ i _ => ss.length - (intOf i).toNat)
      case atStart => exact ⟨0, by omega, rfl, hown, hb⟩
      case round =>
        obtain ⟨k2, hk2, rfl, hown2, hb2⟩ := hrel
        have hle := joined_le ss k2
        by_cases hlt2 : k2 < ss.length
        · obtain ⟨hcell, hrow, hnil⟩ := (H.out.below hb2) k2 hlt2
          have hsuc := Lib.hid (joined_succ ss k2 hlt2)
          have hle' := joined_le ss (k2 + 1)
          rw [hsuc.out] at hle'
          simp only [List.length_append] at hle'
          generalize ss[k2] = x at hcell hsuc hle' hrow hnil
          obtain ⟨xa, xc, xz⟩ := x
          simp only at hcell hsuc hle' hrow hnil
          have hsz := hb2.size
          have h63 : (joined (ss.take k2)).length + xz.length ≤ maxLen := by unfold maxLen; omega
          go_wp2_with (at_builtin; refine wpList_append_row _ rfl _ _ 35 rfl w.heap.size 5 i0 (.int .u8 0) 1 Try.underlying35 hi hz0 hz1 hz2 rfl _ _ _ rfl hown2 xa xc .u8 xz rfl hnil hrow h63 (by omega) hsz ?_; intro v' w2 ho' hg')
          have hb3 : Below w.heap.size w w2 := hb2.grown hg' hsz (fun k hk => (hown2.lt k hk).1)
          clear hg'
          go_wp2
          go_roundw
          case rel => exact ⟨k2 + 1, by omega, by go_num, by rw [hsuc.out]; simpa using ho', hb3⟩
          case measure => simp [intOf]; omega
        · have fin2 := Lib.hid (show joined (ss.take k2) = joined ss by rw [show k2 = ss.length by omega]; simp)
          rw [fin2.out] at hown2
          go_wp2
          go_ret
          exact ⟨_, rfl, hown2, hb2⟩

theorem concatB1 (b : Nat) (a : Option Addr) (c : Nat) (zs : List Int) (w : World) (hs : zs.length ≤ 140737488355328) (hc : w.cell? ⟨b, 0, none⟩ = some (.slice a zs.length c)) (hr : RowAt .u8 w a zs) (hn : a = none → c = 0) :
    Calls Try.prog 49 #[.slice (some ⟨b, 0, none⟩) 1 1] w fun e w' => ∃ v, e = .returned v ∧ w'.ownsRow w.heap.size 5 1 v zs.length (zs.map (Value.int .u8)) ∧ Below w.heap.size w w' := by
  have h := concatB_any b 0 [(a, c, zs)] w (by simp) (by simpa [joined] using hs) (fun i hi => by
    match i, hi with
    | 0, _ => exact ⟨hc, hr, hn⟩)
  simpa [joined] using h

theorem data_any (b : Nat) (a : Option Addr) (c : Nat) (zs : List Int) (w : World) (hs : zs.length ≤ 140737488355328) (hc : w.cell? ⟨b, 0, none⟩ = some (.slice a zs.length c)) (hr : RowAt .u8 w a zs) (hn : a = none → c = 0) :
    Calls Try.prog 34 #[.slice (some ⟨b, 0, none⟩) 1 1] w fun e w' => e = .returned (.int .u64 (dataCost zs)) ∧ Below w.heap.size w w' := by
  go_enter Try.func34, Try.ntmps34
  go_wp2_with (go_at_call 49; refine (concatB1 _ a c zs _ hs hc hr hn).mono ?_; rintro e w1 ⟨v, rfl, hown, hb⟩)
  obtain ⟨a2, c2, rfl, hr2, _, _, _⟩ := rowAt_own hown
  clear hown
  go_wp2_with (go_at_call 48; refine (summed_any a2 c2 zs _ (by omega) hr2).mono ?_; rintro e w2 ⟨rfl, rfl⟩)
  go_ret
  exact ⟨rfl, hb⟩

end Go.Proofs.Ytioihjgobmbanaa
