/- Layer 22: what is paid, over any list of costs. -/
import Derived.Test.YtioihjgobmbanaaShareB
namespace Go.Proofs.Ytioihjgobmbanaa
open Go.RowKit

def payOf (s : Int) (x : Int × Bool) : Int := if x.2 then u64add s x.1 else s
def sumPaid (cs : List (Int × Bool)) : Int := cs.foldl payOf 0

theorem sumPaid_succ (cs : List (Int × Bool)) (k : Nat) (h : k < cs.length) : sumPaid (cs.take (k + 1)) = payOf (sumPaid (cs.take k)) cs[k] := by
  unfold sumPaid
  rw [List.take_succ_eq_append_getElem h, List.foldl_append]; rfl

def IsCost (w : World) (a : Addr) (x : Int × Bool) : Prop :=
  ∃ p q, w.cell? a = some (.func (.func 42) #[] #[.pointer (some p), .pointer (some q)]) ∧ w.cell? p = some (.int .u64 x.1) ∧ w.cell? q = some (.bool x.2)

theorem IsCost.below {w w' : World} {a : Addr} {x : Int × Bool} (h : IsCost w a x) (hb : Below w.heap.size w w') : IsCost w' a x := by
  obtain ⟨p, q, h1, h2, h3⟩ := h
  exact ⟨p, q, (hb.cell (cell_lt h1)).trans h1, (hb.cell (cell_lt h2)).trans h2, (hb.cell (cell_lt h3)).trans h3⟩

set_option maxHeartbeats 400000 in
theorem paid_any (b o : Nat) (cs : List (Int × Bool)) (w : World) (hl : cs.length ≤ 9223372036854775807) (h : ∀ i (hi : i < cs.length), IsCost w ⟨b, o + i, none⟩ cs[i]) :
    Calls Try.prog 24 #[.slice (some ⟨b, o, none⟩) cs.length cs.length] w fun e w' => e = .returned (.int .u64 (sumPaid cs)) ∧ Below w.heap.size w w' := by
  have H := Lib.hid h
  clear h
  go_enter Try.func24, Try.ntmps24
  go_wp2
  go_loopw [12] (fun i wr => ∃ k : Nat, k ≤ cs.length ∧ i = .int .i64 k ∧ wr.cell? ⟨w.heap.size, 0, none⟩ = some (.int .u64 (sumPaid (cs.take k))) ∧ wr.frozen? ⟨w.heap.size, 0, none⟩ = false ∧ Below w.heap.size w wr)
    (fun i _ => cs.length - (intOf i).toNat)
  case atStart => exact ⟨0, by omega, rfl, by simp [sumPaid], by simp, (Below.refl _ _).alloc (Nat.le_refl _) _⟩
  case round =>
    obtain ⟨k, hk, rfl, hc, hf, hb⟩ := hrel
    have hbs := hb.size
    by_cases hlt : k < cs.length
    · obtain ⟨p, q, h1, h2, h3⟩ := (H.out k hlt).below hb
      have hs := Lib.hid (sumPaid_succ cs k hlt)
      have hlp := cell_lt hc
      simp only at hlp
      generalize hx : cs[k] = x at *
      clear hx
      obtain ⟨x, c⟩ := x
      cases c
      · go_wp2_with (first | (go_at_call 42; refine (when1_any _ _ _ p q h2 h3).mono ?_; rintro e w' ⟨rfl, rfl⟩))
        go_roundw
        case rel => exact ⟨k + 1, by omega, by go_num, by rw [hs.out]; simpa [payOf] using hc, hf, hb.trans (Below.drew (Below.refl _ _))⟩
        case measure => simp [intOf]; omega
      · go_wp2_with (first | (go_at_call 42; refine (when1_any _ _ _ p q h2 h3).mono ?_; rintro e w' ⟨rfl, rfl⟩) | (go_at_call 40; refine (add_any _ _ (sumPaid (List.take k cs)) x _ ?_ ?_ ?_).mono ?_; rotate_left 3; rintro e w' ⟨rfl, rfl⟩))
        go_roundw
        case rel => exact ⟨k + 1, by omega, by go_num, by rw [hs.out]; exact csame _ (ca _ hc), fset _ (fa _ hc hf), ((hb.drew).alloc (Nat.le_of_lt hlp) _).setCell (Nat.le_refl _) _⟩
        case measure => simp [intOf]; omega
        · exact ca _ hc
        · exact fa _ hc hf
        · exact World.cell?_alloc_new _ _ _ _
    · go_wp2_with (go_at_call 41; refine (total_any _ _ _ hc).mono ?_; rintro e w' ⟨rfl, rfl⟩)
      go_ret
      exact ⟨by simp [show cs.take k = cs by rw [show k = cs.length by omega]; simp], hb⟩

theorem paid1 (b : Nat) (x : Int × Bool) (w : World) (h0 : IsCost w ⟨b, 0, none⟩ x) :
    Calls Try.prog 24 #[.slice (some ⟨b, 0, none⟩) 1 1] w fun e w' => e = .returned (.int .u64 (sumPaid [x])) ∧ Below w.heap.size w w' :=
  paid_any b 0 [x] w (by simp) fun i hi => by
    match i, hi with
    | 0, _ => exact h0
theorem paid2 (b : Nat) (x y : Int × Bool) (w : World) (h0 : IsCost w ⟨b, 0, none⟩ x) (h1 : IsCost w ⟨b, 1, none⟩ y) :
    Calls Try.prog 24 #[.slice (some ⟨b, 0, none⟩) 2 2] w fun e w' => e = .returned (.int .u64 (sumPaid [x, y])) ∧ Below w.heap.size w w' :=
  paid_any b 0 [x, y] w (by simp) fun i hi => by
    match i, hi with
    | 0, _ => exact h0
    | 1, _ => exact h1
theorem paid3 (b : Nat) (x y z : Int × Bool) (w : World) (h0 : IsCost w ⟨b, 0, none⟩ x) (h1 : IsCost w ⟨b, 1, none⟩ y) (h2 : IsCost w ⟨b, 2, none⟩ z) :
    Calls Try.prog 24 #[.slice (some ⟨b, 0, none⟩) 3 3] w fun e w' => e = .returned (.int .u64 (sumPaid [x, y, z])) ∧ Below w.heap.size w w' :=
  paid_any b 0 [x, y, z] w (by simp) fun i hi => by
    match i, hi with
    | 0, _ => exact h0
    | 1, _ => exact h1
    | 2, _ => exact h2
theorem paid4 (b : Nat) (x y z u : Int × Bool) (w : World) (h0 : IsCost w ⟨b, 0, none⟩ x) (h1 : IsCost w ⟨b, 1, none⟩ y) (h2 : IsCost w ⟨b, 2, none⟩ z) (h3 : IsCost w ⟨b, 3, none⟩ u) :
    Calls Try.prog 24 #[.slice (some ⟨b, 0, none⟩) 4 4] w fun e w' => e = .returned (.int .u64 (sumPaid [x, y, z, u])) ∧ Below w.heap.size w w' :=
  paid_any b 0 [x, y, z, u] w (by simp) fun i hi => by
    match i, hi with
    | 0, _ => exact h0
    | 1, _ => exact h1
    | 2, _ => exact h2
    | 3, _ => exact h3

end Go.Proofs.Ytioihjgobmbanaa
