/- The document's words (layer 1): the order, and texts. -/
import Derived.Test.YtfafancacfjodaaWordC
namespace Go.Proofs.Ytfafancacfjodaa
open Go.RowKit

theorem cmp_lt (A B m : Nat) (hA : A < 2 ^ 256) (hB : B < 2 ^ 256) (hm : m < 4) (he : ∀ j, m < j → j < 4 → limb A j = limb B j) (h : limb A m < limb B m) : A < B := by
  have h1 := val_limbs A hA
  have h2 := val_limbs B hB
  have a0 := limb_lt A 0
  have a1 := limb_lt A 1
  have a2 := limb_lt A 2
  have b0 := limb_lt B 0
  have b1 := limb_lt B 1
  have b2 := limb_lt B 2
  match m, hm with
  | 0, _ => have := he 1 (by omega) (by omega); have := he 2 (by omega) (by omega); have := he 3 (by omega) (by omega); omega
  | 1, _ => have := he 2 (by omega) (by omega); have := he 3 (by omega) (by omega); omega
  | 2, _ => have := he 3 (by omega) (by omega); omega
  | 3, _ => omega
theorem cmp_eq (A B : Nat) (hA : A < 2 ^ 256) (hB : B < 2 ^ 256) (he : ∀ j, 0 ≤ j → j < 4 → limb A j = limb B j) : A = B := by
  have h1 := val_limbs A hA
  have h2 := val_limbs B hB
  have := he 0 (by omega) (by omega); have := he 1 (by omega) (by omega); have := he 2 (by omega) (by omega); have := he 3 (by omega) (by omega)
  omega
def orderOf (A B : Nat) : Int := if A < B then -1 else if B < A then 1 else 0
theorem orderOf_lt {A B : Nat} (h : A < B) : orderOf A B = -1 := by unfold orderOf; rw [if_pos h]
theorem orderOf_gt {A B : Nat} (h : B < A) : orderOf A B = 1 := by unfold orderOf; rw [if_neg (by omega), if_pos h]
theorem orderOf_eq {A B : Nat} (h : A = B) : orderOf A B = 0 := by unfold orderOf; rw [if_neg (by omega), if_neg (by omega)]

theorem refOrder_any (A B : Nat) (w : World) (hA2 : A < 2 ^ 256) (hB2 : B < 2 ^ 256) :
    Calls Try.prog 59 #[wordV A, wordV B] w fun e w' => e = .returned (.int .i64 (orderOf A B)) ∧ Below w.heap.size w w' := by
  unfold wordV
  go_enter Try.func59, Try.ntmps59
  have HA2 := Lib.hid hA2
  have HB2 := Lib.hid hB2
  clear hA2 hB2
  go_wp2
  go_loopw [5] (fun i wx => ∃ m : Nat, m ≤ 4 ∧ i = .int .i64 ((m : Int) - 1) ∧ (∀ j, m ≤ j → j < 4 → limb A j = limb B j) ∧ Blk .u64 wx w.heap.size 90 (wordL A) ∧ Blk .u64 wx (w.heap.size + 1) 90 (wordL B) ∧ Below w.heap.size w wx) (fun i _ => (intOf i + 1).toNat)
  case atStart => exact ⟨4, by omega, rfl, by omega, (Blk.new w _ (wordL A)).alloc _, Blk.new' _ _ _ (wordL B) (by simp), xalloc (xalloc (xrefl _) _) _⟩
  case round =>
    obtain ⟨m, hm, rfl, he, hA, hB, hb⟩ := hrel
    rcases m with _ | m
    · have Hab := Lib.hid (orderOf_eq (cmp_eq A B HA2.out HB2.out he))
      clear he
      go_wp2
      go_ret
      rw [Hab.out]
      exact ⟨rfl, hb⟩
    · have e1 : (((m + 1 : Nat) : Int) - 1) = (m : Int) := by omega
      rw [e1]
      have hca := hA.cell m (by show m < 4; omega)
      rw [wordL_get] at hca
      have hcb := hB.cell m (by show m < 4; omega)
      rw [wordL_get] at hcb
      have Hlt := Lib.hid (fun h => orderOf_lt (cmp_lt A B m HA2.out HB2.out (by omega) (fun j h1 h2 => he j (by omega) h2) h))
      have Hgt := Lib.hid (fun h => orderOf_gt (cmp_lt B A m HB2.out HA2.out (by omega) (fun j h1 h2 => (he j (by omega) h2).symm) h))
      have He := Lib.hid he
      have hsucc : limb A m = limb B m → ∀ j, m ≤ j → j < 4 → limb A j = limb B j := by
        intro h j h1 h2
        rcases Nat.lt_or_ge m j with h3 | h3
        · exact he j (by omega) h2
        · have : j = m := by omega
          subst this; exact h
      have Hsucc := Lib.hid hsucc
      clear he hsucc e1
      have hx := limb_lt A m
      have hy := limb_lt B m
      generalize limb A m = x at hca hx Hlt Hgt Hsucc
      generalize limb B m = y at hcb hy Hlt Hgt Hsucc
      rcases Nat.lt_trichotomy x y with h1 | h1 | h1
      · clear Hgt Hsucc
        go_wp2_with fail
        go_region
        go_wp2
        go_ret
        rw [Hlt.out h1]
        exact ⟨rfl, xdrew hb⟩
      · subst h1
        clear Hlt Hgt
        go_wp2_with fail
        go_region
        go_wp2_with fail
        go_region
        go_wp2
        refine ⟨⟨m, by omega, rfl, Hsucc.out (by trivial), hA, hB, xdrew (xdrew hb)⟩, by simp [intOf]⟩
      · have h2 : ¬ x < y := by omega
        clear Hlt Hsucc
        go_wp2_with fail
        go_region
        go_wp2_with fail
        go_region
        go_wp2
        go_ret
        rw [Hgt.out h1]
        exact ⟨rfl, xdrew (xdrew hb)⟩

end Go.Proofs.Ytfafancacfjodaa
