/- The walk of LabelHolds. -/
import Derived.Test.YtaapccjnidgbnaaDoorLabF
namespace Go.Proofs.YtaapccjnidgbnaaDoor
open Go.RowKit

theorem below_mk {a b : BitVec 64} (h : ∀ k, k < 64 → hasB a k = true → hasB b k = true) : belowB a b = true := (below_iff a b).2 h
theorem below_refl (a : BitVec 64) : belowB a a = true := below_mk fun _ _ h => h
theorem below_j1 (a b : BitVec 64) : belowB a (or64 a b) = true := below_mk fun k _ h => by rw [has_or, h]; rfl
theorem below_j2 (a b : BitVec 64) : belowB b (or64 a b) = true := below_mk fun k _ h => by rw [has_or, h]; simp
theorem below_m1 (a b : BitVec 64) : belowB (and64 a b) a = true := below_mk fun k _ h => by rw [has_and] at h; simp at h; exact h.1
theorem below_m2 (a b : BitVec 64) : belowB (and64 a b) b = true := below_mk fun k _ h => by rw [has_and] at h; simp at h; exact h.2
theorem below_jc (a b c : BitVec 64) : belowB (or64 a b) c = (belowB a c && belowB b c) := by
  rw [Bool.eq_iff_iff, Bool.and_eq_true, below_iff, below_iff, below_iff]
  constructor
  · intro h
    exact ⟨fun k hk e => h k hk (by rw [has_or, e]; rfl), fun k hk e => h k hk (by rw [has_or, e]; simp)⟩
  · rintro ⟨h1, h2⟩ k hk e
    rw [has_or, Bool.or_eq_true] at e
    rcases e with e | e
    · exact h1 k hk e
    · exact h2 k hk e
theorem below_cm (a b c : BitVec 64) : belowB c (and64 a b) = (belowB c a && belowB c b) := by
  rw [Bool.eq_iff_iff, Bool.and_eq_true, below_iff, below_iff, below_iff]
  constructor
  · intro h
    exact ⟨fun k hk e => by have := h k hk e; rw [has_and, Bool.and_eq_true] at this; exact this.1, fun k hk e => by have := h k hk e; rw [has_and, Bool.and_eq_true] at this; exact this.2⟩
  · rintro ⟨h1, h2⟩ k hk e
    rw [has_and, h1 k hk e, h2 k hk e]; rfl
theorem below_tr {a b c : BitVec 64} (h1 : belowB a b = true) (h2 : belowB b c = true) : belowB a c = true :=
  below_mk fun k hk h => (below_iff b c).1 h2 k hk ((below_iff a b).1 h1 k hk h)
theorem below_anti {a b : BitVec 64} (h : belowB a b = true) : belowB b a = (a == b) := by
  rw [Bool.eq_iff_iff, beq_iff_eq]
  constructor
  · intro h2
    apply BitVec.eq_of_getLsbD_eq
    intro k hk
    have e1 := (below_iff a b).1 h k hk
    have e2 := (below_iff b a).1 h2 k hk
    unfold hasB at e1 e2
    rw [Bool.eq_iff_iff]
    exact ⟨e1, e2⟩
  · rintro rfl
    exact h
theorem text_eqb (a b : BitVec 64) : (textL a == textL b) = (a == b) := by
  rw [Bool.eq_iff_iff, beq_iff_eq, beq_iff_eq]
  exact ⟨text_inj, fun h => by rw [h]⟩
set_option maxRecDepth 100000 in
set_option maxHeartbeats 2000000 in
theorem holds_go (a b c J M : BitVec 64) (ta tb : List UInt8) (w : World) (hT : Tab w) (E ba bc ac ca cb : Bool) (ab : Bool) (he : (a == b) = E) (hte : (ta == tb) = E) (h1 : ab = true → ba = E) (h2 : ab = true → bc = true → ac = true)
    (hJ : Hid (∀ W (q : Nat), RowAt .u64 W (some ⟨q, 0, none⟩) [iv64 a, iv64 b] → Calls Tryd.prog 15 #[.slice (some ⟨q, 0, none⟩) 2 2] W fun e w' => e = .returned (.int .u64 (iv64 J)) ∧ W = w'))
    (hM : Hid (∀ W (q : Nat), RowAt .u64 W (some ⟨q, 0, none⟩) [iv64 a, iv64 b] → Calls Tryd.prog 16 #[.slice (some ⟨q, 0, none⟩) 2 2] W fun e w' => e = .returned (.int .u64 (iv64 M)) ∧ W = w'))
    (haa : Hid (∀ W, Calls Tryd.prog 17 #[.int .u64 (iv64 a), .int .u64 (iv64 a)] W fun e w' => e = .returned (.bool true) ∧ W = w'))
    (hab : Hid (∀ W, Calls Tryd.prog 17 #[.int .u64 (iv64 a), .int .u64 (iv64 b)] W fun e w' => e = .returned (.bool ab) ∧ W = w'))
    (hba : Hid (∀ W, Calls Tryd.prog 17 #[.int .u64 (iv64 b), .int .u64 (iv64 a)] W fun e w' => e = .returned (.bool ba) ∧ W = w'))
    (hbc : Hid (∀ W, Calls Tryd.prog 17 #[.int .u64 (iv64 b), .int .u64 (iv64 c)] W fun e w' => e = .returned (.bool bc) ∧ W = w'))
    (hac : Hid (∀ W, Calls Tryd.prog 17 #[.int .u64 (iv64 a), .int .u64 (iv64 c)] W fun e w' => e = .returned (.bool ac) ∧ W = w'))
    (haj : Hid (∀ W, Calls Tryd.prog 17 #[.int .u64 (iv64 a), .int .u64 (iv64 J)] W fun e w' => e = .returned (.bool true) ∧ W = w'))
    (hbj : Hid (∀ W, Calls Tryd.prog 17 #[.int .u64 (iv64 b), .int .u64 (iv64 J)] W fun e w' => e = .returned (.bool true) ∧ W = w'))
    (hma : Hid (∀ W, Calls Tryd.prog 17 #[.int .u64 (iv64 M), .int .u64 (iv64 a)] W fun e w' => e = .returned (.bool true) ∧ W = w'))
    (hmb : Hid (∀ W, Calls Tryd.prog 17 #[.int .u64 (iv64 M), .int .u64 (iv64 b)] W fun e w' => e = .returned (.bool true) ∧ W = w'))
    (hjc : Hid (∀ W, Calls Tryd.prog 17 #[.int .u64 (iv64 J), .int .u64 (iv64 c)] W fun e w' => e = .returned (.bool (ac && bc)) ∧ W = w'))
    (hcm : Hid (∀ W, Calls Tryd.prog 17 #[.int .u64 (iv64 c), .int .u64 (iv64 M)] W fun e w' => e = .returned (.bool (ca && cb)) ∧ W = w'))
    (hca : Hid (∀ W, Calls Tryd.prog 17 #[.int .u64 (iv64 c), .int .u64 (iv64 a)] W fun e w' => e = .returned (.bool ca) ∧ W = w'))
    (hcb : Hid (∀ W, Calls Tryd.prog 17 #[.int .u64 (iv64 c), .int .u64 (iv64 b)] W fun e w' => e = .returned (.bool cb) ∧ W = w'))
    (hta : Hid (∀ W, Tab W → Calls Tryd.prog 8 #[.int .u64 (iv64 a)] W fun e w' => e = .returned (.string ⟨ta.toArray⟩) ∧ Below W.heap.size W w'))
    (htb : Hid (∀ W, Tab W → Calls Tryd.prog 8 #[.int .u64 (iv64 b)] W fun e w' => e = .returned (.string ⟨tb.toArray⟩) ∧ Below W.heap.size W w')) :
    Calls Tryd.prog 5 #[.int .u64 (iv64 a), .int .u64 (iv64 b), .int .u64 (iv64 c)] w (Yes w) := by
  replace hT := Lib.hid hT
  cases ab with
  | false =>
    clear h1 h2
    cases ac <;> cases ca
    all_goals
      simp only [Bool.false_and, Bool.true_and, Bool.and_false, Bool.and_true] at hjc hcm
      go_enter Tryd.func5, Tryd.ntmps5
      go_wp2_with (first
        | (go_at_call 15; refine (hJ.out _ _ (rowAt_new _ _ [iv64 a, iv64 b])).mono ?_; rintro e w' ⟨rfl, rfl⟩)
        | (go_at_call 16; refine (hM.out _ _ (rowAt_new' (by simp) _ [iv64 a, iv64 b])).mono ?_; rintro e w' ⟨rfl, rfl⟩)
        | (go_at_call 17; (with_reducible refine (haa.out _).mono ?_); rintro e w' ⟨rfl, rfl⟩)
        | (go_at_call 17; (with_reducible refine (hab.out _).mono ?_); rintro e w' ⟨rfl, rfl⟩)
        | (go_at_call 17; (with_reducible refine (hba.out _).mono ?_); rintro e w' ⟨rfl, rfl⟩)
        | (go_at_call 17; (with_reducible refine (hbc.out _).mono ?_); rintro e w' ⟨rfl, rfl⟩)
        | (go_at_call 17; (with_reducible refine (hac.out _).mono ?_); rintro e w' ⟨rfl, rfl⟩)
        | (go_at_call 17; (with_reducible refine (haj.out _).mono ?_); rintro e w' ⟨rfl, rfl⟩)
        | (go_at_call 17; (with_reducible refine (hbj.out _).mono ?_); rintro e w' ⟨rfl, rfl⟩)
        | (go_at_call 17; (with_reducible refine (hma.out _).mono ?_); rintro e w' ⟨rfl, rfl⟩)
        | (go_at_call 17; (with_reducible refine (hmb.out _).mono ?_); rintro e w' ⟨rfl, rfl⟩)
        | (go_at_call 17; (with_reducible refine (hjc.out _).mono ?_); rintro e w' ⟨rfl, rfl⟩)
        | (go_at_call 17; (with_reducible refine (hcm.out _).mono ?_); rintro e w' ⟨rfl, rfl⟩)
        | (go_at_call 17; (with_reducible refine (hca.out _).mono ?_); rintro e w' ⟨rfl, rfl⟩)
        | (go_at_call 17; (with_reducible refine (hcb.out _).mono ?_); rintro e w' ⟨rfl, rfl⟩)
        | (go_at_call 8; (with_reducible refine (hta.out _ (hT.out.below (xalloc (xalloc (xrefl _) _) _))).mono ?_); rintro e w1 ⟨rfl, b1⟩; have T1 := Lib.hid ((hT.out.below (xalloc (xalloc (xrefl _) _) _)).below b1))
        | (go_at_call 8; (with_reducible refine (htb.out _ T1.out).mono ?_); rintro e w2 ⟨rfl, b2⟩; have T2 := Lib.hid (T1.out.below b2))
        | (go_at_call 7; refine (works_any _ T2.out).mono ?_; rintro e w3 ⟨rfl, b3⟩))
      go_ret
      exact ⟨rfl, xtrans (xtrans (xtrans (xalloc (xalloc (xrefl _) _) _) b1) b2) b3⟩
  | true =>
    obtain rfl := h1 rfl
    cases bc with
    | false =>
      clear h2
      cases ac <;> cases ca
      all_goals
        simp only [Bool.false_and, Bool.true_and, Bool.and_false, Bool.and_true] at hjc hcm
        go_enter Tryd.func5, Tryd.ntmps5
        go_wp2_with (first
          | (go_at_call 15; refine (hJ.out _ _ (rowAt_new _ _ [iv64 a, iv64 b])).mono ?_; rintro e w' ⟨rfl, rfl⟩)
          | (go_at_call 16; refine (hM.out _ _ (rowAt_new' (by simp) _ [iv64 a, iv64 b])).mono ?_; rintro e w' ⟨rfl, rfl⟩)
          | (go_at_call 17; (with_reducible refine (haa.out _).mono ?_); rintro e w' ⟨rfl, rfl⟩)
          | (go_at_call 17; (with_reducible refine (hab.out _).mono ?_); rintro e w' ⟨rfl, rfl⟩)
          | (go_at_call 17; (with_reducible refine (hba.out _).mono ?_); rintro e w' ⟨rfl, rfl⟩)
          | (go_at_call 17; (with_reducible refine (hbc.out _).mono ?_); rintro e w' ⟨rfl, rfl⟩)
          | (go_at_call 17; (with_reducible refine (hac.out _).mono ?_); rintro e w' ⟨rfl, rfl⟩)
          | (go_at_call 17; (with_reducible refine (haj.out _).mono ?_); rintro e w' ⟨rfl, rfl⟩)
          | (go_at_call 17; (with_reducible refine (hbj.out _).mono ?_); rintro e w' ⟨rfl, rfl⟩)
          | (go_at_call 17; (with_reducible refine (hma.out _).mono ?_); rintro e w' ⟨rfl, rfl⟩)
          | (go_at_call 17; (with_reducible refine (hmb.out _).mono ?_); rintro e w' ⟨rfl, rfl⟩)
          | (go_at_call 17; (with_reducible refine (hjc.out _).mono ?_); rintro e w' ⟨rfl, rfl⟩)
          | (go_at_call 17; (with_reducible refine (hcm.out _).mono ?_); rintro e w' ⟨rfl, rfl⟩)
          | (go_at_call 17; (with_reducible refine (hca.out _).mono ?_); rintro e w' ⟨rfl, rfl⟩)
          | (go_at_call 17; (with_reducible refine (hcb.out _).mono ?_); rintro e w' ⟨rfl, rfl⟩)
          | (go_at_call 8; (with_reducible refine (hta.out _ (hT.out.below (xalloc (xalloc (xrefl _) _) _))).mono ?_); rintro e w1 ⟨rfl, b1⟩; have T1 := Lib.hid ((hT.out.below (xalloc (xalloc (xrefl _) _) _)).below b1))
          | (go_at_call 8; (with_reducible refine (htb.out _ T1.out).mono ?_); rintro e w2 ⟨rfl, b2⟩; have T2 := Lib.hid (T1.out.below b2))
          | (go_at_call 7; refine (works_any _ T2.out).mono ?_; rintro e w3 ⟨rfl, b3⟩))
        go_ret
        exact ⟨rfl, xtrans (xtrans (xtrans (xalloc (xalloc (xrefl _) _) _) b1) b2) b3⟩
    | true =>
      obtain rfl := h2 rfl rfl
      clear h1 h2
      cases ca
      all_goals
        simp only [Bool.false_and, Bool.true_and, Bool.and_false, Bool.and_true] at hjc hcm
        go_enter Tryd.func5, Tryd.ntmps5
        go_wp2_with (first
          | (go_at_call 15; refine (hJ.out _ _ (rowAt_new _ _ [iv64 a, iv64 b])).mono ?_; rintro e w' ⟨rfl, rfl⟩)
          | (go_at_call 16; refine (hM.out _ _ (rowAt_new' (by simp) _ [iv64 a, iv64 b])).mono ?_; rintro e w' ⟨rfl, rfl⟩)
          | (go_at_call 17; (with_reducible refine (haa.out _).mono ?_); rintro e w' ⟨rfl, rfl⟩)
          | (go_at_call 17; (with_reducible refine (hab.out _).mono ?_); rintro e w' ⟨rfl, rfl⟩)
          | (go_at_call 17; (with_reducible refine (hba.out _).mono ?_); rintro e w' ⟨rfl, rfl⟩)
          | (go_at_call 17; (with_reducible refine (hbc.out _).mono ?_); rintro e w' ⟨rfl, rfl⟩)
          | (go_at_call 17; (with_reducible refine (hac.out _).mono ?_); rintro e w' ⟨rfl, rfl⟩)
          | (go_at_call 17; (with_reducible refine (haj.out _).mono ?_); rintro e w' ⟨rfl, rfl⟩)
          | (go_at_call 17; (with_reducible refine (hbj.out _).mono ?_); rintro e w' ⟨rfl, rfl⟩)
          | (go_at_call 17; (with_reducible refine (hma.out _).mono ?_); rintro e w' ⟨rfl, rfl⟩)
          | (go_at_call 17; (with_reducible refine (hmb.out _).mono ?_); rintro e w' ⟨rfl, rfl⟩)
          | (go_at_call 17; (with_reducible refine (hjc.out _).mono ?_); rintro e w' ⟨rfl, rfl⟩)
          | (go_at_call 17; (with_reducible refine (hcm.out _).mono ?_); rintro e w' ⟨rfl, rfl⟩)
          | (go_at_call 17; (with_reducible refine (hca.out _).mono ?_); rintro e w' ⟨rfl, rfl⟩)
          | (go_at_call 17; (with_reducible refine (hcb.out _).mono ?_); rintro e w' ⟨rfl, rfl⟩)
          | (go_at_call 8; (with_reducible refine (hta.out _ (hT.out.below (xalloc (xalloc (xrefl _) _) _))).mono ?_); rintro e w1 ⟨rfl, b1⟩; have T1 := Lib.hid ((hT.out.below (xalloc (xalloc (xrefl _) _) _)).below b1))
          | (go_at_call 8; (with_reducible refine (htb.out _ T1.out).mono ?_); rintro e w2 ⟨rfl, b2⟩; have T2 := Lib.hid (T1.out.below b2))
          | (go_at_call 7; refine (works_any _ T2.out).mono ?_; rintro e w3 ⟨rfl, b3⟩))
        go_ret
        exact ⟨rfl, xtrans (xtrans (xtrans (xalloc (xalloc (xrefl _) _) _) b1) b2) b3⟩
theorem labelHolds_walk (x y z : Int) (w : World) (hx : 0 ≤ x ∧ x ≤ 18446744073709551615) (hy : 0 ≤ y ∧ y ≤ 18446744073709551615) (hz : 0 ≤ z ∧ z ≤ 18446744073709551615) (hT : Tab w) :
    Calls Tryd.prog 5 #[.int .u64 x, .int .u64 y, .int .u64 z] w (Yes w) := by
  obtain ⟨a, rfl⟩ := bits_of x hx
  obtain ⟨b, rfl⟩ := bits_of y hy
  obtain ⟨c, rfl⟩ := bits_of z hz
  refine holds_go a b c (or64 a b) (and64 a b) (textL a) (textL b) w hT (a == b) (belowB b a) (belowB b c) (belowB a c) (belowB c a) (belowB c b) (belowB a b) rfl (text_eqb a b) below_anti below_tr ?_ ?_ ?_ ?_ ?_ ?_ ?_ ?_ ?_ ?_ ?_ ?_ ?_ ?_ ?_ ?_ ?_
  · have h : joinF [a, b] = or64 a b := by unfold joinF or64; simp
    exact Lib.hid fun W q hr => join_at [a, b] _ (by rw [h]) (by simp) W q hr
  · have h : meetF [a, b] = and64 a b := by
      show (BitVec.allOnes 64 &&& a) &&& b = a &&& b
      rw [BitVec.allOnes_and]
    exact Lib.hid fun W q hr => meet_at [a, b] _ (by rw [h]) (by simp) W q hr
  · exact Lib.hid fun W => by have := below_any a a W; rwa [below_refl] at this
  · exact Lib.hid fun W => below_any _ _ W
  · exact Lib.hid fun W => below_any _ _ W
  · exact Lib.hid fun W => below_any _ _ W
  · exact Lib.hid fun W => below_any _ _ W
  · exact Lib.hid fun W => by have := below_any a (or64 a b) W; rwa [below_j1] at this
  · exact Lib.hid fun W => by have := below_any b (or64 a b) W; rwa [below_j2] at this
  · exact Lib.hid fun W => by have := below_any (and64 a b) a W; rwa [below_m1] at this
  · exact Lib.hid fun W => by have := below_any (and64 a b) b W; rwa [below_m2] at this
  · exact Lib.hid fun W => by have := below_any (or64 a b) c W; rwa [below_jc] at this
  · exact Lib.hid fun W => by have := below_any c (and64 a b) W; rwa [below_cm] at this
  · exact Lib.hid fun W => below_any _ _ W
  · exact Lib.hid fun W => below_any _ _ W
  · exact Lib.hid fun W hW => text_any a W hW
  · exact Lib.hid fun W hW => text_any b W hW
end Go.Proofs.YtaapccjnidgbnaaDoor
