/- The walk of LabelJoins. -/
import Derived.Test.YtaapccjnidgbnaaDoorLabG
namespace Go.Proofs.YtaapccjnidgbnaaDoor
open Go.RowKit

theorem between_any (a b : BitVec 64) (ls : List (BitVec 64)) (p : Option Addr) (c : Nat) (w : World) (hr : RowAt .u64 w p (ls.map iv64)) (hl : ls.length ≤ 9223372036854775807) :
    Calls Tryd.prog 21 #[.int .u64 (iv64 a), .int .u64 (iv64 b), .slice p ls.length c] w fun e w' => e = .returned (.bool (belowB a (meetF ls) && belowB (joinF ls) b)) ∧ Below w.heap.size w w' := by
  have hj := Lib.hid (join_any ls p c w hr hl)
  have hm := Lib.hid (meet_any ls p c w hr hl)
  have h1 := Lib.hid (fun W => below_any a (meetF ls) W)
  have h2 := Lib.hid (fun W => below_any (joinF ls) b W)
  generalize meetF ls = M at *
  generalize joinF ls = J at *
  clear hr
  cases e1 : belowB a M with
  | false =>
    rw [e1] at h1
    replace e1 := Lib.hid e1
    go_enter Tryd.func21, Tryd.ntmps21
    go_wp2_with (first
      | (go_at_call 15; refine hj.out.mono ?_; rintro e w' ⟨rfl, rfl⟩)
      | (go_at_call 16; refine hm.out.mono ?_; rintro e w' ⟨rfl, rfl⟩)
      | (go_at_call 17; refine (h1.out _).mono ?_; rintro e w' ⟨rfl, rfl⟩))
    go_ret
    exact ⟨rfl, xalloc (xrefl _) _⟩
  | true =>
    rw [e1] at h1
    replace e1 := Lib.hid e1
    go_enter Tryd.func21, Tryd.ntmps21
    go_wp2_with (first
      | (go_at_call 15; refine hj.out.mono ?_; rintro e w' ⟨rfl, rfl⟩)
      | (go_at_call 16; refine hm.out.mono ?_; rintro e w' ⟨rfl, rfl⟩)
      | (go_at_call 17; (with_reducible refine (h1.out _).mono ?_); rintro e w' ⟨rfl, rfl⟩)
      | (go_at_call 17; (with_reducible refine (h2.out _).mono ?_); rintro e w' ⟨rfl, rfl⟩))
    go_ret
    exact ⟨by rw [Bool.true_and]; rfl, xalloc (xrefl _) _⟩

def betw (a b : BitVec 64) (ls : List (BitVec 64)) : Bool := ls.all fun x => belowB a x && belowB x b
theorem betw_snoc (a b : BitVec 64) (ls : List (BitVec 64)) (x : BitVec 64) : betw a b (ls ++ [x]) = (betw a b ls && (belowB a x && belowB x b)) := by
  unfold betw; simp
theorem joinF_get (k : Nat) (ls : List (BitVec 64)) (a : BitVec 64) : hasB (ls.foldl or64 a) k = (hasB a k || ls.any (hasB · k)) := by
  induction ls generalizing a with
  | nil => simp
  | cons x ls ih => rw [List.foldl_cons, ih, has_or, List.any_cons, Bool.or_assoc]
theorem meetF_get (k : Nat) (ls : List (BitVec 64)) (a : BitVec 64) : hasB (ls.foldl and64 a) k = (hasB a k && ls.all (hasB · k)) := by
  induction ls generalizing a with
  | nil => simp
  | cons x ls ih => rw [List.foldl_cons, ih, has_and, List.all_cons, Bool.and_assoc]
theorem has_top (k : Nat) (h : k < 64) : hasB (BitVec.allOnes 64) k = true := by unfold hasB; rw [BitVec.getLsbD_allOnes]; exact decide_eq_true h
theorem betw_eq (a b : BitVec 64) (ls : List (BitVec 64)) : (belowB a (meetF ls) && belowB (joinF ls) b) = betw a b ls := by
  rw [Bool.eq_iff_iff, Bool.and_eq_true, below_iff, below_iff]
  unfold betw
  rw [List.all_eq_true]
  constructor
  · rintro ⟨h1, h2⟩ x hx
    rw [Bool.and_eq_true, below_iff, below_iff]
    refine ⟨fun k hk h => ?_, fun k hk h => ?_⟩
    · have := h1 k hk h
      unfold meetF at this
      rw [meetF_get, Bool.and_eq_true, List.all_eq_true] at this
      exact this.2 x hx
    · refine h2 k hk ?_
      unfold joinF
      rw [joinF_get, Bool.or_eq_true, List.any_eq_true]
      exact .inr ⟨x, hx, h⟩
  · intro h
    refine ⟨fun k hk e => ?_, fun k hk e => ?_⟩
    · unfold meetF
      rw [meetF_get, has_top k hk, Bool.true_and, List.all_eq_true]
      intro x hx
      have := h x hx
      rw [Bool.and_eq_true, below_iff] at this
      exact this.1 k hk e
    · unfold joinF at e
      rw [joinF_get, Bool.or_eq_true, List.any_eq_true] at e
      rcases e with e | ⟨x, hx, e⟩
      · unfold hasB at e; simp at e
      · have := h x hx
        rw [Bool.and_eq_true, below_iff, below_iff] at this
        exact this.2 k hk e
set_option maxRecDepth 100000 in
set_option maxHeartbeats 2000000 in
theorem joins_go (ls : List (BitVec 64)) (a b : BitVec 64) (p : Option Addr) (c : Nat) (w : World) (hl : ls.length ≤ 9223372036854775807) (hr : RowAt .u64 w p (ls.map iv64)) (hT : Tab w) :
    Calls Tryd.prog 6 #[.slice p ls.length c, .int .u64 (iv64 a), .int .u64 (iv64 b)] w (Yes w) := by
  by_cases h20 : ls.length > 20
  · replace hT := Lib.hid hT
    replace hr := Lib.hid hr
    go_enter Tryd.func6, Tryd.ntmps6
    go_wp2_with (go_at_call 7; refine (works_any _ hT.out).mono ?_; rintro e w3 ⟨rfl, b3⟩)
    go_ret
    exact ⟨rfl, b3⟩
  · have hjn := Lib.hid (fun W h => join_any ls p c W h hl)
    have hmt := Lib.hid (fun W h => meet_any ls p c W h hl)
    have hbt := Lib.hid (fun W h => betw_eq a b ls ▸ between_any a b ls p c W h hl)
    have hbl := Lib.hid (below_any a b)
    have hrb := Lib.hid (refBelow_any a b)
    replace hT := Lib.hid hT
    replace hr := Lib.hid hr
    go_enter Tryd.func6, Tryd.ntmps6
    go_wp2
    go_loopw [7, 8, 9, 10] (fun xv yv bv iv wr => ∃ k : Nat, k ≤ ls.length ∧ iv = .int .i64 k ∧ xv = .int .u64 (iv64 (joinF (ls.take k))) ∧ yv = .int .u64 (iv64 (meetF (ls.take k))) ∧ bv = .bool (betw a b (ls.take k)) ∧ Hid (Below w.heap.size w wr)) (fun _ _ _ iv _ => ls.length - (intOf iv).toNat)
    case atStart => exact ⟨0, by omega, rfl, rfl, rfl, rfl, Lib.hid (xrefl w)⟩
    case round =>
      obtain ⟨k, hk, rfl, rfl, rfl, rfl, hb⟩ := hrel
      by_cases hlt : k < ls.length
      · have hlt2 : (k : Int) < ls.length := by omega
        obtain ⟨pb, po, rfl, c1⟩ := (hr.out.below hb.out) k (by rw [List.length_map]; exact hlt)
        rw [List.getElem_map] at c1
        have hn1 : Hid (joinF (ls.take (k + 1)) = or64 (joinF (ls.take k)) ls[k]) := Lib.hid (by unfold joinF; rw [List.take_succ_eq_append_getElem hlt, List.foldl_append]; rfl)
        have hn2 : Hid (meetF (ls.take (k + 1)) = and64 (meetF (ls.take k)) ls[k]) := Lib.hid (by unfold meetF; rw [List.take_succ_eq_append_getElem hlt, List.foldl_append]; rfl)
        have hn3 : Hid (betw a b (ls.take (k + 1)) = (betw a b (ls.take k) && (belowB a ls[k] && belowB ls[k] b))) := Lib.hid (by rw [List.take_succ_eq_append_getElem hlt, betw_snoc])
        generalize joinF (ls.take k) = x at *
        generalize meetF (ls.take k) = x2 at *
        generalize betw a b (ls.take k) = bb at *
        generalize ls[k] = y at *
        have hA := Lib.hid (refBelow_any a y)
        have hB := Lib.hid (refBelow_any y b)
        generalize belowB a y = ba at *
        generalize belowB y b = yb at *
        go_wp2_with fail
        refine' wp_region_growL 12 [_, _, _, _, _, _, _, _, _, _, _, _] (by kernel_rfl) (by kernel_rfl) ?_
        rotate_left 12
        simp only [List.take_succ_cons, List.take_zero, List.drop_succ_cons, List.drop_zero]
        try simp only [Act.put, List.setIfInBounds_toArray, List.set_cons_succ, List.set_cons_zero, List.nil_append, List.cons_append]
        refine' wpGrowV_fix _ rfl rfl (fun W hb _ => by go_simp; first | exact xrefl W | exact ⟨rfl, xrefl W⟩) ?_
        try simp only [Act.put, List.setIfInBounds_toArray, List.set_cons_succ, List.set_cons_zero, List.nil_append, List.cons_append]
        refine' wpGrowV_fix _ rfl rfl (fun W hb _ => by go_simp; first | exact xrefl W | exact ⟨rfl, xrefl W⟩) ?_
        try simp only [Act.put, List.setIfInBounds_toArray, List.set_cons_succ, List.set_cons_zero, List.nil_append, List.cons_append]
        refine' wpGrowV_fix _ rfl rfl (fun W hb _ => by go_simp; first | exact xrefl W | exact ⟨rfl, xrefl W⟩) ?_
        try simp only [Act.put, List.setIfInBounds_toArray, List.set_cons_succ, List.set_cons_zero, List.nil_append, List.cons_append]
        refine' wpGrowV_fix _ rfl rfl (fun W hb _ => by go_simp; first | exact xrefl W | exact ⟨rfl, xrefl W⟩) ?_
        try simp only [Act.put, List.setIfInBounds_toArray, List.set_cons_succ, List.set_cons_zero, List.nil_append, List.cons_append]
        refine' wpGrowV_fix _ rfl rfl (fun W hb _ => by have c := cbel hb c1; go_simp; first | exact xrefl W | exact ⟨rfl, xrefl W⟩) ?_
        try simp only [Act.put, List.setIfInBounds_toArray, List.set_cons_succ, List.set_cons_zero, List.nil_append, List.cons_append]
        refine' wpGrowV_fix _ rfl rfl (fun W hb hF => ?_) ?_
        rotate_left 1
        · clear hF
          go_simp
          go_at_call 18
          refine (refJoin_any x y W).mono ?_
          rintro e w' ⟨rfl, rfl⟩
          refine ⟨?_, xrefl _⟩
          exact rfl
        try simp only [Act.put, List.setIfInBounds_toArray, List.set_cons_succ, List.set_cons_zero, List.nil_append, List.cons_append]
        refine' wpGrowV_fix _ rfl rfl (fun W hb _ => by go_simp; first | exact xrefl W | exact ⟨rfl, xrefl W⟩) ?_
        try simp only [Act.put, List.setIfInBounds_toArray, List.set_cons_succ, List.set_cons_zero, List.nil_append, List.cons_append]
        refine' wpGrowV_fix _ rfl rfl (fun W hb _ => by go_simp; first | exact xrefl W | exact ⟨rfl, xrefl W⟩) ?_
        try simp only [Act.put, List.setIfInBounds_toArray, List.set_cons_succ, List.set_cons_zero, List.nil_append, List.cons_append]
        refine' wpGrowV_fix _ rfl rfl (fun W hb _ => by go_simp; first | exact xrefl W | exact ⟨rfl, xrefl W⟩) ?_
        try simp only [Act.put, List.setIfInBounds_toArray, List.set_cons_succ, List.set_cons_zero, List.nil_append, List.cons_append]
        refine' wpGrowV_fix _ rfl rfl (fun W hb _ => by go_simp; first | exact xrefl W | exact ⟨rfl, xrefl W⟩) ?_
        try simp only [Act.put, List.setIfInBounds_toArray, List.set_cons_succ, List.set_cons_zero, List.nil_append, List.cons_append]
        refine' wpGrowV_fix _ rfl rfl (fun W hb _ => by have c := cbel hb c1; go_simp; first | exact xrefl W | exact ⟨rfl, xrefl W⟩) ?_
        try simp only [Act.put, List.setIfInBounds_toArray, List.set_cons_succ, List.set_cons_zero, List.nil_append, List.cons_append]
        refine' wpGrowV_fix _ rfl rfl (fun W hb hF => ?_) ?_
        rotate_left 1
        · clear hF
          go_simp
          go_at_call 19
          refine (refMeet_any x2 y W).mono ?_
          rintro e w' ⟨rfl, rfl⟩
          refine ⟨?_, xrefl _⟩
          exact rfl
        try simp only [Act.put, List.setIfInBounds_toArray, List.set_cons_succ, List.set_cons_zero, List.nil_append, List.cons_append]
        refine wpGrowV_nil fun W7 hb7 _ => ?_
        have c2 := cbel hb7 c1
        have hb8 := Lib.hid (xtrans hb.out hb7)
        clear hb7 c1
        cases bb <;> cases ba
        all_goals
          simp only [Bool.false_and, Bool.true_and, Bool.and_false, Bool.and_true] at hn3
          go_wp2_with (first
            | (go_at_call 20; (with_reducible refine (hA.out _).mono ?_); rintro e w' ⟨rfl, rfl⟩)
            | (go_at_call 20; (with_reducible refine (hB.out _).mono ?_); rintro e w' ⟨rfl, rfl⟩))
          exact ⟨⟨k + 1, by omega, rfl, by rw [hn1.out], by rw [hn2.out], by rw [hn3.out], hb8⟩, by simp [intOf]; omega⟩
      · obtain rfl : k = ls.length := by omega
        rw [List.take_length]
        have T0 := hT.out.below hb.out
        have hr0 := hr.out.below hb.out
        have hj := Lib.hid (hjn.out _ hr0)
        have hm := Lib.hid (hmt.out _ hr0)
        have hbw := Lib.hid (hbt.out _ hr0)
        replace T0 := Lib.hid T0
        clear hlt hjn hmt hbt hr0
        generalize joinF ls = x at *
        generalize meetF ls = x2 at *
        generalize betw a b ls = bb at *
        generalize belowB a b = ab at *
        go_wp2_with (first
          | (go_at_call 15; refine hj.out.mono ?_; rintro e w' ⟨rfl, rfl⟩)
          | (go_at_call 16; refine hm.out.mono ?_; rintro e w' ⟨rfl, rfl⟩)
          | (go_at_call 17; refine (hbl.out _).mono ?_; rintro e w' ⟨rfl, rfl⟩)
          | (go_at_call 20; refine (hrb.out _).mono ?_; rintro e w' ⟨rfl, rfl⟩)
          | (go_at_call 21; refine hbw.out.mono ?_; rintro e w1 ⟨rfl, b1⟩; have T1 := Lib.hid (T0.out.below b1))
          | (go_at_call 7; refine (works_any _ T1.out).mono ?_; rintro e w3 ⟨rfl, b3⟩))
        go_ret
        exact ⟨rfl, xtrans (xtrans hb.out b1) b3⟩
theorem labels_of : ∀ zs : List Int, (∀ z ∈ zs, (Lit.int .u64 z).wf = true) → ∃ ls : List (BitVec 64), zs = ls.map iv64
  | [], _ => ⟨[], rfl⟩
  | z :: zs, h => by
    obtain ⟨ls, rfl⟩ := labels_of zs fun y hy => h y (by simp [hy])
    have hz := h z (by simp)
    simp [Lit.wf, IntKind.min, IntKind.max, IntKind.signed, IntKind.bits] at hz
    obtain ⟨a, rfl⟩ := bits_of z (by omega)
    exact ⟨a :: ls, rfl⟩
theorem labelJoins_walk (p : Option Addr) (c : Nat) (zs : List Int) (x y : Int) (w : World) (hn : zs.length ≤ 9223372036854775807) (hr : RowAt .u64 w p zs) (_ : p = none → c = 0) (hw : ∀ z ∈ zs, (Lit.int .u64 z).wf = true) (hx : 0 ≤ x ∧ x ≤ 18446744073709551615) (hy : 0 ≤ y ∧ y ≤ 18446744073709551615) (hT : Tab w) :
    Calls Tryd.prog 6 #[.slice p zs.length c, .int .u64 x, .int .u64 y] w (Yes w) := by
  obtain ⟨a, rfl⟩ := bits_of x hx
  obtain ⟨b, rfl⟩ := bits_of y hy
  obtain ⟨ls, rfl⟩ := labels_of zs hw
  have := joins_go ls a b p c w (by rw [List.length_map] at hn; exact hn) hr hT
  rwa [List.length_map]
end Go.Proofs.YtaapccjnidgbnaaDoor
