/- Texts of this claim, merged; no condition. -/
import Derived.Test.YtbicfaiabpcgfaaGreatDoorD16
import Derived.Test.YtbicfaiabpcgfaaGreatDoorD17
set_option linter.all false
namespace Go.Proofs.YtbicfaiabpcgfaaGreatDoor
open Go.RowKit Go.Shelf

section
variable {w w' : World} {b : Nat} {T : TypeId} {rest : List Value} {zs : List Int}
theorem SrtP.heap (h : SrtP b T rest zs w w') (cap off a n : Nat) (hoff : off = 0) (han : a ≤ n) (hn : n ≤ zs.length) (hl : zs.length ≤ 1000000) :
    Calls Tryz.prog 103 #[.slice (some ⟨b, off, none⟩) zs.length cap, .int .i64 a, .int .i64 n] w' fun e w2 => e = .returned (.tuple #[]) ∧ SrtP b T rest zs w w2 :=
  h.lift0 cap off #[.int .i64 a, .int .i64 n] fun ys hy hS => heap_any b cap off a n T rest ys w' hS hoff (by omega) (by omega) (by omega)
theorem SrtP.break_ (h : SrtP b T rest zs w w') (cap off a n : Nat) (hoff : off = 0) (han : a ≤ n) (hn : n ≤ zs.length) (hl : zs.length ≤ 1000000) :
    Calls Tryz.prog 104 #[.slice (some ⟨b, off, none⟩) zs.length cap, .int .i64 a, .int .i64 n] w' fun e w2 => e = .returned (.tuple #[]) ∧ SrtP b T rest zs w w2 :=
  h.lift0 cap off #[.int .i64 a, .int .i64 n] fun ys hy hS => break_any b cap off a n T rest ys w' hS hoff (by omega) (by omega) (by omega)
theorem SrtP.choose (h : SrtP b T rest zs w w') (cap off a n : Nat) (hoff : off = 0) (han : a < n) (hn : n ≤ zs.length) (hl : zs.length ≤ 1000000) :
    Calls Tryz.prog 105 #[.slice (some ⟨b, off, none⟩) zs.length cap, .int .i64 a, .int .i64 n] w' fun e w2 => (∃ v, e = .returned v ∧ ∃ m h : Nat, v = .tuple #[.int .i64 m, .int .i64 h] ∧ a ≤ m ∧ m < n) ∧ SrtP b T rest zs w w2 :=
  h.lift cap off #[.int .i64 a, .int .i64 n] fun ys hy hS => choose_any b cap off a n T rest ys w' hS hoff (by omega) (by omega) (by omega)
theorem SrtP.partial_ (h : SrtP b T rest zs w w') (cap off a n : Nat) (hoff : off = 0) (han : a < n) (hn : n ≤ zs.length) (hl : zs.length ≤ 1000000) :
    Calls Tryz.prog 107 #[.slice (some ⟨b, off, none⟩) zs.length cap, .int .i64 a, .int .i64 n] w' fun e w2 => (∃ v, e = .returned v ∧ ∃ t : Bool, v = .bool t) ∧ SrtP b T rest zs w w2 :=
  h.lift cap off #[.int .i64 a, .int .i64 n] fun ys hy hS => partial_any b cap off a n T rest ys w' hS hoff (by omega) (by omega) (by omega)
theorem SrtP.partEq (h : SrtP b T rest zs w w') (cap off a n pv : Nat) (hoff : off = 0) (hap : a ≤ pv) (hpn : pv < n) (hn : n ≤ zs.length) (hl : zs.length ≤ 1000000) :
    Calls Tryz.prog 109 #[.slice (some ⟨b, off, none⟩) zs.length cap, .int .i64 a, .int .i64 n, .int .i64 pv] w' fun e w2 => (∃ v, e = .returned v ∧ ∃ m : Nat, v = .int .i64 m ∧ a < m ∧ m ≤ n) ∧ SrtP b T rest zs w w2 :=
  h.lift cap off #[.int .i64 a, .int .i64 n, .int .i64 pv] fun ys hy hS => partEq_any b cap off a n pv T rest ys w' hS hoff hap hpn (by omega) (by omega)
theorem SrtP.part (h : SrtP b T rest zs w w') (cap off a n pv : Nat) (hoff : off = 0) (hap : a ≤ pv) (hpn : pv < n) (hn : n ≤ zs.length) (hl : zs.length ≤ 1000000) :
    Calls Tryz.prog 110 #[.slice (some ⟨b, off, none⟩) zs.length cap, .int .i64 a, .int .i64 n, .int .i64 pv] w' fun e w2 => (∃ v, e = .returned v ∧ ∃ (m : Nat) (t : Bool), v = .tuple #[.int .i64 m, .bool t] ∧ a ≤ m ∧ m < n) ∧ SrtP b T rest zs w w2 :=
  h.lift cap off #[.int .i64 a, .int .i64 n, .int .i64 pv] fun ys hy hS => part_any b cap off a n pv T rest ys w' hS hoff hap hpn (by omega) (by omega)
end
set_option maxRecDepth 100000 in
set_option maxHeartbeats 32000000 in
theorem pdq_any : ∀ (m : Nat) (b cap off a n l : Nat) (T : TypeId) (rest : List Value) (zs : List Int) (w : World) (hS : SrtAt w b T rest zs) (hoff : off = 0) (han : a ≤ n) (hn : n ≤ zs.length) (hm : n - a ≤ m) (hl1 : l ≤ 100) (hlz : zs.length ≤ 1000000),
    Calls Tryz.prog 85 #[.slice (some ⟨b, off, none⟩) zs.length cap, .int .i64 a, .int .i64 n, .int .i64 l] w fun e w' => e = .returned (.tuple #[]) ∧ SrtP b T rest zs w w' := by
  intro m
  induction m using Nat.strongRecOn with
  | _ m ih =>
    intro b cap off a n l T rest zs w hS hoff han hn hm hl1 hlz
    have h0 := Lib.hid (SrtP.refl hS)
    have hih : Hid (∀ (a' n' l' : Nat) (W : World), SrtP b T rest zs w W → a' ≤ n' → n' ≤ zs.length → n' - a' < m → l' ≤ 100 →
        Calls Tryz.prog 85 #[.slice (some ⟨b, off, none⟩) zs.length cap, .int .i64 a', .int .i64 n', .int .i64 l'] W fun e w' => e = .returned (.tuple #[]) ∧ SrtP b T rest zs w w') := Lib.hid fun a' n' l' W hW h1 h2 h3 h4 =>
      hW.lift0 cap off #[.int .i64 a', .int .i64 n', .int .i64 l'] fun ys hy hS => ih (n' - a') h3 b cap off a' n' l' T rest ys W hS hoff h1 (by omega) (Nat.le_refl _) h4 (by omega)
    replace hoff := Lib.hid hoff
    clear ih hS
    go_enter Tryz.func85, Tryz.ntmps85
    go_wp2
    go_loopw [1, 2, 3, 8, 9] (fun va vn vl vb vp wr => ∃ (a' n' l' : Nat) (t1 t2 : Bool), va = .int .i64 a' ∧ vn = .int .i64 n' ∧ vl = .int .i64 l' ∧ vb = .bool t1 ∧ vp = .bool t2 ∧ a' ≤ n' ∧ n' ≤ zs.length ∧ n' - a' ≤ m ∧ l' ≤ 100 ∧ Hid (SrtP b T rest zs w wr)) (fun va vn _ _ _ _ => (intOf vn - intOf va).toNat)
    case atStart => exact ⟨a, n, l, true, true, rfl, rfl, rfl, rfl, rfl, han, hn, hm, hl1, h0⟩
    case round =>
      clear h0 han hn hm hl1
      obtain ⟨a, n, l, t1, t2, rfl, rfl, rfl, rfl, rfl, han, hn, hm, hl1, hP⟩ := hrel
      obtain ⟨L, hL⟩ : ∃ L : Nat, L = n - a := ⟨_, rfl⟩
      have hLI : (n : Int) - (a : Int) = (L : Int) := by omega
      by_cases h12 : L ≤ 12
      · have h12I : (L : Int) ≤ 12 := by omega
        have hin := Lib.hid (hP.out.insertion cap off a n hoff.out han hn hlz)
        go_wp2_with (go_at_call 102; refine hin.out.mono ?_; rintro e w1 ⟨rfl, hP1⟩)
        refine bodyPost_ret (results_none rfl _ _ _) rfl ?_
        exact ⟨rfl, hP1⟩
      have h12I : (12 : Int) < (L : Int) := by omega
      by_cases hl0 : l = 0
      · subst hl0
        have hin := Lib.hid (hP.out.heap cap off a n hoff.out han hn hlz)
        go_wp2_with (go_at_call 103; refine hin.out.mono ?_; rintro e w1 ⟨rfl, hP1⟩)
        refine bodyPost_ret (results_none rfl _ _ _) rfl ?_
        exact ⟨rfl, hP1⟩
      have hl0I : ((l : Int) == 0) = false := by simp; omega
      have hl0I2 : ¬ (l : Int) = 0 := by omega
      obtain ⟨q8, hq8⟩ : ∃ q8 : Nat, q8 = L / 8 := ⟨_, rfl⟩
      have hq8I : Int.tdiv (L : Int) 8 = (q8 : Int) := by rw [Int.tdiv_eq_ediv_of_nonneg (by omega)]; omega
      have han1 : a < n := by omega
      have hchs := Lib.hid fun W (hW : SrtP b T rest zs w W) => hW.choose cap off a n hoff.out han1 hn hlz
      have hrev := Lib.hid fun W (hW : SrtP b T rest zs w W) => hW.reverse cap off a n hoff.out hn (by omega) hlz
      have hpar := Lib.hid fun W (hW : SrtP b T rest zs w W) => hW.partial_ cap off a n hoff.out han1 hn hlz
      have hmm : Hid (n - a ≤ m) := Lib.hid hm
      clear hq8 hL
      cases t1 with
      | false =>
        obtain ⟨l2, hl2⟩ : ∃ l2 : Nat, l2 = l - 1 := ⟨_, rfl⟩
        have hl2I : (l : Int) - 1 = (l2 : Int) := by omega
        have hl3 : l2 ≤ 100 := by omega
        clear hl2
        have hbr := Lib.hid fun W (hW : SrtP b T rest zs w W) => hW.break_ cap off a n hoff.out han hn hlz
        go_wp2_with (first
          | (go_at_call 104; refine (hbr.out _ hP.out).mono ?_; rintro e w1 ⟨rfl, hP1⟩; replace hP1 := Lib.hid hP1)
          | (go_at_call 105; refine (hchs.out _ hP1.out).mono ?_; rintro e w2 ⟨⟨v, rfl, pv, h, rfl, hap, hpn⟩, hP2⟩; replace hP2 := Lib.hid hP2; obtain ⟨pv2, hpv2⟩ : ∃ pv2 : Nat, pv2 = n - 1 - (pv - a) := ⟨_, rfl⟩; have hpv2I : (n : Int) - 1 - ((pv : Int) - (a : Int)) = (pv2 : Int) := (by omega); have hap2 : a ≤ pv2 := (by omega); have hpn2 : pv2 < n := (by omega); clear hpv2)
          | (go_at_call 106; refine (hrev.out _ hP2.out).mono ?_; rintro e w3 ⟨rfl, hP3⟩; replace hP3 := Lib.hid hP3)
          | (go_at_call 107; (first | (with_reducible refine (hpar.out _ hP3.out).mono ?_) | (with_reducible refine (hpar.out _ hP2.out).mono ?_)); rintro e w4 ⟨⟨v, rfl, t, rfl⟩, hP4⟩; replace hP4 := Lib.hid hP4))
        · have hP := hP3
          have hpe := Lib.hid fun W (hW : SrtP b T rest zs w W) => hW.partEq cap off a n pv2 hoff.out hap2 hpn2 hn hlz
          have hpo := Lib.hid fun W (hW : SrtP b T rest zs w W) => hW.part cap off a n pv2 hoff.out hap2 hpn2 hn hlz
          obtain ⟨G, hcw, hfw, -⟩ := hP.out.open hoff.out
          have hpvl : pv2 < zs.length := by omega
          by_cases ha0 : 0 < a
          · have haI : (0 : Int) < (a : Int) := by omega
            have hal1 : a - 1 < zs.length := by omega
            have hw1 : IntKind.i64.wrap ((a : Int) - 1) = ((a - 1 : Nat) : Int) := by simp [IntKind.wrap, IntKind.bits, IntKind.signed]; omega
            go_quiet (first | (go_at_call 108; refine Calls.quiet_of_same (less_any _ _ _)))
            go_wp2_with (go_at_call 109; refine (hpe.out _ (hP.out.drewN _)).mono ?_; rintro e w5 ⟨⟨v, rfl, mid, rfl, hm1, hm2⟩, hP5⟩; replace hP5 := Lib.hid hP5)
            · go_roundw
              case rel => exact ⟨mid, n, l2, _, _, rfl, rfl, rfl, rfl, rfl, hm2, hn, by have := hmm.out; omega, hl3, hP5⟩
              case measure => simp [intOf] <;> omega
            · go_wp2_with (first
                | (go_at_call 110; refine (hpo.out _ (hP.out.drewN _)).mono ?_; rintro e w5 ⟨⟨v, rfl, mid, tp, rfl, hm1, hm2⟩, hP5⟩; obtain ⟨m1, hm1n⟩ : ∃ m1 : Nat, m1 = mid + 1 := ⟨_, rfl⟩; have hm1I : (mid : Int) + 1 = (m1 : Int) := (by omega); have r1 := Lib.hid (hih.out a mid l2 w5 hP5 hm1 (by omega) (by omega) hl3); have r2 := Lib.hid (hih.out m1 n l2 w5 hP5 (by omega) hn (by omega) hl3); have hmn : m1 ≤ n := (by omega); have hma : a < m1 := (by omega); clear hm1n hP5)
                | (go_at_call 85; (with_reducible refine r1.out.mono ?_); rintro e w6 ⟨rfl, hP6⟩; replace hP6 := Lib.hid hP6)
                | (go_at_call 85; (with_reducible refine r2.out.mono ?_); rintro e w6 ⟨rfl, hP6⟩; replace hP6 := Lib.hid hP6))
              · go_roundw
                case rel => exact ⟨m1, n, l2, _, _, rfl, rfl, rfl, rfl, rfl, hmn, hn, by have := hmm.out; omega, hl3, hP6⟩
                case measure => simp [intOf] <;> omega
              · go_roundw
                case rel => exact ⟨a, mid, l2, _, _, rfl, rfl, rfl, rfl, rfl, hm1, by omega, by have := hmm.out; omega, hl3, hP6⟩
                case measure => simp [intOf] <;> omega
          · have haI : ¬ (0 : Int) < (a : Int) := by omega
            go_quiet (first | (go_at_call 108; refine Calls.quiet_of_same (less_any _ _ _)))
            go_wp2_with (first
              | (go_at_call 110; refine (hpo.out _ (hP.out.drewN _)).mono ?_; rintro e w5 ⟨⟨v, rfl, mid, tp, rfl, hm1, hm2⟩, hP5⟩; obtain ⟨m1, hm1n⟩ : ∃ m1 : Nat, m1 = mid + 1 := ⟨_, rfl⟩; have hm1I : (mid : Int) + 1 = (m1 : Int) := (by omega); have r1 := Lib.hid (hih.out a mid l2 w5 hP5 hm1 (by omega) (by omega) hl3); have r2 := Lib.hid (hih.out m1 n l2 w5 hP5 (by omega) hn (by omega) hl3); have hmn : m1 ≤ n := (by omega); have hma : a < m1 := (by omega); clear hm1n hP5)
              | (go_at_call 85; (with_reducible refine r1.out.mono ?_); rintro e w6 ⟨rfl, hP6⟩; replace hP6 := Lib.hid hP6)
              | (go_at_call 85; (with_reducible refine r2.out.mono ?_); rintro e w6 ⟨rfl, hP6⟩; replace hP6 := Lib.hid hP6))
            · go_roundw
              case rel => exact ⟨m1, n, l2, _, _, rfl, rfl, rfl, rfl, rfl, hmn, hn, by have := hmm.out; omega, hl3, hP6⟩
              case measure => simp [intOf] <;> omega
            · go_roundw
              case rel => exact ⟨a, mid, l2, _, _, rfl, rfl, rfl, rfl, rfl, hm1, by omega, by have := hmm.out; omega, hl3, hP6⟩
              case measure => simp [intOf] <;> omega
        · have hP := hP2
          have hpe := Lib.hid fun W (hW : SrtP b T rest zs w W) => hW.partEq cap off a n pv hoff.out hap hpn hn hlz
          have hpo := Lib.hid fun W (hW : SrtP b T rest zs w W) => hW.part cap off a n pv hoff.out hap hpn hn hlz
          obtain ⟨G, hcw, hfw, -⟩ := hP.out.open hoff.out
          have hpvl : pv < zs.length := by omega
          by_cases ha0 : 0 < a
          · have haI : (0 : Int) < (a : Int) := by omega
            have hal1 : a - 1 < zs.length := by omega
            have hw1 : IntKind.i64.wrap ((a : Int) - 1) = ((a - 1 : Nat) : Int) := by simp [IntKind.wrap, IntKind.bits, IntKind.signed]; omega
            go_quiet (first | (go_at_call 108; refine Calls.quiet_of_same (less_any _ _ _)))
            go_wp2_with (go_at_call 109; refine (hpe.out _ (hP.out.drewN _)).mono ?_; rintro e w5 ⟨⟨v, rfl, mid, rfl, hm1, hm2⟩, hP5⟩; replace hP5 := Lib.hid hP5)
            · go_roundw
              case rel => exact ⟨mid, n, l2, _, _, rfl, rfl, rfl, rfl, rfl, hm2, hn, by have := hmm.out; omega, hl3, hP5⟩
              case measure => simp [intOf] <;> omega
            · go_wp2_with (first
                | (go_at_call 110; refine (hpo.out _ (hP.out.drewN _)).mono ?_; rintro e w5 ⟨⟨v, rfl, mid, tp, rfl, hm1, hm2⟩, hP5⟩; obtain ⟨m1, hm1n⟩ : ∃ m1 : Nat, m1 = mid + 1 := ⟨_, rfl⟩; have hm1I : (mid : Int) + 1 = (m1 : Int) := (by omega); have r1 := Lib.hid (hih.out a mid l2 w5 hP5 hm1 (by omega) (by omega) hl3); have r2 := Lib.hid (hih.out m1 n l2 w5 hP5 (by omega) hn (by omega) hl3); have hmn : m1 ≤ n := (by omega); have hma : a < m1 := (by omega); clear hm1n hP5)
                | (go_at_call 85; (with_reducible refine r1.out.mono ?_); rintro e w6 ⟨rfl, hP6⟩; replace hP6 := Lib.hid hP6)
                | (go_at_call 85; (with_reducible refine r2.out.mono ?_); rintro e w6 ⟨rfl, hP6⟩; replace hP6 := Lib.hid hP6))
              · go_roundw
                case rel => exact ⟨m1, n, l2, _, _, rfl, rfl, rfl, rfl, rfl, hmn, hn, by have := hmm.out; omega, hl3, hP6⟩
                case measure => simp [intOf] <;> omega
              · go_roundw
                case rel => exact ⟨a, mid, l2, _, _, rfl, rfl, rfl, rfl, rfl, hm1, by omega, by have := hmm.out; omega, hl3, hP6⟩
                case measure => simp [intOf] <;> omega
          · have haI : ¬ (0 : Int) < (a : Int) := by omega
            go_quiet (first | (go_at_call 108; refine Calls.quiet_of_same (less_any _ _ _)))
            go_wp2_with (first
              | (go_at_call 110; refine (hpo.out _ (hP.out.drewN _)).mono ?_; rintro e w5 ⟨⟨v, rfl, mid, tp, rfl, hm1, hm2⟩, hP5⟩; obtain ⟨m1, hm1n⟩ : ∃ m1 : Nat, m1 = mid + 1 := ⟨_, rfl⟩; have hm1I : (mid : Int) + 1 = (m1 : Int) := (by omega); have r1 := Lib.hid (hih.out a mid l2 w5 hP5 hm1 (by omega) (by omega) hl3); have r2 := Lib.hid (hih.out m1 n l2 w5 hP5 (by omega) hn (by omega) hl3); have hmn : m1 ≤ n := (by omega); have hma : a < m1 := (by omega); clear hm1n hP5)
              | (go_at_call 85; (with_reducible refine r1.out.mono ?_); rintro e w6 ⟨rfl, hP6⟩; replace hP6 := Lib.hid hP6)
              | (go_at_call 85; (with_reducible refine r2.out.mono ?_); rintro e w6 ⟨rfl, hP6⟩; replace hP6 := Lib.hid hP6))
            · go_roundw
              case rel => exact ⟨m1, n, l2, _, _, rfl, rfl, rfl, rfl, rfl, hmn, hn, by have := hmm.out; omega, hl3, hP6⟩
              case measure => simp [intOf] <;> omega
            · go_roundw
              case rel => exact ⟨a, mid, l2, _, _, rfl, rfl, rfl, rfl, rfl, hm1, by omega, by have := hmm.out; omega, hl3, hP6⟩
              case measure => simp [intOf] <;> omega
      | true =>
        cases t2 with
        | false =>
          go_wp2_with (first
            | (go_at_call 104; refine (hbr.out _ hP.out).mono ?_; rintro e w1 ⟨rfl, hP1⟩; replace hP1 := Lib.hid hP1)
            | (go_at_call 105; refine (hchs.out _ hP.out).mono ?_; rintro e w2 ⟨⟨v, rfl, pv, h, rfl, hap, hpn⟩, hP2⟩; replace hP2 := Lib.hid hP2; obtain ⟨pv2, hpv2⟩ : ∃ pv2 : Nat, pv2 = n - 1 - (pv - a) := ⟨_, rfl⟩; have hpv2I : (n : Int) - 1 - ((pv : Int) - (a : Int)) = (pv2 : Int) := (by omega); have hap2 : a ≤ pv2 := (by omega); have hpn2 : pv2 < n := (by omega); clear hpv2)
            | (go_at_call 106; refine (hrev.out _ hP2.out).mono ?_; rintro e w3 ⟨rfl, hP3⟩; replace hP3 := Lib.hid hP3)
            | (go_at_call 107; (first | (with_reducible refine (hpar.out _ hP3.out).mono ?_) | (with_reducible refine (hpar.out _ hP2.out).mono ?_)); rintro e w4 ⟨⟨v, rfl, t, rfl⟩, hP4⟩; replace hP4 := Lib.hid hP4))
          · have hP := hP3
            have hpe := Lib.hid fun W (hW : SrtP b T rest zs w W) => hW.partEq cap off a n pv2 hoff.out hap2 hpn2 hn hlz
            have hpo := Lib.hid fun W (hW : SrtP b T rest zs w W) => hW.part cap off a n pv2 hoff.out hap2 hpn2 hn hlz
            obtain ⟨G, hcw, hfw, -⟩ := hP.out.open hoff.out
            have hpvl : pv2 < zs.length := by omega
            by_cases ha0 : 0 < a
            · have haI : (0 : Int) < (a : Int) := by omega
              have hal1 : a - 1 < zs.length := by omega
              have hw1 : IntKind.i64.wrap ((a : Int) - 1) = ((a - 1 : Nat) : Int) := by simp [IntKind.wrap, IntKind.bits, IntKind.signed]; omega
              go_quiet (first | (go_at_call 108; refine Calls.quiet_of_same (less_any _ _ _)))
              go_wp2_with (go_at_call 109; refine (hpe.out _ (hP.out.drewN _)).mono ?_; rintro e w5 ⟨⟨v, rfl, mid, rfl, hm1, hm2⟩, hP5⟩; replace hP5 := Lib.hid hP5)
              · go_roundw
                case rel => exact ⟨mid, n, l, _, _, rfl, rfl, rfl, rfl, rfl, hm2, hn, by have := hmm.out; omega, hl1, hP5⟩
                case measure => simp [intOf] <;> omega
              · go_wp2_with (first
                  | (go_at_call 110; refine (hpo.out _ (hP.out.drewN _)).mono ?_; rintro e w5 ⟨⟨v, rfl, mid, tp, rfl, hm1, hm2⟩, hP5⟩; obtain ⟨m1, hm1n⟩ : ∃ m1 : Nat, m1 = mid + 1 := ⟨_, rfl⟩; have hm1I : (mid : Int) + 1 = (m1 : Int) := (by omega); have r1 := Lib.hid (hih.out a mid l w5 hP5 hm1 (by omega) (by omega) hl1); have r2 := Lib.hid (hih.out m1 n l w5 hP5 (by omega) hn (by omega) hl1); have hmn : m1 ≤ n := (by omega); have hma : a < m1 := (by omega); clear hm1n hP5)
                  | (go_at_call 85; (with_reducible refine r1.out.mono ?_); rintro e w6 ⟨rfl, hP6⟩; replace hP6 := Lib.hid hP6)
                  | (go_at_call 85; (with_reducible refine r2.out.mono ?_); rintro e w6 ⟨rfl, hP6⟩; replace hP6 := Lib.hid hP6))
                · go_roundw
                  case rel => exact ⟨m1, n, l, _, _, rfl, rfl, rfl, rfl, rfl, hmn, hn, by have := hmm.out; omega, hl1, hP6⟩
                  case measure => simp [intOf] <;> omega
                · go_roundw
                  case rel => exact ⟨a, mid, l, _, _, rfl, rfl, rfl, rfl, rfl, hm1, by omega, by have := hmm.out; omega, hl1, hP6⟩
                  case measure => simp [intOf] <;> omega
            · have haI : ¬ (0 : Int) < (a : Int) := by omega
              go_quiet (first | (go_at_call 108; refine Calls.quiet_of_same (less_any _ _ _)))
              go_wp2_with (first
                | (go_at_call 110; refine (hpo.out _ (hP.out.drewN _)).mono ?_; rintro e w5 ⟨⟨v, rfl, mid, tp, rfl, hm1, hm2⟩, hP5⟩; obtain ⟨m1, hm1n⟩ : ∃ m1 : Nat, m1 = mid + 1 := ⟨_, rfl⟩; have hm1I : (mid : Int) + 1 = (m1 : Int) := (by omega); have r1 := Lib.hid (hih.out a mid l w5 hP5 hm1 (by omega) (by omega) hl1); have r2 := Lib.hid (hih.out m1 n l w5 hP5 (by omega) hn (by omega) hl1); have hmn : m1 ≤ n := (by omega); have hma : a < m1 := (by omega); clear hm1n hP5)
                | (go_at_call 85; (with_reducible refine r1.out.mono ?_); rintro e w6 ⟨rfl, hP6⟩; replace hP6 := Lib.hid hP6)
                | (go_at_call 85; (with_reducible refine r2.out.mono ?_); rintro e w6 ⟨rfl, hP6⟩; replace hP6 := Lib.hid hP6))
              · go_roundw
                case rel => exact ⟨m1, n, l, _, _, rfl, rfl, rfl, rfl, rfl, hmn, hn, by have := hmm.out; omega, hl1, hP6⟩
                case measure => simp [intOf] <;> omega
              · go_roundw
                case rel => exact ⟨a, mid, l, _, _, rfl, rfl, rfl, rfl, rfl, hm1, by omega, by have := hmm.out; omega, hl1, hP6⟩
                case measure => simp [intOf] <;> omega
          · have hP := hP2
            have hpe := Lib.hid fun W (hW : SrtP b T rest zs w W) => hW.partEq cap off a n pv hoff.out hap hpn hn hlz
            have hpo := Lib.hid fun W (hW : SrtP b T rest zs w W) => hW.part cap off a n pv hoff.out hap hpn hn hlz
            obtain ⟨G, hcw, hfw, -⟩ := hP.out.open hoff.out
            have hpvl : pv < zs.length := by omega
            by_cases ha0 : 0 < a
            · have haI : (0 : Int) < (a : Int) := by omega
              have hal1 : a - 1 < zs.length := by omega
              have hw1 : IntKind.i64.wrap ((a : Int) - 1) = ((a - 1 : Nat) : Int) := by simp [IntKind.wrap, IntKind.bits, IntKind.signed]; omega
              go_quiet (first | (go_at_call 108; refine Calls.quiet_of_same (less_any _ _ _)))
              go_wp2_with (go_at_call 109; refine (hpe.out _ (hP.out.drewN _)).mono ?_; rintro e w5 ⟨⟨v, rfl, mid, rfl, hm1, hm2⟩, hP5⟩; replace hP5 := Lib.hid hP5)
              · go_roundw
                case rel => exact ⟨mid, n, l, _, _, rfl, rfl, rfl, rfl, rfl, hm2, hn, by have := hmm.out; omega, hl1, hP5⟩
                case measure => simp [intOf] <;> omega
              · go_wp2_with (first
                  | (go_at_call 110; refine (hpo.out _ (hP.out.drewN _)).mono ?_; rintro e w5 ⟨⟨v, rfl, mid, tp, rfl, hm1, hm2⟩, hP5⟩; obtain ⟨m1, hm1n⟩ : ∃ m1 : Nat, m1 = mid + 1 := ⟨_, rfl⟩; have hm1I : (mid : Int) + 1 = (m1 : Int) := (by omega); have r1 := Lib.hid (hih.out a mid l w5 hP5 hm1 (by omega) (by omega) hl1); have r2 := Lib.hid (hih.out m1 n l w5 hP5 (by omega) hn (by omega) hl1); have hmn : m1 ≤ n := (by omega); have hma : a < m1 := (by omega); clear hm1n hP5)
                  | (go_at_call 85; (with_reducible refine r1.out.mono ?_); rintro e w6 ⟨rfl, hP6⟩; replace hP6 := Lib.hid hP6)
                  | (go_at_call 85; (with_reducible refine r2.out.mono ?_); rintro e w6 ⟨rfl, hP6⟩; replace hP6 := Lib.hid hP6))
                · go_roundw
                  case rel => exact ⟨m1, n, l, _, _, rfl, rfl, rfl, rfl, rfl, hmn, hn, by have := hmm.out; omega, hl1, hP6⟩
                  case measure => simp [intOf] <;> omega
                · go_roundw
                  case rel => exact ⟨a, mid, l, _, _, rfl, rfl, rfl, rfl, rfl, hm1, by omega, by have := hmm.out; omega, hl1, hP6⟩
                  case measure => simp [intOf] <;> omega
            · have haI : ¬ (0 : Int) < (a : Int) := by omega
              go_quiet (first | (go_at_call 108; refine Calls.quiet_of_same (less_any _ _ _)))
              go_wp2_with (first
                | (go_at_call 110; refine (hpo.out _ (hP.out.drewN _)).mono ?_; rintro e w5 ⟨⟨v, rfl, mid, tp, rfl, hm1, hm2⟩, hP5⟩; obtain ⟨m1, hm1n⟩ : ∃ m1 : Nat, m1 = mid + 1 := ⟨_, rfl⟩; have hm1I : (mid : Int) + 1 = (m1 : Int) := (by omega); have r1 := Lib.hid (hih.out a mid l w5 hP5 hm1 (by omega) (by omega) hl1); have r2 := Lib.hid (hih.out m1 n l w5 hP5 (by omega) hn (by omega) hl1); have hmn : m1 ≤ n := (by omega); have hma : a < m1 := (by omega); clear hm1n hP5)
                | (go_at_call 85; (with_reducible refine r1.out.mono ?_); rintro e w6 ⟨rfl, hP6⟩; replace hP6 := Lib.hid hP6)
                | (go_at_call 85; (with_reducible refine r2.out.mono ?_); rintro e w6 ⟨rfl, hP6⟩; replace hP6 := Lib.hid hP6))
              · go_roundw
                case rel => exact ⟨m1, n, l, _, _, rfl, rfl, rfl, rfl, rfl, hmn, hn, by have := hmm.out; omega, hl1, hP6⟩
                case measure => simp [intOf] <;> omega
              · go_roundw
                case rel => exact ⟨a, mid, l, _, _, rfl, rfl, rfl, rfl, rfl, hm1, by omega, by have := hmm.out; omega, hl1, hP6⟩
                case measure => simp [intOf] <;> omega
        | true =>
          go_wp2_with (first
            | (go_at_call 104; refine (hbr.out _ hP.out).mono ?_; rintro e w1 ⟨rfl, hP1⟩; replace hP1 := Lib.hid hP1)
            | (go_at_call 105; refine (hchs.out _ hP.out).mono ?_; rintro e w2 ⟨⟨v, rfl, pv, h, rfl, hap, hpn⟩, hP2⟩; replace hP2 := Lib.hid hP2; obtain ⟨pv2, hpv2⟩ : ∃ pv2 : Nat, pv2 = n - 1 - (pv - a) := ⟨_, rfl⟩; have hpv2I : (n : Int) - 1 - ((pv : Int) - (a : Int)) = (pv2 : Int) := (by omega); have hap2 : a ≤ pv2 := (by omega); have hpn2 : pv2 < n := (by omega); clear hpv2)
            | (go_at_call 106; refine (hrev.out _ hP2.out).mono ?_; rintro e w3 ⟨rfl, hP3⟩; replace hP3 := Lib.hid hP3)
            | (go_at_call 107; (first | (with_reducible refine (hpar.out _ hP3.out).mono ?_) | (with_reducible refine (hpar.out _ hP2.out).mono ?_)); rintro e w4 ⟨⟨v, rfl, t, rfl⟩, hP4⟩; replace hP4 := Lib.hid hP4))
          · refine bodyPost_ret (results_none rfl _ _ _) rfl ?_
            exact ⟨rfl, hP4.out⟩
          · have hP := hP4
            have hpe := Lib.hid fun W (hW : SrtP b T rest zs w W) => hW.partEq cap off a n pv2 hoff.out hap2 hpn2 hn hlz
            have hpo := Lib.hid fun W (hW : SrtP b T rest zs w W) => hW.part cap off a n pv2 hoff.out hap2 hpn2 hn hlz
            obtain ⟨G, hcw, hfw, -⟩ := hP.out.open hoff.out
            have hpvl : pv2 < zs.length := by omega
            by_cases ha0 : 0 < a
            · have haI : (0 : Int) < (a : Int) := by omega
              have hal1 : a - 1 < zs.length := by omega
              have hw1 : IntKind.i64.wrap ((a : Int) - 1) = ((a - 1 : Nat) : Int) := by simp [IntKind.wrap, IntKind.bits, IntKind.signed]; omega
              go_quiet (first | (go_at_call 108; refine Calls.quiet_of_same (less_any _ _ _)))
              go_wp2_with (go_at_call 109; refine (hpe.out _ (hP.out.drewN _)).mono ?_; rintro e w5 ⟨⟨v, rfl, mid, rfl, hm1, hm2⟩, hP5⟩; replace hP5 := Lib.hid hP5)
              · go_roundw
                case rel => exact ⟨mid, n, l, _, _, rfl, rfl, rfl, rfl, rfl, hm2, hn, by have := hmm.out; omega, hl1, hP5⟩
                case measure => simp [intOf] <;> omega
              · go_wp2_with (first
                  | (go_at_call 110; refine (hpo.out _ (hP.out.drewN _)).mono ?_; rintro e w5 ⟨⟨v, rfl, mid, tp, rfl, hm1, hm2⟩, hP5⟩; obtain ⟨m1, hm1n⟩ : ∃ m1 : Nat, m1 = mid + 1 := ⟨_, rfl⟩; have hm1I : (mid : Int) + 1 = (m1 : Int) := (by omega); have r1 := Lib.hid (hih.out a mid l w5 hP5 hm1 (by omega) (by omega) hl1); have r2 := Lib.hid (hih.out m1 n l w5 hP5 (by omega) hn (by omega) hl1); have hmn : m1 ≤ n := (by omega); have hma : a < m1 := (by omega); clear hm1n hP5)
                  | (go_at_call 85; (with_reducible refine r1.out.mono ?_); rintro e w6 ⟨rfl, hP6⟩; replace hP6 := Lib.hid hP6)
                  | (go_at_call 85; (with_reducible refine r2.out.mono ?_); rintro e w6 ⟨rfl, hP6⟩; replace hP6 := Lib.hid hP6))
                · go_roundw
                  case rel => exact ⟨m1, n, l, _, _, rfl, rfl, rfl, rfl, rfl, hmn, hn, by have := hmm.out; omega, hl1, hP6⟩
                  case measure => simp [intOf] <;> omega
                · go_roundw
                  case rel => exact ⟨a, mid, l, _, _, rfl, rfl, rfl, rfl, rfl, hm1, by omega, by have := hmm.out; omega, hl1, hP6⟩
                  case measure => simp [intOf] <;> omega
            · have haI : ¬ (0 : Int) < (a : Int) := by omega
              go_quiet (first | (go_at_call 108; refine Calls.quiet_of_same (less_any _ _ _)))
              go_wp2_with (first
                | (go_at_call 110; refine (hpo.out _ (hP.out.drewN _)).mono ?_; rintro e w5 ⟨⟨v, rfl, mid, tp, rfl, hm1, hm2⟩, hP5⟩; obtain ⟨m1, hm1n⟩ : ∃ m1 : Nat, m1 = mid + 1 := ⟨_, rfl⟩; have hm1I : (mid : Int) + 1 = (m1 : Int) := (by omega); have r1 := Lib.hid (hih.out a mid l w5 hP5 hm1 (by omega) (by omega) hl1); have r2 := Lib.hid (hih.out m1 n l w5 hP5 (by omega) hn (by omega) hl1); have hmn : m1 ≤ n := (by omega); have hma : a < m1 := (by omega); clear hm1n hP5)
                | (go_at_call 85; (with_reducible refine r1.out.mono ?_); rintro e w6 ⟨rfl, hP6⟩; replace hP6 := Lib.hid hP6)
                | (go_at_call 85; (with_reducible refine r2.out.mono ?_); rintro e w6 ⟨rfl, hP6⟩; replace hP6 := Lib.hid hP6))
              · go_roundw
                case rel => exact ⟨m1, n, l, _, _, rfl, rfl, rfl, rfl, rfl, hmn, hn, by have := hmm.out; omega, hl1, hP6⟩
                case measure => simp [intOf] <;> omega
              · go_roundw
                case rel => exact ⟨a, mid, l, _, _, rfl, rfl, rfl, rfl, rfl, hm1, by omega, by have := hmm.out; omega, hl1, hP6⟩
                case measure => simp [intOf] <;> omega
          · refine bodyPost_ret (results_none rfl _ _ _) rfl ?_
            exact ⟨rfl, hP4.out⟩
          · have hP := hP4
            have hpe := Lib.hid fun W (hW : SrtP b T rest zs w W) => hW.partEq cap off a n pv hoff.out hap hpn hn hlz
            have hpo := Lib.hid fun W (hW : SrtP b T rest zs w W) => hW.part cap off a n pv hoff.out hap hpn hn hlz
            obtain ⟨G, hcw, hfw, -⟩ := hP.out.open hoff.out
            have hpvl : pv < zs.length := by omega
            by_cases ha0 : 0 < a
            · have haI : (0 : Int) < (a : Int) := by omega
              have hal1 : a - 1 < zs.length := by omega
              have hw1 : IntKind.i64.wrap ((a : Int) - 1) = ((a - 1 : Nat) : Int) := by simp [IntKind.wrap, IntKind.bits, IntKind.signed]; omega
              go_quiet (first | (go_at_call 108; refine Calls.quiet_of_same (less_any _ _ _)))
              go_wp2_with (go_at_call 109; refine (hpe.out _ (hP.out.drewN _)).mono ?_; rintro e w5 ⟨⟨v, rfl, mid, rfl, hm1, hm2⟩, hP5⟩; replace hP5 := Lib.hid hP5)
              · go_roundw
                case rel => exact ⟨mid, n, l, _, _, rfl, rfl, rfl, rfl, rfl, hm2, hn, by have := hmm.out; omega, hl1, hP5⟩
                case measure => simp [intOf] <;> omega
              · go_wp2_with (first
                  | (go_at_call 110; refine (hpo.out _ (hP.out.drewN _)).mono ?_; rintro e w5 ⟨⟨v, rfl, mid, tp, rfl, hm1, hm2⟩, hP5⟩; obtain ⟨m1, hm1n⟩ : ∃ m1 : Nat, m1 = mid + 1 := ⟨_, rfl⟩; have hm1I : (mid : Int) + 1 = (m1 : Int) := (by omega); have r1 := Lib.hid (hih.out a mid l w5 hP5 hm1 (by omega) (by omega) hl1); have r2 := Lib.hid (hih.out m1 n l w5 hP5 (by omega) hn (by omega) hl1); have hmn : m1 ≤ n := (by omega); have hma : a < m1 := (by omega); clear hm1n hP5)
                  | (go_at_call 85; (with_reducible refine r1.out.mono ?_); rintro e w6 ⟨rfl, hP6⟩; replace hP6 := Lib.hid hP6)
                  | (go_at_call 85; (with_reducible refine r2.out.mono ?_); rintro e w6 ⟨rfl, hP6⟩; replace hP6 := Lib.hid hP6))
                · go_roundw
                  case rel => exact ⟨m1, n, l, _, _, rfl, rfl, rfl, rfl, rfl, hmn, hn, by have := hmm.out; omega, hl1, hP6⟩
                  case measure => simp [intOf] <;> omega
                · go_roundw
                  case rel => exact ⟨a, mid, l, _, _, rfl, rfl, rfl, rfl, rfl, hm1, by omega, by have := hmm.out; omega, hl1, hP6⟩
                  case measure => simp [intOf] <;> omega
            · have haI : ¬ (0 : Int) < (a : Int) := by omega
              go_quiet (first | (go_at_call 108; refine Calls.quiet_of_same (less_any _ _ _)))
              go_wp2_with (first
                | (go_at_call 110; refine (hpo.out _ (hP.out.drewN _)).mono ?_; rintro e w5 ⟨⟨v, rfl, mid, tp, rfl, hm1, hm2⟩, hP5⟩; obtain ⟨m1, hm1n⟩ : ∃ m1 : Nat, m1 = mid + 1 := ⟨_, rfl⟩; have hm1I : (mid : Int) + 1 = (m1 : Int) := (by omega); have r1 := Lib.hid (hih.out a mid l w5 hP5 hm1 (by omega) (by omega) hl1); have r2 := Lib.hid (hih.out m1 n l w5 hP5 (by omega) hn (by omega) hl1); have hmn : m1 ≤ n := (by omega); have hma : a < m1 := (by omega); clear hm1n hP5)
                | (go_at_call 85; (with_reducible refine r1.out.mono ?_); rintro e w6 ⟨rfl, hP6⟩; replace hP6 := Lib.hid hP6)
                | (go_at_call 85; (with_reducible refine r2.out.mono ?_); rintro e w6 ⟨rfl, hP6⟩; replace hP6 := Lib.hid hP6))
              · go_roundw
                case rel => exact ⟨m1, n, l, _, _, rfl, rfl, rfl, rfl, rfl, hmn, hn, by have := hmm.out; omega, hl1, hP6⟩
                case measure => simp [intOf] <;> omega
              · go_roundw
                case rel => exact ⟨a, mid, l, _, _, rfl, rfl, rfl, rfl, rfl, hm1, by omega, by have := hmm.out; omega, hl1, hP6⟩
                case measure => simp [intOf] <;> omega
          · have hP := hP2
            have hpe := Lib.hid fun W (hW : SrtP b T rest zs w W) => hW.partEq cap off a n pv hoff.out hap hpn hn hlz
            have hpo := Lib.hid fun W (hW : SrtP b T rest zs w W) => hW.part cap off a n pv hoff.out hap hpn hn hlz
            obtain ⟨G, hcw, hfw, -⟩ := hP.out.open hoff.out
            have hpvl : pv < zs.length := by omega
            by_cases ha0 : 0 < a
            · have haI : (0 : Int) < (a : Int) := by omega
              have hal1 : a - 1 < zs.length := by omega
              have hw1 : IntKind.i64.wrap ((a : Int) - 1) = ((a - 1 : Nat) : Int) := by simp [IntKind.wrap, IntKind.bits, IntKind.signed]; omega
              go_quiet (first | (go_at_call 108; refine Calls.quiet_of_same (less_any _ _ _)))
              go_wp2_with (go_at_call 109; refine (hpe.out _ (hP.out.drewN _)).mono ?_; rintro e w5 ⟨⟨v, rfl, mid, rfl, hm1, hm2⟩, hP5⟩; replace hP5 := Lib.hid hP5)
              · go_roundw
                case rel => exact ⟨mid, n, l, _, _, rfl, rfl, rfl, rfl, rfl, hm2, hn, by have := hmm.out; omega, hl1, hP5⟩
                case measure => simp [intOf] <;> omega
              · go_wp2_with (first
                  | (go_at_call 110; refine (hpo.out _ (hP.out.drewN _)).mono ?_; rintro e w5 ⟨⟨v, rfl, mid, tp, rfl, hm1, hm2⟩, hP5⟩; obtain ⟨m1, hm1n⟩ : ∃ m1 : Nat, m1 = mid + 1 := ⟨_, rfl⟩; have hm1I : (mid : Int) + 1 = (m1 : Int) := (by omega); have r1 := Lib.hid (hih.out a mid l w5 hP5 hm1 (by omega) (by omega) hl1); have r2 := Lib.hid (hih.out m1 n l w5 hP5 (by omega) hn (by omega) hl1); have hmn : m1 ≤ n := (by omega); have hma : a < m1 := (by omega); clear hm1n hP5)
                  | (go_at_call 85; (with_reducible refine r1.out.mono ?_); rintro e w6 ⟨rfl, hP6⟩; replace hP6 := Lib.hid hP6)
                  | (go_at_call 85; (with_reducible refine r2.out.mono ?_); rintro e w6 ⟨rfl, hP6⟩; replace hP6 := Lib.hid hP6))
                · go_roundw
                  case rel => exact ⟨m1, n, l, _, _, rfl, rfl, rfl, rfl, rfl, hmn, hn, by have := hmm.out; omega, hl1, hP6⟩
                  case measure => simp [intOf] <;> omega
                · go_roundw
                  case rel => exact ⟨a, mid, l, _, _, rfl, rfl, rfl, rfl, rfl, hm1, by omega, by have := hmm.out; omega, hl1, hP6⟩
                  case measure => simp [intOf] <;> omega
            · have haI : ¬ (0 : Int) < (a : Int) := by omega
              go_quiet (first | (go_at_call 108; refine Calls.quiet_of_same (less_any _ _ _)))
              go_wp2_with (first
                | (go_at_call 110; refine (hpo.out _ (hP.out.drewN _)).mono ?_; rintro e w5 ⟨⟨v, rfl, mid, tp, rfl, hm1, hm2⟩, hP5⟩; obtain ⟨m1, hm1n⟩ : ∃ m1 : Nat, m1 = mid + 1 := ⟨_, rfl⟩; have hm1I : (mid : Int) + 1 = (m1 : Int) := (by omega); have r1 := Lib.hid (hih.out a mid l w5 hP5 hm1 (by omega) (by omega) hl1); have r2 := Lib.hid (hih.out m1 n l w5 hP5 (by omega) hn (by omega) hl1); have hmn : m1 ≤ n := (by omega); have hma : a < m1 := (by omega); clear hm1n hP5)
                | (go_at_call 85; (with_reducible refine r1.out.mono ?_); rintro e w6 ⟨rfl, hP6⟩; replace hP6 := Lib.hid hP6)
                | (go_at_call 85; (with_reducible refine r2.out.mono ?_); rintro e w6 ⟨rfl, hP6⟩; replace hP6 := Lib.hid hP6))
              · go_roundw
                case rel => exact ⟨m1, n, l, _, _, rfl, rfl, rfl, rfl, rfl, hmn, hn, by have := hmm.out; omega, hl1, hP6⟩
                case measure => simp [intOf] <;> omega
              · go_roundw
                case rel => exact ⟨a, mid, l, _, _, rfl, rfl, rfl, rfl, rfl, hm1, by omega, by have := hmm.out; omega, hl1, hP6⟩
                case measure => simp [intOf] <;> omega
end Go.Proofs.YtbicfaiabpcgfaaGreatDoor
