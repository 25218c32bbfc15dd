/- Package sha: roots, numbers. -/
import Derived.Test.YtfieagpidplmoaaShaA
import Derived.Test.YtfieagpidplmoaaJump
namespace Go.Proofs.Ytfieagpidplmoaa
open Go.RowKit

theorem or_pow (x i : Nat) (hx : x < 2 ^ 37) (hi : i < 37) : bits .or .u64 (x : Int) ((2 ^ i : Nat) : Int) = ((x ||| 2 ^ i : Nat) : Int) := by
  have h2 : 2 ^ i < 2 ^ 37 := Nat.pow_lt_pow_right (by decide) hi
  have w64 : ∀ n : Nat, n < 18446744073709551616 → IntKind.u64.wrap (n : Int) = n := by
    intro n hn
    simp [IntKind.wrap, IntKind.bits, IntKind.signed]; omega
  have o : ∀ n : Nat, BitVec.ofInt 64 (n : Int) = BitVec.ofNat 64 n := fun n => BitVec.ofInt_natCast 64 n
  have hlt := or37 hx hi
  show IntKind.u64.wrap (((BitVec.ofInt 64 (x : Int)) ||| (BitVec.ofInt 64 ((2 ^ i : Nat) : Int))).toNat : Int) = _
  rw [o, o, BitVec.toNat_or, BitVec.toNat_ofNat, BitVec.toNat_ofNat, Nat.mod_eq_of_lt (by omega), Nat.mod_eq_of_lt (by omega), w64 _ (by omega)]
theorem below_any (x p : Nat) (cube : Bool) (n : Nat) (w : World) (hx : x < 137438953472) (hp : p < 65536) (hn : n = if cube then 3 else 2) :
    Calls Try.prog 48 #[.int .u64 x, .int .u64 p, .bool cube] w fun e w' => e = .returned (.bool (decide (x ^ n ≤ p * 2 ^ (32 * n)))) ∧ w = w' := by
  subst hn
  cases cube
  · exact belowSq_any x p w hx hp
  · exact belowCu_any x p w hx hp

theorem root_any (p : Nat) (cube : Bool) (w : World) (hp : p < 65536) :
    Calls Try.prog 38 #[.int .u64 p, .bool cube] w fun e w' => e = .returned (.int .u32 ((rootF p (if cube then 3 else 2) % 4294967296 : Nat) : Int)) ∧ w = w' := by
  obtain ⟨n, hn⟩ : ∃ n : Nat, n = if cube then 3 else 2 := ⟨_, rfl⟩
  rw [← hn]
  obtain ⟨T, hT⟩ : ∃ T : Nat, T = p * 2 ^ (32 * n) := ⟨_, rfl⟩
  obtain ⟨r, hr⟩ : ∃ r : Nat, rootF p n = r := ⟨_, rfl⟩
  have h0 : Hid (rootGo T n 37 0 = r) := by rw [← hr, hT]; rfl
  rw [hr]
  replace hT := Lib.hid hT.symm
  replace hn := Lib.hid hn
  clear hr
  go_enter Try.func38, Try.ntmps38
  go_wp2_with fail
  obtain ⟨J, hJ⟩ : ∃ J : Act → World → Prop, ∀ a' w', J a' w' ↔ (w' = w ∧ ∃ (m x : Nat) (u7 u8 u9 u10 u11 u12 u13 u14 u15 u16 u17 u18 u19 u20 u21 : Value), a' = { tmps := #[.int .u64 p, .bool cube, undef, undef, .int .u32 0, .int .u64 x, .int .u64 ((2 ^ m : Nat) : Int), u7, u8, u9, u10, u11, u12, u13, u14, u15, u16, u17, u18, u19, u20, u21], defers := [] } ∧ m < 37 ∧ Hid (x < 2 ^ 37) ∧ Hid (rootGo T n (m + 1) x = r)) := ⟨_, fun _ _ => Iff.rfl⟩
  replace hJ := Lib.hid hJ
  refine wp_scope_loop 0 J (fun a' _ => (intOf (a'.tmps.getD 6 undef)).toNat) rfl ?_ ?_
  · go_wp2
    exact (hJ.out _ _).2 ⟨rfl, 36, 0, undef, undef, undef, undef, undef, undef, undef, undef, undef, undef, undef, undef, undef, undef, undef, by rw [show (((2 : Nat) ^ 36 : Nat) : Int) = 68719476736 by decide]; rfl, by decide, Lib.hid (by decide), h0⟩
  · intro a' w' hj
    obtain ⟨rfl, m, x, u7, u8, u9, u10, u11, u12, u13, u14, u15, u16, u17, u18, u19, u20, u21, rfl, hm, hx, hR⟩ := (hJ.out a' w').1 hj
    clear hj
    have hy37 := Lib.hid (or37 hx.out (show m < 37 by omega))
    have hyes := Lib.hid (@rootGo_yes T n m x r hR.out)
    have hno := Lib.hid (@rootGo_no T n m x r hR.out)
    have hor := or_pow x m hx.out (by omega)
    have hbl := Lib.hid (fun x (h : x < 2 ^ 37) w => below_any x p cube n w (by simpa using h) hp hn.out)
    have hb37 : 2 ^ m < 137438953472 := Nat.pow_lt_pow_right (a := 2) (by decide) (show m < 37 by omega)
    generalize hyv : x ||| 2 ^ m = y at *
    clear hyv hR
    obtain ⟨c, hc⟩ : ∃ c : Bool, c = decide (y ^ n ≤ T) := ⟨_, rfl⟩
    have hcall : ∀ w, Calls Try.prog 48 #[.int .u64 y, .int .u64 p, .bool cube] w fun e w' => e = .returned (.bool c) ∧ w = w' := by
      intro w; rw [hc, ← hT.out]; exact hbl.out y hy37.out w
    replace hcall := Lib.hid hcall
    clear hbl
    have hnext : Hid (rootGo T n m (if c = true then y else x) = r) := by
      by_cases hle : y ^ n ≤ T
      · rw [if_pos (by rw [hc]; exact decide_eq_true hle)]; exact hyes.out hle
      · rw [if_neg (by rw [hc]; simpa using hle)]; exact hno.out hle
    have hxn : Hid ((if c = true then y else x) < 2 ^ 37) := by
      split
      · exact hy37
      · exact hx
    clear hyes hno hc hx hy37
    rcases m with _ | m
    · have hb2 : (((2 : Nat) ^ 0 : Nat) : Int) / 2 = 0 := by decide
      generalize (2 : Nat) ^ 0 = b1 at *
      replace hnext : Hid ((if c = true then y else x) = r) := hnext
      have hr32 : IntKind.u32.wrap (r : Int) = ((r % 4294967296 : Nat) : Int) := by rw [IntKind.wrap_u32]; omega
      cases c
      · have hxr : x = r := hnext.out
        subst hxr
        go_wp2_with (first
          | (go_at_call 48; refine (hcall.out _).mono ?_; rintro e w' ⟨rfl, rfl⟩))
        have e32 : (x : Int) % 4294967296 = ((x % 4294967296 : Nat) : Int) := by omega
        rw [e32]
        simp only [Exit.jump]
        go_ret
        exact ⟨rfl, rfl⟩
      · have hxr : y = r := hnext.out
        subst hxr
        go_wp2_with (first
          | (go_at_call 48; refine (hcall.out _).mono ?_; rintro e w' ⟨rfl, rfl⟩))
        have e32 : (y : Int) % 4294967296 = ((y % 4294967296 : Nat) : Int) := by omega
        rw [e32]
        simp only [Exit.jump]
        go_ret
        exact ⟨rfl, rfl⟩
    · have hb2 : (((2 : Nat) ^ (m + 1) : Nat) : Int) / 2 = ((2 ^ m : Nat) : Int) := by rw [Nat.pow_succ]; omega
      have hb3 : 0 < (2 : Nat) ^ m := Nat.pow_pos (by decide)
      generalize (2 : Nat) ^ (m + 1) = b1 at *
      generalize hb0 : (2 : Nat) ^ m = b0 at *
      cases c
      · go_wp2_with (first
          | (go_at_call 48; refine (hcall.out _).mono ?_; rintro e w' ⟨rfl, rfl⟩))
        go_step3
        refine ⟨rfl, (hJ.out _ _).2 ⟨rfl, m, _, _, _, _, _, _, _, _, _, _, _, _, _, _, _, _, by rw [hb0]; rfl, by omega, hxn, hnext⟩, ?_⟩
        simp [intOf]; omega
      · go_wp2_with (first
          | (go_at_call 48; refine (hcall.out _).mono ?_; rintro e w' ⟨rfl, rfl⟩))
        go_step3
        refine ⟨rfl, (hJ.out _ _).2 ⟨rfl, m, _, _, _, _, _, _, _, _, _, _, _, _, _, _, _, _, by rw [hb0]; rfl, by omega, hxn, hnext⟩, ?_⟩
        simp [intOf]; omega
end Go.Proofs.Ytfieagpidplmoaa
