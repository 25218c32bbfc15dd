/- The program's digest (layer 24): roots. -/
import Derived.Test.YtfafancacfjodaaRipG
import Derived.Test.YtfafancacfjodaaJump
import Derived.Shelf.Bits.Mul64
import Derived.Deep.Cut
namespace Go.Proofs.Ytfafancacfjodaa
open Go.RowKit

set_option maxHeartbeats 1000000 in
theorem mul64_any (x y : Nat) (hx : x < 18446744073709551616) (hy : y < 18446744073709551616) (w : World) :
    Calls Try.prog 55 #[.int .u64 x, .int .u64 y] w fun e w' => e = .returned (.tuple #[.int .u64 ((x * y / 18446744073709551616 : Nat) : Int), .int .u64 ((x * y % 18446744073709551616 : Nat) : Int)]) ∧ w = w' := by
  obtain ⟨bd, bt, bw, hhi⟩ := Lib.mul64_hi x y hx hy
  have ba := Lib.half_mul_le (a := x / 4294967296) (b := y / 4294967296) (by omega) (by omega)
  have bb := Lib.half_mul_le (a := x / 4294967296) (b := y % 4294967296) (by omega) (by omega)
  have bc := Lib.half_mul_le (a := x % 4294967296) (b := y / 4294967296) (by omega) (by omega)
  have ba' : x / 4294967296 * (y / 4294967296) < 18446744073709551616 := by omega
  have bb' : x / 4294967296 * (y % 4294967296) < 18446744073709551616 := by omega
  have bc' : x % 4294967296 * (y / 4294967296) < 18446744073709551616 := by omega
  have bh1 : x / 4294967296 * (y / 4294967296) + (x / 4294967296 * (y % 4294967296) + x % 4294967296 * (y % 4294967296) / 4294967296) / 4294967296 < 18446744073709551616 := by omega
  have bh : x / 4294967296 * (y / 4294967296) + (x / 4294967296 * (y % 4294967296) + x % 4294967296 * (y % 4294967296) / 4294967296) / 4294967296 + ((x / 4294967296 * (y % 4294967296) + x % 4294967296 * (y % 4294967296) / 4294967296) % 4294967296 + x % 4294967296 * (y / 4294967296)) / 4294967296 < 18446744073709551616 := by omega
  go_enter Try.func55, Try.ntmps55
  go_wp2
  simp only [Mul64.maskN x hx, Mul64.maskN y hy, Mul64.divN, Mul64.mulN, Mul64.addN, Mul64.wrapN _ bd, Mul64.wrapN _ bb', Mul64.wrapN _ bt, Mul64.maskN _ bt, Mul64.wrapN _ bc', Mul64.wrapN _ bw, Mul64.wrapN _ ba', Mul64.wrapN _ bh1, Mul64.wrapN _ bh, Mul64.wrapM (x * y)]
  rw [hhi]
  go_ret2
  exact ⟨rfl, rfl⟩

theorem fitsSq_any (x p : Nat) (w : World) (hx : x < 17179869184) (hp : p < 16) :
    Calls Try.prog 45 #[.int .u64 x, .int .u64 p, .bool false] w fun e w' => e = .returned (.bool (decide (x ^ 2 ≤ p * 2 ^ (30 * 2)))) ∧ w = w' := by
  have hsq : x ^ 2 = x * x := Nat.pow_two x
  rw [hsq, show 2 ^ (30 * 2) = 1152921504606846976 by decide]
  have hb : x * x ≤ 17179869183 * 17179869183 := Nat.mul_le_mul (by omega) (by omega)
  obtain ⟨s, hs⟩ : ∃ s : Nat, x * x = s := ⟨_, rfl⟩
  rw [hs] at hb ⊢
  replace hs := Lib.hid hs
  clear hsq
  have hp0 : (p : Int) / 16 = 0 := by omega
  have hp1 : IntKind.u64.wrap ((p : Int) * 1152921504606846976) = (p : Int) * 1152921504606846976 := by rw [IntKind.wrap_u64]; omega
  have hp2 : IntKind.u64.wrap ((p : Int) * 2 ^ Int.toNat 60) = (p : Int) * 1152921504606846976 := by rw [IntKind.wrap_u64, show Int.toNat 60 = 60 by decide]; omega
  obtain ⟨h, hh⟩ : ∃ h : Nat, s / 18446744073709551616 = h := ⟨_, rfl⟩
  obtain ⟨l, hl⟩ : ∃ l : Nat, s % 18446744073709551616 = l := ⟨_, rfl⟩
  have hhl : Hid (s = 18446744073709551616 * h + l) := Lib.hid (by omega)
  have hll : l < 18446744073709551616 := by omega
  obtain ⟨r, hr⟩ : ∃ r, r = decide (s ≤ p * 1152921504606846976) := ⟨_, rfl⟩
  rw [← hr]
  replace hh := Lib.hid hh
  replace hl := Lib.hid hl
  replace hr := Lib.hid hr
  have hmul := fun W => mul64_any x x (by omega) (by omega) W
  rw [hs.out, hh.out, hl.out] at hmul
  replace hmul := Lib.hid hmul
  clear hb
  go_enter Try.func45, Try.ntmps45
  go_wp2_with (first
    | (go_at_call 55; refine (hmul.out _).mono ?_; rintro e w' ⟨rfl, rfl⟩))
  all_goals (go_ret; refine ⟨congrArg (fun b => Ending.returned (Value.bool b)) ?_, rfl⟩; rw [hr.out, hhl.out, Bool.eq_iff_iff]; simp; omega)

theorem cube_le (x p : Nat) (hx : x < 17179869184) : x * x / 18446744073709551616 * x + x * x % 18446744073709551616 * x / 18446744073709551616 < 18446744073709551616 ∧
    ((x * x / 18446744073709551616 * x + x * x % 18446744073709551616 * x / 18446744073709551616 < p * 67108864 ∨ x * x / 18446744073709551616 * x + x * x % 18446744073709551616 * x / 18446744073709551616 = p * 67108864 ∧ x * x % 18446744073709551616 * x % 18446744073709551616 = 0) ↔ x ^ 3 ≤ p * 2 ^ (30 * 3)) := by
  have hb : x * x ≤ 17179869183 * 17179869183 := Nat.mul_le_mul (by omega) (by omega)
  have e3 : x ^ 3 = x * x * x := by rw [Nat.pow_succ, Nat.pow_two]
  rw [e3, show 2 ^ (30 * 3) = 67108864 * 18446744073709551616 by decide]
  have hs := Nat.div_add_mod (x * x) 18446744073709551616
  generalize x * x = s at *
  have h1 : s / 18446744073709551616 ≤ 1024 := by omega
  have h2 : s % 18446744073709551616 < 18446744073709551616 := Nat.mod_lt _ (by decide)
  generalize s / 18446744073709551616 = h at *
  generalize s % 18446744073709551616 = l at *
  have e4 : s * x = 18446744073709551616 * (h * x) + l * x := by rw [← hs, Nat.add_mul, Nat.mul_assoc]
  rw [e4]
  have h5 : h * x ≤ 1024 * 17179869184 := Nat.mul_le_mul h1 (by omega)
  have h6 : l * x ≤ 18446744073709551616 * 17179869184 := Nat.mul_le_mul (by omega) (by omega)
  generalize h * x = hx1 at *
  generalize l * x = lx at *
  omega
theorem fitsCu_any (x p : Nat) (w : World) (hx : x < 17179869184) (hp : p < 65536) :
    Calls Try.prog 45 #[.int .u64 x, .int .u64 p, .bool true] w fun e w' => e = .returned (.bool (decide (x ^ 3 ≤ p * 2 ^ (30 * 3)))) ∧ w = w' := by
  obtain ⟨hc1, hc2⟩ := cube_le x p hx
  have hb : x * x ≤ 17179869183 * 17179869183 := Nat.mul_le_mul (by omega) (by omega)
  obtain ⟨r, hr⟩ : ∃ r, r = decide (x ^ 3 ≤ p * 2 ^ (30 * 3)) := ⟨_, rfl⟩
  rw [← hr]
  have hc3 := (show (r = true) ↔ x ^ 3 ≤ p * 2 ^ (30 * 3) by rw [hr]; exact decide_eq_true_iff).trans hc2.symm
  clear hr hc2
  have hl : x * x % 18446744073709551616 < 18446744073709551616 := Nat.mod_lt _ (by decide)
  obtain ⟨h, hh⟩ : ∃ h : Nat, x * x / 18446744073709551616 = h := ⟨_, rfl⟩
  obtain ⟨l, hl2⟩ : ∃ l : Nat, x * x % 18446744073709551616 = l := ⟨_, rfl⟩
  rw [hh, hl2] at hc1 hc3
  rw [hl2] at hl
  replace hh := Lib.hid hh
  replace hl2 := Lib.hid hl2
  obtain ⟨hx1, hhx⟩ : ∃ k : Nat, h * x = k := ⟨_, rfl⟩
  obtain ⟨lx, hlx⟩ : ∃ k : Nat, l * x = k := ⟨_, rfl⟩
  rw [hhx, hlx] at hc1 hc3
  have hhx2 : (h : Int) * (x : Int) = (hx1 : Int) := by rw [← hhx]; simp
  replace hhx := Lib.hid hhx
  replace hlx := Lib.hid hlx
  replace hc3 := Lib.hid hc3
  clear hb
  replace hc1 : hx1 + lx / 18446744073709551616 < 18446744073709551616 := hc1
  go_enter Try.func45, Try.ntmps45
  go_upto_region 4 with (first
    | (go_at_call 55; refine (mul64_any x x (by omega) (by omega) _).mono ?_; rintro e w' ⟨rfl, rfl⟩; rw [hh.out, hl2.out]))
  go_upto_region 5 with (first
    | (go_at_call 55; refine (mul64_any l x hl (by omega) _).mono ?_; rintro e w' ⟨rfl, rfl⟩; rw [hlx.out]))
  go_upto_region 6 with fail
  obtain ⟨q, hq⟩ : ∃ q : Nat, q = p * 67108864 := ⟨_, rfl⟩
  obtain ⟨tt, htt⟩ : ∃ k : Nat, k = hx1 + lx / 18446744073709551616 := ⟨_, rfl⟩
  obtain ⟨z, hz⟩ : ∃ k : Nat, k = lx % 18446744073709551616 := ⟨_, rfl⟩
  rw [← hq, ← htt, ← hz] at hc3
  have e1 : (lx : Int) / 18446744073709551616 + (hx1 : Int) = (tt : Int) := by omega
  have e2 : (lx : Int) % 18446744073709551616 = (z : Int) := by omega
  have e3 : IntKind.u64.wrap ((p : Int) * 2 ^ Int.toNat 26) = (q : Int) := by rw [IntKind.wrap_u64, hq, show Int.toNat 26 = 26 by decide]; omega
  have e4 : IntKind.u64.wrap ((p : Int) * 67108864) = (q : Int) := by rw [IntKind.wrap_u64, hq]; omega
  rw [e1, e2]
  clear e1 e2 hq htt hz hhx2 hhx hlx hh hl2 hc1 hl
  go_wp2
  all_goals (go_ret; refine ⟨congrArg (fun b => Ending.returned (Value.bool b)) ?_, rfl⟩; have hc4 := hc3.out; clear hc3; rw [Bool.eq_iff_iff, hc4]; simp; omega)

def okX (m x : Nat) : Prop := ∃ z, x = 2 ^ (m + 1) * z ∧ x + 2 ^ (m + 1) ≤ 2 ^ 34
theorem okX_lt {m x : Nat} (h : okX m x) : x + 2 ^ m < 2 ^ 34 := by
  obtain ⟨z, hz, hb⟩ := h
  have := Nat.pow_lt_pow_right (a := 2) (by decide) (show m < m + 1 by omega)
  omega
theorem okX_next {m x : Nat} (h : okX (m + 1) x) : okX m x := by
  obtain ⟨z, hz, hb⟩ := h
  have hs : 2 ^ (m + 1 + 1) = 2 ^ (m + 1) * 2 := Nat.pow_succ 2 (m + 1)
  exact ⟨2 * z, by rw [hz, hs, Nat.mul_assoc], by omega⟩
theorem okX_add {m x : Nat} (h : okX (m + 1) x) : okX m (x + 2 ^ (m + 1)) := by
  obtain ⟨z, hz, hb⟩ := h
  have hs : 2 ^ (m + 1 + 1) = 2 ^ (m + 1) * 2 := Nat.pow_succ 2 (m + 1)
  exact ⟨2 * z + 1, by rw [Nat.mul_add, Nat.mul_one, hz, hs, Nat.mul_assoc], by omega⟩
theorem or_pow (x i : Nat) (hx : okX i x) (hi : i < 34) : bits .or .u64 (x : Int) ((2 ^ i : Nat) : Int) = ((x + 2 ^ i : Nat) : Int) := by
  obtain ⟨z, hz, hb⟩ := hx
  have h2 : 2 ^ i < 2 ^ 34 := Nat.pow_lt_pow_right (by decide) hi
  have hs : 2 ^ (i + 1) = 2 ^ i * 2 := Nat.pow_succ 2 i
  have w64 : ∀ n : Nat, n < 18446744073709551616 → IntKind.u64.wrap (n : Int) = n := by
    intro n hn
    simp [IntKind.wrap, IntKind.bits, IntKind.signed]; omega
  have o : ∀ n : Nat, BitVec.ofInt 64 (n : Int) = BitVec.ofNat 64 n := fun n => BitVec.ofInt_natCast 64 n
  have hor : x ||| 2 ^ i = x + 2 ^ i := by
    rw [hz]
    exact (Nat.two_pow_add_eq_or_of_lt (Nat.pow_lt_pow_right (by decide) (by omega)) z).symm
  show IntKind.u64.wrap (((BitVec.ofInt 64 (x : Int)) ||| (BitVec.ofInt 64 ((2 ^ i : Nat) : Int))).toNat : Int) = _
  rw [o, o, BitVec.toNat_or, BitVec.toNat_ofNat, BitVec.toNat_ofNat, Nat.mod_eq_of_lt (by omega), Nat.mod_eq_of_lt (by omega), hor, w64 _ (by omega)]
theorem fits_any (x p : Nat) (cube : Bool) (n : Nat) (w : World) (hx : x < 17179869184) (hp : p < 16) (hn : n = if cube then 3 else 2) :
    Calls Try.prog 45 #[.int .u64 x, .int .u64 p, .bool cube] w fun e w' => e = .returned (.bool (decide (x ^ n ≤ p * 2 ^ (30 * n)))) ∧ w = w' := by
  subst hn
  cases cube
  · exact fitsSq_any x p w hx hp
  · exact fitsCu_any x p w hx (by omega)

theorem root_any (p : Nat) (cube : Bool) (w : World) (hp : p < 16) :
    Calls Try.prog 35 #[.int .u64 p, .bool cube] w fun e w' => e = .returned (.int .u32 ((wholeN p (if cube then 3 else 2) % 4294967296 : Nat) : Int)) ∧ w = w' := by
  obtain ⟨n, hn⟩ : ∃ n : Nat, n = if cube then 3 else 2 := ⟨_, rfl⟩
  rw [← hn]
  obtain ⟨T, hT⟩ : ∃ T : Nat, T = p * 2 ^ (30 * n) := ⟨_, rfl⟩
  obtain ⟨r, hr⟩ : ∃ r : Nat, wholeN p n = r := ⟨_, rfl⟩
  have h0 : Hid (rootGo T n 34 0 = r) := by rw [← hr, hT]; rfl
  rw [hr]
  replace hT := Lib.hid hT.symm
  replace hn := Lib.hid hn
  clear hr
  go_enter Try.func35, Try.ntmps35
  go_wp2_with fail
  obtain ⟨J, hJ⟩ : ∃ J : Act → World → Prop, ∀ a' w', J a' w' ↔ (w' = w ∧ ∃ (m x : Nat) (u7 u8 u9 u10 u11 u12 u13 u14 u15 u16 u17 u18 u19 u20 u21 : Value), a' = { tmps := #[.int .u64 p, .bool cube, undef, undef, .int .u32 0, .int .u64 x, .int .u64 ((2 ^ m : Nat) : Int), u7, u8, u9, u10, u11, u12, u13, u14, u15, u16, u17, u18, u19, u20, u21], defers := [] } ∧ m < 34 ∧ Hid (okX m x) ∧ Hid (rootGo T n (m + 1) x = r)) := ⟨_, fun _ _ => Iff.rfl⟩
  replace hJ := Lib.hid hJ
  refine wp_scope_loop 0 J (fun a' _ => (intOf (a'.tmps.getD 6 undef)).toNat) rfl ?_ ?_
  · go_wp2
    exact (hJ.out _ _).2 ⟨rfl, 33, 0, undef, undef, undef, undef, undef, undef, undef, undef, undef, undef, undef, undef, undef, undef, undef, by rw [show (((2 : Nat) ^ 33 : Nat) : Int) = 8589934592 by decide]; rfl, by decide, Lib.hid ⟨0, by simp, by decide⟩, h0⟩
  · intro a' w' hj
    obtain ⟨rfl, m, x, u7, u8, u9, u10, u11, u12, u13, u14, u15, u16, u17, u18, u19, u20, u21, rfl, hm, hx, hR⟩ := (hJ.out a' w').1 hj
    clear hj
    have hy37 : Hid (x + 2 ^ m < 2 ^ 34) := Lib.hid (okX_lt hx.out)
    have hyes := Lib.hid (@rootGo_yes T n m x r hR.out)
    have hno := Lib.hid (@rootGo_no T n m x r hR.out)
    have hor := or_pow x m hx.out (by omega)
    have hbl := Lib.hid (fun x (h : x < 2 ^ 34) w => fits_any x p cube n w (by simpa using h) hp hn.out)
    have hb37 : 2 ^ m < 17179869184 := Nat.pow_lt_pow_right (a := 2) (by decide) (show m < 34 by omega)
    generalize hyv : x + 2 ^ m = y at *
    replace hyv := Lib.hid hyv
    clear hR
    obtain ⟨c, hc⟩ : ∃ c : Bool, c = decide (y ^ n ≤ T) := ⟨_, rfl⟩
    have hcall : ∀ w, Calls Try.prog 45 #[.int .u64 y, .int .u64 p, .bool cube] w fun e w' => e = .returned (.bool c) ∧ w = w' := by
      intro w; rw [hc, ← hT.out]; exact hbl.out y hy37.out w
    replace hcall := Lib.hid hcall
    clear hbl
    have hnext : Hid (rootGo T n m (if c = true then y else x) = r) := by
      by_cases hle : y ^ n ≤ T
      · rw [if_pos (by rw [hc]; exact decide_eq_true hle)]; exact hyes.out hle
      · rw [if_neg (by rw [hc]; simpa using hle)]; exact hno.out hle
    clear hyes hno hc hy37
    rcases m with _ | m
    · clear hyv hx
      have hb2 : (((2 : Nat) ^ 0 : Nat) : Int) / 2 = 0 := by decide
      generalize (2 : Nat) ^ 0 = b1 at *
      replace hnext : Hid ((if c = true then y else x) = r) := hnext
      have hr32 : IntKind.u32.wrap (r : Int) = ((r % 4294967296 : Nat) : Int) := by rw [IntKind.wrap_u32]; omega
      cases c
      · have hxr : x = r := hnext.out
        subst hxr
        go_wp2_with (first
          | (go_at_call 45; refine (hcall.out _).mono ?_; rintro e w' ⟨rfl, rfl⟩))
        have e32 : (x : Int) % 4294967296 = ((x % 4294967296 : Nat) : Int) := by omega
        rw [e32]
        simp only [Exit.jump]
        go_ret
        exact ⟨rfl, rfl⟩
      · have hxr : y = r := hnext.out
        subst hxr
        go_wp2_with (first
          | (go_at_call 45; refine (hcall.out _).mono ?_; rintro e w' ⟨rfl, rfl⟩))
        have e32 : (y : Int) % 4294967296 = ((y % 4294967296 : Nat) : Int) := by omega
        rw [e32]
        simp only [Exit.jump]
        go_ret
        exact ⟨rfl, rfl⟩
    · have hb2 : (((2 : Nat) ^ (m + 1) : Nat) : Int) / 2 = ((2 ^ m : Nat) : Int) := by rw [Nat.pow_succ]; omega
      have hb3 : 0 < (2 : Nat) ^ m := Nat.pow_pos (by decide)
      have hxn : Hid (okX m (if c = true then y else x)) := Lib.hid (by
        split
        · rw [← hyv.out]; exact okX_add hx.out
        · exact okX_next hx.out)
      clear hyv hx
      generalize (2 : Nat) ^ (m + 1) = b1 at *
      generalize hb0 : (2 : Nat) ^ m = b0 at *
      cases c
      · go_wp2_with (first
          | (go_at_call 45; refine (hcall.out _).mono ?_; rintro e w' ⟨rfl, rfl⟩))
        go_step3
        refine ⟨rfl, (hJ.out _ _).2 ⟨rfl, m, _, _, _, _, _, _, _, _, _, _, _, _, _, _, _, _, by rw [hb0]; rfl, by omega, hxn, hnext⟩, ?_⟩
        simp [intOf]; omega
      · go_wp2_with (first
          | (go_at_call 45; refine (hcall.out _).mono ?_; rintro e w' ⟨rfl, rfl⟩))
        go_step3
        refine ⟨rfl, (hJ.out _ _).2 ⟨rfl, m, _, _, _, _, _, _, _, _, _, _, _, _, _, _, _, _, by rw [hb0]; rfl, by omega, hxn, hnext⟩, ?_⟩
        simp [intOf]; omega
end Go.Proofs.Ytfafancacfjodaa
