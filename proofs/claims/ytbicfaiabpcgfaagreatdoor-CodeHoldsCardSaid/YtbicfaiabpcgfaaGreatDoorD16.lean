/- Texts of this claim, merged; no condition. -/
import Derived.Test.YtbicfaiabpcgfaaGreatDoorD15
import Derived.Test.YtbicfaiabpcgfaaGreatDoorShelf
import Derived.Lib.BitFns
import Derived.Test.YtbicfaiabpcgfaaGreatDoorD01
set_option linter.all false
namespace Go.Proofs.YtbicfaiabpcgfaaGreatDoor
open Go.RowKit

theorem SrtP.open2 {w w' : World} {b : Nat} {T : TypeId} {rest : List Value} {zs : List Int} (h : SrtP b T rest zs w w') {off : Nat} (ho : off = 0) : ∃ G : Nat → Int, (∀ t, t < zs.length → w'.cell? ⟨b, off + t, none⟩ = some (.int .u8 (G t))) ∧ (∀ t, t < zs.length → w'.frozen? ⟨b, off + t, none⟩ = false) ∧
    (∀ n j k, j < zs.length → k < zs.length → SrtP b T rest zs w (((w'.drewN n).setCell ⟨b, off + j, none⟩ (.int .u8 (G k))).setCell ⟨b, off + k, none⟩ (.int .u8 (G j)))) ∧
    ∀ (n j k : Nat) (x : Int), j < zs.length → k < zs.length → ∃ v', ((w'.drewN n).setCell ⟨b, off + j, none⟩ (.int .u8 x)).cell? ⟨b, off + k, none⟩ = some v' := by
  obtain ⟨G, h1, h2, h3⟩ := h.open ho
  refine ⟨G, h1, h2, h3, fun n j k x hj hk => ?_⟩
  subst ho
  obtain ⟨ys, e1, e2, -⟩ := h
  have hl := e1.length_eq
  rw [Nat.zero_add, Nat.zero_add]
  exact ⟨_, ((e2.drewN n).set (j := j) (by omega) x).get (t := k) (by simp; omega)⟩
set_option maxRecDepth 100000 in
set_option maxHeartbeats 16000000 in
theorem partEq_any (b cap off a n pv : Nat) (T : TypeId) (rest : List Value) (zs : List Int) (w : World) (hS : SrtAt w b T rest zs) (hoff : off = 0) (hap : a ≤ pv) (hpn : pv < n) (hn : n ≤ zs.length) (hl : zs.length ≤ 1000000) :
    Calls Tryz.prog 109 #[.slice (some ⟨b, off, none⟩) zs.length cap, .int .i64 a, .int .i64 n, .int .i64 pv] w fun e w' => (∃ v, e = .returned v ∧ ∃ m : Nat, v = .int .i64 m ∧ a < m ∧ m ≤ n) ∧ SrtP b T rest zs w w' := by
  have h0 := SrtP.refl hS
  have hal : a < zs.length := by omega
  have hpl : pv < zs.length := by omega
  replace hoff := Lib.hid hoff
  clear hS
  obtain ⟨G, hcw, hfw, hsw, hag⟩ := h0.open2 hoff.out
  obtain ⟨v1, hy⟩ : ∃ v', (w.setCell ⟨b, off + a, none⟩ (.int .u8 (G pv))).cell? ⟨b, off + pv, none⟩ = some v' := hag 0 a pv (G pv) hal hpl
  replace hsw := Lib.hid hsw
  clear h0 hag
  go_enter Tryz.func109, Tryz.ntmps109
  go_wp2
  go_region
  have hP := Lib.hid (hsw.out 1 a pv hal hpl)
  all_goals go_wp2
  go_loopw [9, 10] (fun vi vj wr => ∃ i j : Nat, vi = .int .i64 i ∧ vj = .int .i64 j ∧ a + 1 ≤ i ∧ i ≤ n ∧ a ≤ j ∧ j < n ∧ Hid (SrtP b T rest zs w wr)) (fun vi vj _ => (intOf vj + 1 - intOf vi).toNat)
  case atStart => exact ⟨a + 1, n - 1, by go_num, by congr 1; omega, by omega, by omega, by omega, by omega, hP⟩
  case round =>
    clear hP
    obtain ⟨i, j, rfl, rfl, hai, hin, haj, hjn, hP⟩ := hrel
    go_wp2
    go_loopw [9] (fun vi wr2 => ∃ i2 : Nat, vi = .int .i64 i2 ∧ i ≤ i2 ∧ i2 ≤ n ∧ Hid (SrtP b T rest zs w wr2)) (fun vi _ => n + 1 - (intOf vi).toNat)
    case atStart => exact ⟨i, rfl, Nat.le_refl _, hin, hP⟩
    case round =>
      clear hP
      obtain ⟨i2, rfl, hii2, hi2n, hP⟩ := hrel
      obtain ⟨G, hcw, hfw, hsw, hag⟩ := hP.out.open2 hoff.out
      clear hsw hag
      have hi2l : i2 ≤ j → i2 < zs.length := fun _ => by omega
      go_wp2
      by_cases hij : i2 ≤ j
      · have hi2l' : i2 < zs.length := by omega
        clear hi2l
        go_quiet (first | (go_at_call 108; refine Calls.quiet_of_same (less_any _ _ _)))
        go_wp2
        · go_roundw
          case rel => exact ⟨i2 + 1, by go_num, by omega, by omega, Lib.hid (hP.out.drewN _)⟩
          case measure => simp [intOf] <;> omega
        · clear hcw hfw
          go_loopw [10] (fun vj wr2 => ∃ j2 : Nat, vj = .int .i64 j2 ∧ a ≤ j2 ∧ j2 ≤ j ∧ Hid (SrtP b T rest zs w wr2)) (fun vj _ => (intOf vj).toNat)
          case atStart => exact ⟨j, rfl, by omega, Nat.le_refl _, Lib.hid (hP.out.drewN _)⟩
          case round =>
            clear hP
            obtain ⟨j2, rfl, haj2, hj2j, hP⟩ := hrel
            obtain ⟨G, hcw, hfw, hsw, hag⟩ := hP.out.open2 hoff.out
            replace hsw := Lib.hid hsw
            have hi2l : i2 ≤ j2 → i2 < zs.length := fun _ => by omega
            have hj2l : j2 < zs.length := by omega
            go_wp2
            by_cases hij2 : i2 ≤ j2
            · go_quiet (first | (go_at_call 108; refine Calls.quiet_of_same (less_any _ _ _)))
              go_wp2
              · go_roundw
                case rel => exact ⟨j2 - 1, by congr 1; omega, by omega, by omega, Lib.hid (hP.out.drewN _)⟩
                case measure => simp [intOf] <;> omega
              · obtain ⟨v2, hy2⟩ := hag (nq + 1) i2 j2 (G j2) (by omega) (by omega)
                have hi2l : i2 < zs.length := by omega
                have hj2l : j2 < zs.length := by omega
                clear hag
                go_region
                all_goals go_wp2
                go_roundw
                case rel => exact ⟨i2 + 1, j2 - 1, by go_num, by congr 1; omega, by omega, by omega, by omega, by omega, Lib.hid (hsw.out _ i2 j2 hi2l hj2l)⟩
                case measure => simp [intOf] <;> omega
            · go_quiet (first | (go_at_call 108; refine Calls.quiet_of_same (less_any _ _ _)))
              go_wp2
              go_ret
              exact ⟨⟨_, rfl, i2, rfl, by omega, by omega⟩, hP.out.drewN _⟩
      · go_quiet (first | (go_at_call 108; refine Calls.quiet_of_same (less_any _ _ _)))
        go_wp2
        clear hcw hfw
        go_loopw [10] (fun vj wr2 => ∃ j2 : Nat, vj = .int .i64 j2 ∧ a ≤ j2 ∧ j2 ≤ j ∧ Hid (SrtP b T rest zs w wr2)) (fun vj _ => (intOf vj).toNat)
        case atStart => exact ⟨j, rfl, by omega, Nat.le_refl _, Lib.hid (hP.out.drewN _)⟩
        case round =>
          clear hP
          obtain ⟨j2, rfl, haj2, hj2j, hP⟩ := hrel
          obtain ⟨G, hcw, hfw, hsw, hag⟩ := hP.out.open2 hoff.out
          replace hsw := Lib.hid hsw
          have hi2l : i2 ≤ j2 → i2 < zs.length := fun _ => by omega
          have hj2l : j2 < zs.length := by omega
          go_wp2
          have hij2 : ¬ i2 ≤ j2 := by omega
          go_quiet (first | (go_at_call 108; refine Calls.quiet_of_same (less_any _ _ _)))
          go_wp2
          go_ret
          exact ⟨⟨_, rfl, i2, rfl, by omega, by omega⟩, hP.out.drewN _⟩
set_option maxRecDepth 100000 in
set_option maxHeartbeats 16000000 in
theorem part_any (b cap off a n pv : Nat) (T : TypeId) (rest : List Value) (zs : List Int) (w : World) (hS : SrtAt w b T rest zs) (hoff : off = 0) (hap : a ≤ pv) (hpn : pv < n) (hn : n ≤ zs.length) (hl : zs.length ≤ 1000000) :
    Calls Tryz.prog 110 #[.slice (some ⟨b, off, none⟩) zs.length cap, .int .i64 a, .int .i64 n, .int .i64 pv] w fun e w' => (∃ v, e = .returned v ∧ ∃ (m : Nat) (t : Bool), v = .tuple #[.int .i64 m, .bool t] ∧ a ≤ m ∧ m < n) ∧ SrtP b T rest zs w w' := by
  have h0 := SrtP.refl hS
  have hal : a < zs.length := by omega
  have hpl : pv < zs.length := by omega
  replace hoff := Lib.hid hoff
  clear hS
  obtain ⟨G, hcw, hfw, hsw, hag⟩ := h0.open2 hoff.out
  obtain ⟨v1, hy⟩ : ∃ v', (w.setCell ⟨b, off + a, none⟩ (.int .u8 (G pv))).cell? ⟨b, off + pv, none⟩ = some v' := hag 0 a pv (G pv) hal hpl
  replace hsw := Lib.hid hsw
  clear h0 hag
  obtain ⟨i, hi⟩ : ∃ i : Nat, i = a + 1 := ⟨_, rfl⟩
  obtain ⟨j, hj⟩ : ∃ j : Nat, j = n - 1 := ⟨_, rfl⟩
  have hiI : (a : Int) + 1 = (i : Int) := by omega
  have hjI : (n : Int) - 1 = (j : Int) := by omega
  have hai : a + 1 ≤ i := by omega
  have hin : i ≤ n := by omega
  have haj : a ≤ j := by omega
  have hjn : j < n := by omega
  clear hi hj
  go_enter Tryz.func110, Tryz.ntmps110
  go_wp2
  go_region
  have hP := Lib.hid (hsw.out 1 a pv hal hpl)
  all_goals go_wp2
  go_loopw [10] (fun vi wr2 => ∃ i2 : Nat, vi = .int .i64 i2 ∧ i ≤ i2 ∧ i2 ≤ n ∧ Hid (SrtP b T rest zs w wr2)) (fun vi _ => n + 1 - (intOf vi).toNat)
  case atStart => exact ⟨i, rfl, Nat.le_refl _, hin, hP⟩
  case round =>
    clear hP
    obtain ⟨i2, rfl, hii2, hi2n, hP⟩ := hrel
    obtain ⟨G, hcw, hfw, hsw, hag⟩ := hP.out.open2 hoff.out
    clear hsw hag
    have hi2l : i2 ≤ j → i2 < zs.length := fun _ => by omega
    go_wp2
    by_cases hij : i2 ≤ j
    · have hi2l' : i2 < zs.length := by omega
      clear hi2l
      go_quiet (first | (go_at_call 108; refine Calls.quiet_of_same (less_any _ _ _)))
      go_wp2
      · go_roundw
        case rel => exact ⟨i2 + 1, by go_num, by omega, by omega, Lib.hid (hP.out.drewN _)⟩
        case measure => simp [intOf] <;> omega
      · clear hcw hfw
        go_loopw [11] (fun vj wr2 => ∃ j2 : Nat, vj = .int .i64 j2 ∧ a ≤ j2 ∧ j2 ≤ j ∧ Hid (SrtP b T rest zs w wr2)) (fun vj _ => (intOf vj).toNat)
        case atStart => exact ⟨j, rfl, by omega, Nat.le_refl _, Lib.hid (hP.out.drewN _)⟩
        case round =>
          clear hP
          obtain ⟨j2, rfl, haj2, hj2j, hP⟩ := hrel
          obtain ⟨G, hcw, hfw, hsw, hag⟩ := hP.out.open2 hoff.out
          replace hsw := Lib.hid hsw
          have hi2l : i2 ≤ j2 → i2 < zs.length := fun _ => by omega
          have hj2l : j2 < zs.length := by omega
          go_wp2
          by_cases hij2 : i2 ≤ j2
          · go_quiet (first | (go_at_call 108; refine Calls.quiet_of_same (less_any _ _ _)))
            go_wp2
            · go_roundw
              case rel => exact ⟨j2 - 1, by congr 1; omega, by omega, by omega, Lib.hid (hP.out.drewN _)⟩
              case measure => simp [intOf] <;> omega
            · obtain ⟨v2, hy2⟩ := hag (nq + 1) i2 j2 (G j2) (by omega) (by omega)
              have hi2l : i2 < zs.length := by omega
              have hj2l : j2 < zs.length := by omega
              clear hag
              go_region
              have hP3 := Lib.hid (hsw.out (nq + 1) i2 j2 hi2l hj2l)
              all_goals go_wp2
              clear hP hcw hfw hsw
              have hP := hP3
              clear hP3
              go_loopw [10, 11] (fun vi vj wr => ∃ i j : Nat, vi = .int .i64 i ∧ vj = .int .i64 j ∧ a + 1 ≤ i ∧ i ≤ n ∧ a ≤ j ∧ j < n ∧ Hid (SrtP b T rest zs w wr)) (fun vi vj _ => (intOf vj + 1 - intOf vi).toNat)
              case atStart => exact ⟨i2 + 1, j2 - 1, by go_num, by congr 1; omega, by omega, by omega, by omega, by omega, hP⟩
              case round =>
                clear hP
                obtain ⟨i, j, rfl, rfl, hai, hin, haj, hjn, hP⟩ := hrel
                go_wp2
                go_loopw [10] (fun vi wr2 => ∃ i2 : Nat, vi = .int .i64 i2 ∧ i ≤ i2 ∧ i2 ≤ n ∧ Hid (SrtP b T rest zs w wr2)) (fun vi _ => n + 1 - (intOf vi).toNat)
                case atStart => exact ⟨i, rfl, Nat.le_refl _, hin, hP⟩
                case round =>
                  clear hP
                  obtain ⟨i2, rfl, hii2, hi2n, hP⟩ := hrel
                  obtain ⟨G, hcw, hfw, hsw, hag⟩ := hP.out.open2 hoff.out
                  clear hsw hag
                  have hi2l : i2 ≤ j → i2 < zs.length := fun _ => by omega
                  go_wp2
                  by_cases hij : i2 ≤ j
                  · have hi2l' : i2 < zs.length := by omega
                    clear hi2l
                    go_quiet (first | (go_at_call 108; refine Calls.quiet_of_same (less_any _ _ _)))
                    go_wp2
                    · go_roundw
                      case rel => exact ⟨i2 + 1, by go_num, by omega, by omega, Lib.hid (hP.out.drewN _)⟩
                      case measure => simp [intOf] <;> omega
                    · clear hcw hfw
                      go_loopw [11] (fun vj wr2 => ∃ j2 : Nat, vj = .int .i64 j2 ∧ a ≤ j2 ∧ j2 ≤ j ∧ Hid (SrtP b T rest zs w wr2)) (fun vj _ => (intOf vj).toNat)
                      case atStart => exact ⟨j, rfl, by omega, Nat.le_refl _, Lib.hid (hP.out.drewN _)⟩
                      case round =>
                        clear hP
                        obtain ⟨j2, rfl, haj2, hj2j, hP⟩ := hrel
                        obtain ⟨G, hcw, hfw, hsw, hag⟩ := hP.out.open2 hoff.out
                        replace hsw := Lib.hid hsw
                        have hi2l : i2 ≤ j2 → i2 < zs.length := fun _ => by omega
                        have hj2l : j2 < zs.length := by omega
                        go_wp2
                        by_cases hij2 : i2 ≤ j2
                        · go_quiet (first | (go_at_call 108; refine Calls.quiet_of_same (less_any _ _ _)))
                          go_wp2
                          · go_roundw
                            case rel => exact ⟨j2 - 1, by congr 1; omega, by omega, by omega, Lib.hid (hP.out.drewN _)⟩
                            case measure => simp [intOf] <;> omega
                          · obtain ⟨v2, hy2⟩ := hag (nq + 1) i2 j2 (G j2) (by omega) (by omega)
                            have hi2l : i2 < zs.length := by omega
                            have hj2l : j2 < zs.length := by omega
                            clear hag
                            go_region
                            all_goals go_wp2
                            go_roundw
                            case rel => exact ⟨i2 + 1, j2 - 1, by go_num, by congr 1; omega, by omega, by omega, by omega, by omega, Lib.hid (hsw.out _ i2 j2 hi2l hj2l)⟩
                            case measure => simp [intOf] <;> omega
                        · go_quiet (first | (go_at_call 108; refine Calls.quiet_of_same (less_any _ _ _)))
                          go_wp2
                          obtain ⟨v2, hy2⟩ := hag (nq + 1) j2 a (G a) hj2l hal
                          clear hag
                          go_region
                          all_goals go_wp2
                          go_ret2
                          exact ⟨⟨_, rfl, j2, _, rfl, by omega, by omega⟩, hsw.out _ j2 a hj2l hal⟩
                  · go_quiet (first | (go_at_call 108; refine Calls.quiet_of_same (less_any _ _ _)))
                    go_wp2
                    clear hcw hfw
                    go_loopw [11] (fun vj wr2 => ∃ j2 : Nat, vj = .int .i64 j2 ∧ a ≤ j2 ∧ j2 ≤ j ∧ Hid (SrtP b T rest zs w wr2)) (fun vj _ => (intOf vj).toNat)
                    case atStart => exact ⟨j, rfl, by omega, Nat.le_refl _, Lib.hid (hP.out.drewN _)⟩
                    case round =>
                      clear hP
                      obtain ⟨j2, rfl, haj2, hj2j, hP⟩ := hrel
                      obtain ⟨G, hcw, hfw, hsw, hag⟩ := hP.out.open2 hoff.out
                      replace hsw := Lib.hid hsw
                      have hi2l : i2 ≤ j2 → i2 < zs.length := fun _ => by omega
                      have hj2l : j2 < zs.length := by omega
                      go_wp2
                      have hij2 : ¬ i2 ≤ j2 := by omega
                      go_quiet (first | (go_at_call 108; refine Calls.quiet_of_same (less_any _ _ _)))
                      go_wp2
                      obtain ⟨v2, hy2⟩ := hag (nq + 1) j2 a (G a) hj2l hal
                      clear hag
                      go_region
                      all_goals go_wp2
                      go_ret2
                      exact ⟨⟨_, rfl, j2, _, rfl, by omega, by omega⟩, hsw.out _ j2 a hj2l hal⟩
          · go_quiet (first | (go_at_call 108; refine Calls.quiet_of_same (less_any _ _ _)))
            go_wp2
            obtain ⟨v2, hy2⟩ := hag (nq + 1) j2 a (G a) hj2l hal
            clear hag
            go_region
            all_goals go_wp2
            go_ret2
            exact ⟨⟨_, rfl, j2, _, rfl, by omega, by omega⟩, hsw.out _ j2 a hj2l hal⟩
    · go_quiet (first | (go_at_call 108; refine Calls.quiet_of_same (less_any _ _ _)))
      go_wp2
      clear hcw hfw
      go_loopw [11] (fun vj wr2 => ∃ j2 : Nat, vj = .int .i64 j2 ∧ a ≤ j2 ∧ j2 ≤ j ∧ Hid (SrtP b T rest zs w wr2)) (fun vj _ => (intOf vj).toNat)
      case atStart => exact ⟨j, rfl, by omega, Nat.le_refl _, Lib.hid (hP.out.drewN _)⟩
      case round =>
        clear hP
        obtain ⟨j2, rfl, haj2, hj2j, hP⟩ := hrel
        obtain ⟨G, hcw, hfw, hsw, hag⟩ := hP.out.open2 hoff.out
        replace hsw := Lib.hid hsw
        have hi2l : i2 ≤ j2 → i2 < zs.length := fun _ => by omega
        have hj2l : j2 < zs.length := by omega
        go_wp2
        have hij2 : ¬ i2 ≤ j2 := by omega
        go_quiet (first | (go_at_call 108; refine Calls.quiet_of_same (less_any _ _ _)))
        go_wp2
        obtain ⟨v2, hy2⟩ := hag (nq + 1) j2 a (G a) hj2l hal
        clear hag
        go_region
        all_goals go_wp2
        go_ret2
        exact ⟨⟨_, rfl, j2, _, rfl, by omega, by omega⟩, hsw.out _ j2 a hj2l hal⟩
end Go.Proofs.YtbicfaiabpcgfaaGreatDoor
namespace Go.Proofs.YtbicfaiabpcgfaaGreatDoor
open Go.RowKit Go.Shelf

def xor64 (a b : BitVec 64) : BitVec 64 := a ^^^ b
def shl64 (a : BitVec 64) (n : Nat) : BitVec 64 := a <<< n
section
variable (t : TypeId) (a b : BitVec 64)
@[go_sem high] theorem op_xor64 : binOp .xor t (.int .u64 (iv64 a)) (.int .u64 (iv64 b)) = pure (.int .u64 (iv64 (xor64 a b))) := by
  simp only [binOp_xor, intBits_xor, bits, iv64, IntKind.bits, ofInt64, wrap64_nat]
  rw [BitVec.ofNat_toNat, BitVec.setWidth_eq]; rfl
@[go_sem high] theorem op_shl64 (yk : IntKind) (y : Int) (h0 : 0 ≤ y) (h : y < 64) : binOp .shl t (.int .u64 (iv64 a)) (.int yk y) = pure (.int .u64 (iv64 (shl64 a y.toNat))) := by
  obtain ⟨n, rfl⟩ := Int.eq_ofNat_of_zero_le h0
  rw [binOp_shl, shift_shl_u64 _ _ _ (by omega) (by omega), Int.toNat_natCast]
  simp only [iv64, shl64]
  rw [show ((a.toNat : Int) * 2 ^ n) = ((a.toNat * 2 ^ n : Nat) : Int) by simp, wrap64_nat]
  simp [iv64, Nat.shiftLeft_eq]
end
theorem bitLen_two : ∀ (x : Nat), x ≠ 0 → x < 2 ^ 64 → x < 2 ^ Lib.bitLen x ∧ 2 ^ Lib.bitLen x ≤ 2 * x := by
  intro x
  induction x using Nat.strongRecOn with
  | _ x ih =>
    intro h0 h
    rw [Lib.bitLen_half x h0 h]
    by_cases h1 : x / 2 = 0
    · rw [h1]
      have : x = 1 := by omega
      subst this
      decide
    · have := ih (x / 2) (by omega) h1 (by omega)
      rw [Nat.pow_add, Nat.pow_one]
      omega
theorem npow_any (l : Nat) (w : World) (h0 : 1 ≤ l) (h : l ≤ 1000000) : Calls Tryz.prog 124 #[.int .i64 l] w fun e w' => (∃ k : Nat, e = .returned (.int .u64 (iv64 (bit64 k))) ∧ k ≤ 30 ∧ l < 2 ^ k ∧ 2 ^ k ≤ 2 * l) ∧ w' = w := by
  have hb := Lib.hid fun W => Tryz.bits_Len (l : Int) W (by omega) (by omega)
  have h2 := bitLen_two l (by omega) (by omega)
  have hk : Lib.bitLen l ≤ 30 := by
    rcases Nat.lt_or_ge 30 (Lib.bitLen l) with h3 | h3
    · have := Nat.pow_le_pow_right (show 0 < 2 by decide) (show 31 ≤ Lib.bitLen l by omega)
      have e : (2 : Nat) ^ 31 = 2147483648 := by decide
      omega
    · exact h3
  have hb2 : ∀ W, Calls Tryz.prog 86 #[.int .u64 l] W fun e w' => e = .returned (.int .i64 (Lib.bitLen l : Nat)) ∧ w' = W := fun W => by simpa using hb.out W
  clear hb
  generalize Lib.bitLen l = k at *
  have k1 : (0 : Int) ≤ (k : Int) := by omega
  have k2 : (k : Int) < 64 := by omega
  replace hb2 := Lib.hid hb2
  replace h2 := Lib.hid h2
  go_enter Tryz.func124, Tryz.ntmps124
  go_wp2_with (go_at_call 86; refine (hb2.out _).mono ?_; rintro e w1 ⟨rfl, rfl⟩)
  go_ret
  exact ⟨⟨k, rfl, hk, h2.out⟩, rfl⟩
def BoxX (w : World) (rb : Nat) : Prop := ∃ x : BitVec 64, w.cell? ⟨rb, 0, none⟩ = some (.int .u64 (iv64 x)) ∧ w.frozen? ⟨rb, 0, none⟩ = false
theorem BoxX.set {w : World} {rb : Nat} (h : BoxX w rb) (x : BitVec 64) : BoxX (w.setCell ⟨rb, 0, none⟩ (.int .u64 (iv64 x))) rb := by
  obtain ⟨y, h1, h2⟩ := h
  exact ⟨x, World.cell?_setCell_same _ _ _ h1, by rw [World.frozen?_setCell]; exact h2⟩
set_option maxRecDepth 100000 in
set_option maxHeartbeats 4000000 in
theorem next_any (rb : Nat) (w : World) (h : BoxX w rb) : Calls Tryz.prog 125 #[.pointer (some ⟨rb, 0, none⟩)] w fun e w' => (∃ y : BitVec 64, e = .returned (.int .u64 (iv64 y))) ∧ BoxX w' rb ∧ Only (· = rb) w w' := by
  have hB0 := h
  have ho0 : Only (· = rb) w w := Only.refl _ _
  obtain ⟨z0, hc, hf⟩ := id hB0
  clear h
  go_enter Tryz.func125, Tryz.ntmps125
  go_wp2
  go_region
  obtain ⟨x1, hx1⟩ : ∃ y, y = xor64 z0 (shl64 z0 13) := ⟨_, rfl⟩
  rw [← hx1]
  have hB1 : BoxX (w.setCell ⟨rb, 0, none⟩ (.int .u64 (iv64 x1))).drew rb := hB0.set x1
  have ho1 : Only (· = rb) w (w.setCell ⟨rb, 0, none⟩ (.int .u64 (iv64 x1))).drew := (ho0.setCell _ _ rfl).drew
  generalize (w.setCell ⟨rb, 0, none⟩ (.int .u64 (iv64 x1))).drew = w1 at *
  replace hx1 := Lib.hid hx1
  clear hc hf hB0 ho0
  obtain ⟨z1, hc, hf⟩ := id hB1
  go_wp2
  go_region
  obtain ⟨x2, hx2⟩ : ∃ y, y = xor64 z1 (shr64 z1 7) := ⟨_, rfl⟩
  rw [← hx2]
  have hB2 : BoxX (w1.setCell ⟨rb, 0, none⟩ (.int .u64 (iv64 x2))).drew rb := hB1.set x2
  have ho2 : Only (· = rb) w (w1.setCell ⟨rb, 0, none⟩ (.int .u64 (iv64 x2))).drew := (ho1.setCell _ _ rfl).drew
  generalize (w1.setCell ⟨rb, 0, none⟩ (.int .u64 (iv64 x2))).drew = w2 at *
  replace hx2 := Lib.hid hx2
  clear hc hf hB1 ho1
  obtain ⟨z2, hc, hf⟩ := id hB2
  go_wp2
  go_region
  obtain ⟨x3, hx3⟩ : ∃ y, y = xor64 z2 (shl64 z2 17) := ⟨_, rfl⟩
  rw [← hx3]
  have hB3 : BoxX (w2.setCell ⟨rb, 0, none⟩ (.int .u64 (iv64 x3))).drew rb := hB2.set x3
  have ho3 : Only (· = rb) w (w2.setCell ⟨rb, 0, none⟩ (.int .u64 (iv64 x3))).drew := (ho2.setCell _ _ rfl).drew
  generalize (w2.setCell ⟨rb, 0, none⟩ (.int .u64 (iv64 x3))).drew = w3 at *
  replace hx3 := Lib.hid hx3
  clear hc hf hB2 ho2
  obtain ⟨z3, hc, hf⟩ := id hB3
  go_wp2
  go_ret
  exact ⟨⟨z3, rfl⟩, hB3, ho3⟩
end Go.Proofs.YtbicfaiabpcgfaaGreatDoor
namespace Go.Proofs.YtbicfaiabpcgfaaGreatDoor
open Go.RowKit Go.Shelf

/-- The row and the stream of numbers. -/
structure Bk (b : Nat) (T : TypeId) (rest : List Value) (zs : List Int) (w : World) (rb : Nat) (wr : World) : Prop where
  row : SrtP b T rest zs w wr
  box : BoxX wr rb
  ne : rb ≠ b
  new : w.heap.size ≤ rb
section
variable {w wr w2 : World} {b rb : Nat} {T : TypeId} {rest : List Value} {zs : List Int}
theorem Bk.next (h : Bk b T rest zs w rb wr) (hb : BoxX w2 rb) (ho : Only (· = rb) wr w2) : Bk b T rest zs w rb w2 := by
  refine ⟨?_, hb, h.ne, h.new⟩
  obtain ⟨ys, h1, h2, h3⟩ := h.row
  refine ⟨ys, h1, BlkG.only h2 ho fun e => h.ne e.symm, ⟨ho.os.trans h3.os, ho.tape.trans h3.tape, ho.output.trans h3.output, Nat.le_trans h3.size ho.size, fun k hk hkb => ?_⟩⟩
  have := h.new
  exact (ho.same k (Nat.lt_of_lt_of_le hk h3.size) (by omega)).trans (h3.same k hk hkb)
theorem Bk.cells (h : Bk b T rest zs w rb wr) {n off j k : Nat} {x y : Value} (hs : SrtP b T rest zs w (((wr.drewN n).setCell ⟨b, off + j, none⟩ x).setCell ⟨b, off + k, none⟩ y)) : Bk b T rest zs w rb (((wr.drewN n).setCell ⟨b, off + j, none⟩ x).setCell ⟨b, off + k, none⟩ y) := by
  obtain ⟨z, h1, h2⟩ := h.box
  refine ⟨hs, ⟨z, ?_, ?_⟩, h.ne, h.new⟩
  · have e1 : (wr.drewN n).cell? ⟨rb, 0, none⟩ = some (.int .u64 (iv64 z)) := h1
    rw [World.cell?_of_block (a := ⟨rb, 0, none⟩) (Below.heap_setCell _ _ _ _ h.ne), World.cell?_of_block (a := ⟨rb, 0, none⟩) (Below.heap_setCell _ _ _ _ h.ne), e1]
  · rw [World.frozen?_setCell, World.frozen?_setCell]; exact h2
theorem Bk.new0 (h : SrtAt w b T rest zs) (T' : TypeId) (x : BitVec 64) : Bk b T rest zs w w.heap.size (w.alloc (.cells #[.int .u64 (iv64 x)] T')) := by
  have hb := BlkG.lt h
  have hN : BlkG (w.alloc (.cells #[.int .u64 (iv64 x)] T')) w.heap.size T' [.int .u64 (iv64 x)] := BlkG.new w _ _
  refine ⟨⟨zs, .refl _, BlkG.alloc h _, Below.only (xalloc (xrefl w) _)⟩, ⟨x, hN.cell 0 (by simp), hN.free 0⟩, by omega, Nat.le_refl _⟩
end
theorem and_dec_lt (y : BitVec 64) {k l : Nat} (hk : k ≤ 30) (h2 : 2 ^ k ≤ 2 * l) : ∃ o : Nat, iv64 (and64 y (dec64 (bit64 k))) = (o : Int) ∧ o < 2 * l := by
  refine ⟨(and64 y (dec64 (bit64 k))).toNat, rfl, ?_⟩
  have h1 : (and64 y (dec64 (bit64 k))).toNat ≤ (dec64 (bit64 k)).toNat := by
    unfold and64
    rw [BitVec.toNat_and]
    exact Nat.and_le_right
  have hp : 0 < 2 ^ k := Nat.two_pow_pos k
  have hp2 : 2 ^ k ≤ 2 ^ 30 := Nat.pow_le_pow_right (by decide) hk
  have h3 : (bit64 k).toNat = 2 ^ k := by
    unfold bit64
    have e1 : (1#64).toNat = 1 := by decide
    rw [BitVec.toNat_shiftLeft, Nat.shiftLeft_eq, e1, Nat.one_mul, Nat.mod_eq_of_lt]
    exact Nat.lt_of_le_of_lt hp2 (by decide)
  have h4 : (dec64 (bit64 k)).toNat = 2 ^ k - 1 := by
    unfold dec64
    rw [BitVec.toNat_sub, h3]
    simp
    omega
  omega
set_option maxRecDepth 100000 in
set_option maxHeartbeats 8000000 in
theorem break_any (b cap off a n : Nat) (T : TypeId) (rest : List Value) (zs : List Int) (w : World) (hS : SrtAt w b T rest zs) (hoff : off = 0) (han : a ≤ n) (hn : n ≤ zs.length) (hl : zs.length ≤ 1000000) :
    Calls Tryz.prog 104 #[.slice (some ⟨b, off, none⟩) zs.length cap, .int .i64 a, .int .i64 n] w fun e w' => e = .returned (.tuple #[]) ∧ SrtP b T rest zs w w' := by
  obtain ⟨l, hlen⟩ : ∃ l : Nat, l = n - a := ⟨_, rfl⟩
  have hlI : (n : Int) - (a : Int) = (l : Int) := by omega
  by_cases h8 : 8 ≤ l
  · obtain ⟨q, hq⟩ : ∃ q : Nat, q = l / 4 := ⟨_, rfl⟩
    obtain ⟨c, hc⟩ : ∃ c : Nat, c = a + q * 2 := ⟨_, rfl⟩
    obtain ⟨c0, hc0⟩ : ∃ c0 : Nat, c0 = c - 1 := ⟨_, rfl⟩
    obtain ⟨c1, hc1⟩ : ∃ c1 : Nat, c1 = c + 1 := ⟨_, rfl⟩
    have h8I : (8 : Int) ≤ (l : Int) := by omega
    have hqI : Int.tdiv (l : Int) 4 = (q : Int) := by rw [Int.tdiv_eq_ediv_of_nonneg (by omega)]; omega
    have hcI : (a : Int) + (q : Int) * 2 = (c : Int) := by omega
    have hc0I : (c : Int) - 1 = (c0 : Int) := by omega
    have hc1I : (c : Int) + 1 = (c1 : Int) := by omega
    have hql : (q : Int) ≤ 250000 := by omega
    have hc1n : c1 < n := by omega
    have hc01 : Hid (c0 ≤ c1 + 1) := Lib.hid (by omega)
    have hnp := Lib.hid fun W => npow_any l W (by omega) (by omega)
    have hB0 := Lib.hid (Bk.new0 hS 158 (BitVec.ofNat 64 l))
    have hx : iv64 (BitVec.ofNat 64 l) = (l : Int) := by unfold iv64; rw [BitVec.toNat_ofNat, Nat.mod_eq_of_lt (by omega)]
    rw [hx] at hB0
    have hnx := Lib.hid fun W (h : BoxX W w.heap.size) => next_any w.heap.size W h
    have hall : l ≤ zs.length := by omega
    have han2 : a + l = n := by omega
    replace hoff := Lib.hid hoff
    replace han2 := Lib.hid han2
    clear hS hx hlen hq hc hc0 hc1
    go_enter Tryz.func104, Tryz.ntmps104
    go_wp2_with (go_at_call 124; refine (hnp.out _).mono ?_; rintro e w1 ⟨⟨k, rfl, hk30, hk1, hk2⟩, rfl⟩)
    have hand := Lib.hid fun y => and_dec_lt y hk30 hk2
    clear hk1 hk2
    go_loopw [9] (fun vi wr => ∃ i : Nat, vi = .int .i64 i ∧ i ≤ c1 + 1 ∧ Hid (Bk b T rest zs w w.heap.size wr)) (fun vi _ => c1 + 1 - (intOf vi).toNat)
    case atStart => exact ⟨c0, rfl, hc01.out, hB0⟩
    case round =>
      clear hB0
      obtain ⟨i, rfl, hi, hB⟩ := hrel
      by_cases hic : i ≤ c1
      · have hil : i < zs.length := by omega
        go_wp2_with (go_at_call 125; refine (hnx.out _ hB.out.box).mono ?_; rintro e w2 ⟨⟨y, rfl⟩, hx2, ho2⟩; have hB2 := Lib.hid (hB.out.next hx2 ho2); obtain ⟨o, ho, hol⟩ := hand.out y; clear hx2 ho2)
        · obtain ⟨o', ho'⟩ : ∃ o' : Nat, o' = o - l := ⟨_, rfl⟩
          have hoI : (o : Int) - (l : Int) = (o' : Int) := by omega
          have hol2 : o' < l := by omega
          clear ho'
          obtain ⟨p, hp⟩ : ∃ p : Nat, p = a + o' := ⟨_, rfl⟩
          have hwp : IntKind.i64.wrap ((a : Int) + (o' : Int)) = (p : Int) := by simp [IntKind.wrap, IntKind.bits, IntKind.signed]; omega
          have hpl : p < zs.length := by have := han2.out; omega
          clear hp
          obtain ⟨G, hcw, hfw, hsw, hag⟩ := hB2.out.row.open2 hoff.out
          obtain ⟨v2, hy2⟩ : ∃ v', (w2.setCell ⟨b, off + i, none⟩ (.int .u8 (G p))).cell? ⟨b, off + p, none⟩ = some v' := hag 0 i p (G p) hil hpl
          replace hsw := Lib.hid hsw
          clear hag
          go_region
          all_goals go_wp2
          go_roundw
          case rel => exact ⟨i + 1, by go_num, by omega, Lib.hid (hB2.out.cells (hsw.out 1 i p hil hpl))⟩
          case measure => simp [intOf] <;> omega
        · have hol2 : o < l := by omega
          obtain ⟨p, hp⟩ : ∃ p : Nat, p = a + o := ⟨_, rfl⟩
          have hwp : IntKind.i64.wrap ((a : Int) + (o : Int)) = (p : Int) := by simp [IntKind.wrap, IntKind.bits, IntKind.signed]; omega
          have hpl : p < zs.length := by have := han2.out; omega
          clear hp
          obtain ⟨G, hcw, hfw, hsw, hag⟩ := hB2.out.row.open2 hoff.out
          obtain ⟨v2, hy2⟩ : ∃ v', (w2.setCell ⟨b, off + i, none⟩ (.int .u8 (G p))).cell? ⟨b, off + p, none⟩ = some v' := hag 0 i p (G p) hil hpl
          replace hsw := Lib.hid hsw
          clear hag
          go_region
          all_goals go_wp2
          go_roundw
          case rel => exact ⟨i + 1, by go_num, by omega, Lib.hid (hB2.out.cells (hsw.out 1 i p hil hpl))⟩
          case measure => simp [intOf] <;> omega
      · go_wp2
        go_end0
        exact ⟨rfl, hB.out.row⟩
  · have h8I : (l : Int) < 8 := by omega
    have h0 := Lib.hid (SrtP.refl hS)
    go_enter Tryz.func104, Tryz.ntmps104
    go_wp2
    go_end0
    exact ⟨rfl, h0.out⟩
end Go.Proofs.YtbicfaiabpcgfaaGreatDoor
