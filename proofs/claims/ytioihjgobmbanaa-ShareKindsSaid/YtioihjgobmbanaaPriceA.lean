/- Layer 20: bytes. -/
import Derived.Test.YtioihjgobmbanaaBytes
namespace Go.Proofs.Ytioihjgobmbanaa
open Go.RowKit

theorem Try.infoU8 : (Try.prog.info? 5).map (fun i => (i.zero, i.size, i.bytes)) = some (some (.int .u8 0), 1, 1) := by kernel_rfl

/-- The place of the first x, or -1. -/
def idxOf (x : Int) : List Int → Int → Int
  | [], _ => -1
  | z :: l, i => if z = x then i else idxOf x l (i + 1)

theorem idxOf_past (x : Int) : ∀ (l : List Int) (k : Nat) (i : Int), k ≤ l.length → (∀ j (h : j < l.length), j < k → l[j] ≠ x) → idxOf x l i = idxOf x (l.drop k) (i + k)
  | l, 0, i, _, _ => by simp
  | [], k + 1, i, hk, _ => by simp at hk
  | z :: l, k + 1, i, hk, h => by
    have h0 : z ≠ x := h 0 (by simp) (by omega)
    simp only [idxOf, h0, if_false, List.drop_succ_cons]
    rw [idxOf_past x l k (i + 1) (by simpa using hk) (fun j hj hjk => h (j + 1) (by simpa using hj) (by omega))]
    congr 1; omega

theorem index_any (a : Option Addr) (c : Nat) (zs : List Int) (x : Int) (w : World) (hl : zs.length ≤ 9223372036854775807) (hr : RowAt .u8 w a zs) :
    Calls Try.prog 33 #[.slice a zs.length c, .int .u8 x] w fun e w' => e = .returned (.int .i64 (idxOf x zs 0)) ∧ w = w' := by
  have H := Lib.hid hr
  clear hr
  go_enter Try.func33, Try.ntmps33
  go_wp2
  go_loop [8] (fun i => ∃ k : Nat, k ≤ zs.length ∧ i = .int .i64 k ∧ Hid (∀ j (h : j < zs.length), j < k → zs[j] ≠ x)) (fun i => zs.length - (intOf i).toNat)
  case atStart => exact ⟨0, by omega, rfl, fun j h hk => by omega⟩
  case round =>
    obtain ⟨k, hk, rfl, hno⟩ := hrel
    by_cases hlt : k < zs.length
    · obtain ⟨b, o, rfl, hc⟩ := H.out k hlt
      by_cases hx : zs[k] = x
      · have fin := Lib.hid (show idxOf x zs 0 = k by
          rw [idxOf_past x zs k 0 hk hno.out, List.drop_eq_getElem_cons hlt]
          simp [idxOf, hx])
        have hc' : w.cell? ⟨b, o + k, none⟩ = some (.int .u8 x) := by rw [hc, hx]
        clear hc hx
        go_wp2
        go_ret
        exact ⟨by rw [fin.out]; rfl, rfl⟩
      · have hx2 : (x == zs[k]) = false := by simpa using Ne.symm hx
        have hno' : Hid (∀ j (h : j < zs.length), j < k + 1 → zs[j] ≠ x) := fun j h hj => by
          by_cases e : j = k
          · subst e; exact hx
          · exact hno.out j h (by omega)
        clear hx
        generalize zs[k] = y at hc hx2
        go_wp2
        go_round
        case rel => exact ⟨k + 1, by omega, by go_num, hno'⟩
        case measure => simp [intOf]; omega
    · have fin := Lib.hid (show idxOf x zs 0 = -1 by
        rw [idxOf_past x zs zs.length 0 (Nat.le_refl _) (fun j h _ => hno.out j h (by omega))]
        simp [idxOf])
      go_wp2
      go_ret
      exact ⟨by rw [fin.out]; rfl, rfl⟩

def byteCost (c : Int) : Int := if c = 0 then 4 else 16
def u64sum (s : Int) (c : Int) : Int := IntKind.u64.wrap (s + c)
def dataCost (zs : List Int) : Int := zs.foldl (fun s c => u64sum s (byteCost c)) 0
theorem dataCost_succ (zs : List Int) (k : Nat) (h : k < zs.length) : dataCost (zs.take (k + 1)) = u64sum (dataCost (zs.take k)) (byteCost zs[k]) := by
  unfold dataCost
  rw [List.take_succ_eq_append_getElem h, List.foldl_append]; rfl

theorem data1_any (c : Int) (w : World) :
    Calls Try.prog 50 #[.int .u8 c] w fun e w' => e = .returned (.int .u64 (byteCost c)) ∧ w = w' := by
  cases h : (c == 0)
  all_goals
    have hb : byteCost c = if (c == 0) = true then 4 else 16 := by simp [byteCost]
    rw [hb]
    go_enter Try.func50, Try.ntmps50
    go_wp2
    go_ret
    exact ⟨by simp [h], rfl⟩

theorem summed_any (a : Option Addr) (c : Nat) (zs : List Int) (w : World) (hl : zs.length ≤ 9223372036854775807) (hr : RowAt .u8 w a zs) :
    Calls Try.prog 48 #[.slice a zs.length c, .func (.func 50) #[] #[]] w fun e w' => e = .returned (.int .u64 (dataCost zs)) ∧ w = w' := by
  have H := Lib.hid hr
  clear hr
  go_enter Try.func48, Try.ntmps48
  go_wp2
  go_loop [4, 9] (fun s i => ∃ k : Nat, k ≤ zs.length ∧ i = .int .i64 k ∧ s = .int .u64 (dataCost (zs.take k))) (fun _ i => zs.length - (intOf i).toNat)
  case atStart => exact ⟨0, by omega, rfl, rfl⟩
  case round =>
    obtain ⟨k, hk, rfl, rfl⟩ := hrel
    by_cases hlt : k < zs.length
    · obtain ⟨b, o, rfl, hc⟩ := H.out k hlt
      have hs := Lib.hid (dataCost_succ zs k hlt)
      generalize zs[k] = y at hc hs
      generalize dataCost (zs.take k) = s at hs
      go_wp2_with (go_at_call 50; refine (data1_any _ _).mono ?_; rintro e w' ⟨rfl, rfl⟩)
      go_round
      case rel => exact ⟨k + 1, by omega, by go_num, by rw [hs.out]; rfl⟩
      case measure => simp [intOf]; omega
    · have fin := Lib.hid (show zs.take k = zs by rw [show k = zs.length by omega]; simp)
      go_wp2
      go_ret
      exact ⟨congrArg (fun l => Ending.returned (.int .u64 (dataCost l))) fin.out, rfl⟩

theorem refData_any (a : Option Addr) (c : Nat) (zs : List Int) (w : World) (hl : zs.length ≤ 9223372036854775807) (hr : RowAt .u8 w a zs) :
    Calls Try.prog 35 #[.slice a zs.length c] w fun e w' => e = .returned (.int .u64 (dataCost zs)) ∧ w = w' := by
  have H := Lib.hid hr
  clear hr
  go_enter Try.func35, Try.ntmps35
  go_wp2
  go_loop [3, 4] (fun s i => ∃ k : Nat, k ≤ zs.length ∧ i = .int .i64 k ∧ s = .int .u64 (dataCost (zs.take k))) (fun _ i => zs.length - (intOf i).toNat)
  case atStart => exact ⟨0, by omega, rfl, rfl⟩
  case round =>
    obtain ⟨k, hk, rfl, rfl⟩ := hrel
    by_cases hlt : k < zs.length
    · obtain ⟨b, o, rfl, hc⟩ := H.out k hlt
      have hs := Lib.hid (dataCost_succ zs k hlt)
      generalize zs[k] = y at hc hs
      generalize dataCost (zs.take k) = s at hs
      cases hy : (y == 0)
      all_goals
        have hs2 := Lib.hid (show dataCost (zs.take (k + 1)) = u64sum s (if (y == 0) = true then 4 else 16) by rw [hs.out]; simp [byteCost])
        go_wp2
        go_round
        case rel => exact ⟨k + 1, by omega, by go_num, by rw [hs2.out]; simp [hy, u64sum]⟩
        case measure => simp [intOf]; omega
    · have fin := Lib.hid (show zs.take k = zs by rw [show k = zs.length by omega]; simp)
      go_wp2
      go_ret
      exact ⟨congrArg (fun l => Ending.returned (.int .u64 (dataCost l))) fin.out, rfl⟩

end Go.Proofs.Ytioihjgobmbanaa
