/- Labels: joins, meets, which is below which, of the document and of the program. -/
import Derived.Test.YtaapccjnidgbnaaDoorLabV
import Derived.Test.YtaapccjnidgbnaaDoorRowNew
import Derived.Test.YtaapccjnidgbnaaDoorGrowV
import Derived.Deep.Cut
import Derived.OneCell
namespace Go.Proofs.YtaapccjnidgbnaaDoor
open Go.RowKit

theorem has_any (a : BitVec 64) (k : Nat) (w : World) (hk : k < 64) : Calls Tryd.prog 26 #[.int .u64 (iv64 a), .int .i64 k] w fun e w' => e = .returned (.bool (hasB a k)) ∧ w = w' := by
  have hm := has_mod a k
  have hb := iv64_bd (shr64 a k)
  have hk2 : (k : Int) < 64 := by omega
  go_enter Tryd.func26, Tryd.ntmps26
  go_wp2
  go_ret
  exact ⟨rfl, rfl⟩
theorem refJoin_any (a b : BitVec 64) (w : World) : Calls Tryd.prog 18 #[.int .u64 (iv64 a), .int .u64 (iv64 b)] w fun e w' => e = .returned (.int .u64 (iv64 (or64 a b))) ∧ w = w' := by
  go_enter Tryd.func18, Tryd.ntmps18
  go_wp2
  go_ret
  exact ⟨rfl, rfl⟩
theorem refMeet_any (a b : BitVec 64) (w : World) : Calls Tryd.prog 19 #[.int .u64 (iv64 a), .int .u64 (iv64 b)] w fun e w' => e = .returned (.int .u64 (iv64 (and64 a b))) ∧ w = w' := by
  go_enter Tryd.func19, Tryd.ntmps19
  go_wp2
  go_ret
  exact ⟨rfl, rfl⟩
theorem refBelow_any (a b : BitVec 64) (w : World) : Calls Tryd.prog 20 #[.int .u64 (iv64 a), .int .u64 (iv64 b)] w fun e w' => e = .returned (.bool (belowB a b)) ∧ w = w' := by
  have hbl := Lib.hid (below_iff a b)
  generalize belowB a b = r at *
  go_enter Tryd.func20, Tryd.ntmps20
  go_wp2
  go_loop [5] (fun i => ∃ k : Nat, k ≤ 64 ∧ i = .int .i64 k ∧ Hid (∀ j < k, hasB a j = true → hasB b j = true)) (fun i => 64 - (intOf i).toNat)
  case atStart => exact ⟨0, by omega, rfl, Lib.hid fun j h => by omega⟩
  case round =>
    obtain ⟨k, hk, rfl, hs⟩ := hrel
    by_cases hlt : k < 64
    · have hlt2 : (k : Int) < 64 := by omega
      have ha := Lib.hid (fun W => has_any a k W hlt)
      have hb := Lib.hid (fun W => has_any b k W hlt)
      cases e1 : hasB a k
      · rw [e1] at ha
        have ha := Lib.hid ha.out
        go_wp2_with (go_at_call 26; refine (ha.out _).mono ?_; rintro e w' ⟨rfl, rfl⟩)
        refine ⟨⟨k + 1, by omega, rfl, Lib.hid fun j hj h => ?_⟩, by simp [intOf]; omega⟩
        by_cases e : j = k
        · subst e; rw [e1] at h; cases h
        · exact hs.out j (by omega) h
      · rw [e1] at ha
        replace ha := Lib.hid ha.out
        cases e2 : hasB b k
        · rw [e2] at hb
          replace hb := Lib.hid hb.out
          replace e1 := Lib.hid e1
          replace e2 := Lib.hid e2
          go_wp2_with (first
            | (go_at_call 26; (with_reducible refine (ha.out _).mono ?_); rintro e w' ⟨rfl, rfl⟩)
            | (go_at_call 26; refine (hb.out _).mono ?_; rintro e w' ⟨rfl, rfl⟩))
          go_ret
          refine ⟨?_, rfl⟩
          have : r = false := by
            cases r with
            | false => rfl
            | true => have := hbl.out.1 rfl k hlt e1.out; rw [e2.out] at this; cases this
          subst this
          rfl
        · rw [e2] at hb
          replace hb := Lib.hid hb.out
          replace e1 := Lib.hid e1
          replace e2 := Lib.hid e2
          go_wp2_with (first
            | (go_at_call 26; (with_reducible refine (ha.out _).mono ?_); rintro e w' ⟨rfl, rfl⟩)
            | (go_at_call 26; refine (hb.out _).mono ?_; rintro e w' ⟨rfl, rfl⟩))
          refine ⟨⟨k + 1, by omega, rfl, Lib.hid fun j hj h => ?_⟩, by simp [intOf]; omega⟩
          by_cases e : j = k
          · subst e; exact e2.out
          · exact hs.out j (by omega) h
    · obtain rfl : k = 64 := by omega
      clear hlt
      have hr : r = true := hbl.out.2 fun j hj => hs.out j hj
      subst hr
      go_wp2
      go_ret
      exact ⟨rfl, rfl⟩
theorem joins1_any (a b : BitVec 64) (w : World) : Calls Tryd.prog 30 #[.int .u64 (iv64 a), .int .u64 (iv64 b)] w fun e w' => e = .returned (.int .u64 (iv64 (or64 a b))) ∧ w = w' := by
  go_enter Tryd.func30, Tryd.ntmps30
  go_wp2
  go_ret
  exact ⟨rfl, rfl⟩
theorem meets1_any (a b : BitVec 64) (w : World) : Calls Tryd.prog 31 #[.int .u64 (iv64 a), .int .u64 (iv64 b)] w fun e w' => e = .returned (.int .u64 (iv64 (and64 a b))) ∧ w = w' := by
  go_enter Tryd.func31, Tryd.ntmps31
  go_wp2
  go_ret
  exact ⟨rfl, rfl⟩
theorem foldJ_any (a0 : BitVec 64) (ls : List (BitVec 64)) (a : Option Addr) (c : Nat) (w : World) (hr : RowAt .u64 w a (ls.map iv64)) (hl : ls.length ≤ 9223372036854775807) :
    Calls Tryd.prog 29 #[.int .u64 (iv64 a0), .func (.func 30) #[] #[], .slice a ls.length c] w fun e w' => e = .returned (.int .u64 (iv64 (ls.foldl or64 a0))) ∧ w = w' := by
  replace hr := Lib.hid hr
  go_enter Tryd.func29, Tryd.ntmps29
  go_wp2
  go_loop [0, 11] (fun x i => ∃ k : Nat, k ≤ ls.length ∧ i = .int .i64 k ∧ x = .int .u64 (iv64 ((ls.take k).foldl or64 a0))) (fun _ i => ls.length - (intOf i).toNat)
  case atStart => exact ⟨0, by omega, rfl, rfl⟩
  case round =>
    obtain ⟨k, hk, rfl, rfl⟩ := hrel
    by_cases hlt : k < ls.length
    · have hlt2 : (k : Int) < ls.length := by omega
      obtain ⟨b, o, rfl, c1⟩ := hr.out k (by rw [List.length_map]; exact hlt)
      rw [List.getElem_map] at c1
      have hnext : Hid ((ls.take (k + 1)).foldl or64 a0 = or64 ((ls.take k).foldl or64 a0) ls[k]) := Lib.hid (by rw [List.take_succ_eq_append_getElem hlt, List.foldl_append]; rfl)
      generalize (ls.take k).foldl or64 a0 = x at *
      generalize ls[k] = y at *
      go_wp2_with (go_at_call 30; refine (joins1_any x y _).mono ?_; rintro e w' ⟨rfl, rfl⟩)
      exact ⟨⟨k + 1, by omega, rfl, by rw [hnext.out]⟩, by simp [intOf]; omega⟩
    · obtain rfl : k = ls.length := by omega
      rw [List.take_length]
      clear hlt
      generalize hx : ls.foldl or64 a0 = x at *
      replace hx := Lib.hid hx
      go_wp2
      go_ret
      exact ⟨by rw [hx.out]; rfl, rfl⟩
theorem foldM_any (a0 : BitVec 64) (ls : List (BitVec 64)) (a : Option Addr) (c : Nat) (w : World) (hr : RowAt .u64 w a (ls.map iv64)) (hl : ls.length ≤ 9223372036854775807) :
    Calls Tryd.prog 29 #[.int .u64 (iv64 a0), .func (.func 31) #[] #[], .slice a ls.length c] w fun e w' => e = .returned (.int .u64 (iv64 (ls.foldl and64 a0))) ∧ w = w' := by
  replace hr := Lib.hid hr
  go_enter Tryd.func29, Tryd.ntmps29
  go_wp2
  go_loop [0, 11] (fun x i => ∃ k : Nat, k ≤ ls.length ∧ i = .int .i64 k ∧ x = .int .u64 (iv64 ((ls.take k).foldl and64 a0))) (fun _ i => ls.length - (intOf i).toNat)
  case atStart => exact ⟨0, by omega, rfl, rfl⟩
  case round =>
    obtain ⟨k, hk, rfl, rfl⟩ := hrel
    by_cases hlt : k < ls.length
    · have hlt2 : (k : Int) < ls.length := by omega
      obtain ⟨b, o, rfl, c1⟩ := hr.out k (by rw [List.length_map]; exact hlt)
      rw [List.getElem_map] at c1
      have hnext : Hid ((ls.take (k + 1)).foldl and64 a0 = and64 ((ls.take k).foldl and64 a0) ls[k]) := Lib.hid (by rw [List.take_succ_eq_append_getElem hlt, List.foldl_append]; rfl)
      generalize (ls.take k).foldl and64 a0 = x at *
      generalize ls[k] = y at *
      go_wp2_with (go_at_call 31; refine (meets1_any x y _).mono ?_; rintro e w' ⟨rfl, rfl⟩)
      exact ⟨⟨k + 1, by omega, rfl, by rw [hnext.out]⟩, by simp [intOf]; omega⟩
    · obtain rfl : k = ls.length := by omega
      rw [List.take_length]
      clear hlt
      generalize hx : ls.foldl and64 a0 = x at *
      replace hx := Lib.hid hx
      go_wp2
      go_ret
      exact ⟨by rw [hx.out]; rfl, rfl⟩
def joinF (ls : List (BitVec 64)) : BitVec 64 := ls.foldl or64 0
def meetF (ls : List (BitVec 64)) : BitVec 64 := ls.foldl and64 (BitVec.allOnes 64)
theorem join_any (ls : List (BitVec 64)) (a : Option Addr) (c : Nat) (w : World) (hr : RowAt .u64 w a (ls.map iv64)) (hl : ls.length ≤ 9223372036854775807) :
    Calls Tryd.prog 15 #[.slice a ls.length c] w fun e w' => e = .returned (.int .u64 (iv64 (joinF ls))) ∧ w = w' := by
  have hc := Lib.hid (foldJ_any 0 ls a c w hr hl)
  clear hr
  go_enter Tryd.func15, Tryd.ntmps15
  go_wp2_with (go_at_call 29; refine hc.out.mono ?_; rintro e w' ⟨rfl, rfl⟩)
  go_ret
  exact ⟨rfl, rfl⟩
theorem meet_any (ls : List (BitVec 64)) (a : Option Addr) (c : Nat) (w : World) (hr : RowAt .u64 w a (ls.map iv64)) (hl : ls.length ≤ 9223372036854775807) :
    Calls Tryd.prog 16 #[.slice a ls.length c] w fun e w' => e = .returned (.int .u64 (iv64 (meetF ls))) ∧ w = w' := by
  have hc := Lib.hid (foldM_any (BitVec.allOnes 64) ls a c w hr hl)
  clear hr
  go_enter Tryd.func16, Tryd.ntmps16
  go_wp2_with (go_at_call 29; refine hc.out.mono ?_; rintro e w' ⟨rfl, rfl⟩)
  go_ret
  exact ⟨rfl, rfl⟩
theorem setBelow_any (a b : BitVec 64) (w : World) : Calls Tryd.prog 32 #[.int .u64 (iv64 a), .int .u64 (iv64 b)] w fun e w' => e = .returned (.bool (belowB a b)) ∧ w = w' := by
  go_enter Tryd.func32, Tryd.ntmps32
  go_wp2
  go_ret
  exact ⟨rfl, rfl⟩
theorem below_any (a b : BitVec 64) (w : World) : Calls Tryd.prog 17 #[.int .u64 (iv64 a), .int .u64 (iv64 b)] w fun e w' => e = .returned (.bool (belowB a b)) ∧ w = w' := by
  have hf : ∀ (x : Int) (W : World), (Instr.field 56 (.agg #[.int .u64 x]) 0).run Tryd.prog W = .ok (.int .u64 x) W := fun x W => by kernel_rfl
  go_enter Tryd.func17, Tryd.ntmps17
  go_wp2_with (go_at_call 32; refine (setBelow_any a b _).mono ?_; rintro e w' ⟨rfl, rfl⟩)
  go_ret
  exact ⟨rfl, rfl⟩
end Go.Proofs.YtaapccjnidgbnaaDoor
