/- The program's digest (layer 24): lists that are made. -/
import Derived.Test.YtfafancacfjodaaRipH
namespace Go.Proofs.Ytfafancacfjodaa
open Go.RowKit

theorem infoI64 : (Try.prog.info? 3).map (fun i => (i.zero, i.size, i.bytes)) = some (some (Value.int .i64 0), 1, 8) := by kernel_rfl

set_option maxHeartbeats 1000000 in
theorem madeInt_any (n : Nat) (g : Nat → Int) (w : World) (hn : n < 1000) (hc : ∀ k, k < n → ∀ W, Below w.heap.size w W → Calls Try.prog 25 #[.int .i64 k] W fun e w' => e = .returned (.int .i64 (g k)) ∧ W = w') :
    Calls Try.prog 24 #[.int .i64 n, .func (.func 25) #[] #[]] w fun e w' => ∃ v, e = .returned v ∧ w'.ownsRow w.heap.size 3 1 v n ((allL n g).map (Value.int .i64)) ∧ Below w.heap.size w w' := by
  obtain ⟨i0, hi, hz0, hz1, hz2⟩ := info_parts infoI64
  have hown0 : Hid (w.ownsRow w.heap.size 3 1 (.slice none 0 0) 0 ((allL 0 g).map (Value.int .i64))) := Lib.hid ⟨by simp [allL], .inl ⟨rfl, rfl⟩⟩
  replace hc := Lib.hid hc
  go_enter Try.func24, Try.ntmps24
  go_wp2
  go_loopw [4, 7] (fun v iv wx => ∃ k : Nat, k ≤ n ∧ iv = .int .i64 k ∧ Hid (wx.ownsRow w.heap.size 3 1 v k ((allL k g).map (Value.int .i64))) ∧ Below w.heap.size w wx) (fun _ iv _ => n - (intOf iv).toNat)
  case atStart => exact ⟨0, by omega, rfl, hown0, xrefl w⟩
  case round =>
    clear hown0
    obtain ⟨k, hk, rfl, hown, hb⟩ := hrel
    obtain ⟨a3, c3, rfl⟩ := own_slice hown.out
    by_cases hlt : k < n
    · have hcall := Lib.hid (hc.out k hlt wr hb)
      have hsucc : Hid (allL (k + 1) g = allL k g ++ [g k]) := Lib.hid (by unfold allL; rw [List.range_succ, List.map_append]; rfl)
      obtain ⟨X, hX⟩ : ∃ X, X = g k := ⟨_, rfl⟩
      rw [← hX] at hcall hsucc
      replace hX := Lib.hid hX
      have hx1 : k + [X].length ≤ maxLen := by unfold maxLen; simp; omega
      have hx2 : (k + [X].length) * 8 ≤ 140737488355328 := by simp; omega
      have hx3 : w.heap.size ≤ (wr.alloc (.cells #[.int .i64 X] 3)).heap.size := by rw [World.size_alloc]; have := hb.size; omega
      replace hx1 := Lib.hid hx1
      replace hx2 := Lib.hid hx2
      replace hx3 := Lib.hid hx3
      go_wp2_with (first
        | (go_at_call 25; refine hcall.out.mono ?_; rintro e w' ⟨rfl, rfl⟩)
        | (at_builtin; refine wpList_append_row (wr.alloc (.cells #[.int .i64 X] 3)) rfl _ _ 51 rfl w.heap.size 3 i0 (.int .i64 0) 8 Try.underlying51 hi hz0 hz1 hz2 rfl (.slice a3 k c3) k _ rfl (hown.out.alloc _) (some ⟨wr.heap.size, 0, none⟩) 1 .i64 [X] rfl (by simp) (rowAt_one wr 3 X) hx1.out hx2.out hx3.out ?_; intro v5 w5 ho5 hg5))
      have hb5 : Below w.heap.size w w5 := (xalloc hb _).grown hg5 hx3.out (fun j hj => (hown.out.lt j hj).1)
      have hown5 : w5.ownsRow w.heap.size 3 1 v5 (k + 1) ((allL (k + 1) g).map (Value.int .i64)) := by
        rw [hsucc.out, List.map_append]
        exact ho5
      go_wp2
      go_roundw
      case rel => exact ⟨k + 1, by omega, by go_num, Lib.hid hown5, hb5⟩
      case measure => simp [intOf]; omega
    · obtain rfl : k = n := by omega
      clear hlt
      go_wp2
      go_ret
      exact ⟨_, rfl, hown.out, hb⟩

set_option maxHeartbeats 1000000 in
theorem madeLen_any (cp : Nat) (n : Nat) (g : Nat → Int) (w : World) (hn : n < 1000) (hc : ∀ k, k < n → ∀ W, Below w.heap.size w W → Calls Try.prog 30 #[.int .i64 k, .pointer (some ⟨cp, 0, none⟩)] W fun e w' => e = .returned (.int .u8 (g k)) ∧ W = w') :
    Calls Try.prog 21 #[.int .i64 n, .func (.func 30) #[] #[.pointer (some ⟨cp, 0, none⟩)]] w fun e w' => ∃ v, e = .returned v ∧ w'.ownsRow w.heap.size 5 1 v n ((allL n g).map (Value.int .u8)) ∧ Below w.heap.size w w' := by
  obtain ⟨i0, hi, hz0, hz1, hz2⟩ := info_parts Try.infoU8
  have hown0 : Hid (w.ownsRow w.heap.size 5 1 (.slice none 0 0) 0 ((allL 0 g).map (Value.int .u8))) := Lib.hid ⟨by simp [allL], .inl ⟨rfl, rfl⟩⟩
  replace hc := Lib.hid hc
  go_enter Try.func21, Try.ntmps21
  go_wp2
  go_loopw [4, 7] (fun v iv wx => ∃ k : Nat, k ≤ n ∧ iv = .int .i64 k ∧ Hid (wx.ownsRow w.heap.size 5 1 v k ((allL k g).map (Value.int .u8))) ∧ Below w.heap.size w wx) (fun _ iv _ => n - (intOf iv).toNat)
  case atStart => exact ⟨0, by omega, rfl, hown0, xrefl w⟩
  case round =>
    clear hown0
    obtain ⟨k, hk, rfl, hown, hb⟩ := hrel
    obtain ⟨a3, c3, rfl⟩ := own_slice hown.out
    by_cases hlt : k < n
    · have hcall := Lib.hid (hc.out k hlt wr hb)
      have hsucc : Hid (allL (k + 1) g = allL k g ++ [g k]) := Lib.hid (by unfold allL; rw [List.range_succ, List.map_append]; rfl)
      obtain ⟨X, hX⟩ : ∃ X, X = g k := ⟨_, rfl⟩
      rw [← hX] at hcall hsucc
      replace hX := Lib.hid hX
      have hx1 : k + [X].length ≤ maxLen := by unfold maxLen; simp; omega
      have hx2 : (k + [X].length) * 1 ≤ 140737488355328 := by simp; omega
      have hx3 : w.heap.size ≤ (wr.alloc (.cells #[.int .u8 X] 5)).heap.size := by rw [World.size_alloc]; have := hb.size; omega
      replace hx1 := Lib.hid hx1
      replace hx2 := Lib.hid hx2
      replace hx3 := Lib.hid hx3
      go_wp2_with (first
        | (go_at_call 30; refine hcall.out.mono ?_; rintro e w' ⟨rfl, rfl⟩)
        | (at_builtin; refine wpList_append_row (wr.alloc (.cells #[.int .u8 X] 5)) rfl _ _ 22 rfl w.heap.size 5 i0 (.int .u8 0) 1 Try.underlying22 hi hz0 hz1 hz2 rfl (.slice a3 k c3) k _ rfl (hown.out.alloc _) (some ⟨wr.heap.size, 0, none⟩) 1 .u8 [X] rfl (by simp) (rowAt_one wr 5 X) hx1.out hx2.out hx3.out ?_; intro v5 w5 ho5 hg5))
      have hb5 : Below w.heap.size w w5 := (xalloc hb _).grown hg5 hx3.out (fun j hj => (hown.out.lt j hj).1)
      have hown5 : w5.ownsRow w.heap.size 5 1 v5 (k + 1) ((allL (k + 1) g).map (Value.int .u8)) := by
        rw [hsucc.out, List.map_append]
        exact ho5
      go_wp2
      go_roundw
      case rel => exact ⟨k + 1, by omega, by go_num, Lib.hid hown5, hb5⟩
      case measure => simp [intOf]; omega
    · obtain rfl : k = n := by omega
      clear hlt
      go_wp2
      go_ret
      exact ⟨_, rfl, hown.out, hb⟩

set_option maxHeartbeats 1000000 in
theorem madeDig_any (cp : Nat) (n : Nat) (g : Nat → Int) (w : World) (hn : n < 1000) (hc : ∀ k, k < n → ∀ W, Below w.heap.size w W → Calls Try.prog 22 #[.int .i64 k, .pointer (some ⟨cp, 0, none⟩)] W fun e w' => e = .returned (.int .u8 (g k)) ∧ W = w') :
    Calls Try.prog 21 #[.int .i64 n, .func (.func 22) #[] #[.pointer (some ⟨cp, 0, none⟩)]] w fun e w' => ∃ v, e = .returned v ∧ w'.ownsRow w.heap.size 5 1 v n ((allL n g).map (Value.int .u8)) ∧ Below w.heap.size w w' := by
  obtain ⟨i0, hi, hz0, hz1, hz2⟩ := info_parts Try.infoU8
  have hown0 : Hid (w.ownsRow w.heap.size 5 1 (.slice none 0 0) 0 ((allL 0 g).map (Value.int .u8))) := Lib.hid ⟨by simp [allL], .inl ⟨rfl, rfl⟩⟩
  replace hc := Lib.hid hc
  go_enter Try.func21, Try.ntmps21
  go_wp2
  go_loopw [4, 7] (fun v iv wx => ∃ k : Nat, k ≤ n ∧ iv = .int .i64 k ∧ Hid (wx.ownsRow w.heap.size 5 1 v k ((allL k g).map (Value.int .u8))) ∧ Below w.heap.size w wx) (fun _ iv _ => n - (intOf iv).toNat)
  case atStart => exact ⟨0, by omega, rfl, hown0, xrefl w⟩
  case round =>
    clear hown0
    obtain ⟨k, hk, rfl, hown, hb⟩ := hrel
    obtain ⟨a3, c3, rfl⟩ := own_slice hown.out
    by_cases hlt : k < n
    · have hcall := Lib.hid (hc.out k hlt wr hb)
      have hsucc : Hid (allL (k + 1) g = allL k g ++ [g k]) := Lib.hid (by unfold allL; rw [List.range_succ, List.map_append]; rfl)
      obtain ⟨X, hX⟩ : ∃ X, X = g k := ⟨_, rfl⟩
      rw [← hX] at hcall hsucc
      replace hX := Lib.hid hX
      have hx1 : k + [X].length ≤ maxLen := by unfold maxLen; simp; omega
      have hx2 : (k + [X].length) * 1 ≤ 140737488355328 := by simp; omega
      have hx3 : w.heap.size ≤ (wr.alloc (.cells #[.int .u8 X] 5)).heap.size := by rw [World.size_alloc]; have := hb.size; omega
      replace hx1 := Lib.hid hx1
      replace hx2 := Lib.hid hx2
      replace hx3 := Lib.hid hx3
      go_wp2_with (first
        | (go_at_call 22; refine hcall.out.mono ?_; rintro e w' ⟨rfl, rfl⟩)
        | (at_builtin; refine wpList_append_row (wr.alloc (.cells #[.int .u8 X] 5)) rfl _ _ 22 rfl w.heap.size 5 i0 (.int .u8 0) 1 Try.underlying22 hi hz0 hz1 hz2 rfl (.slice a3 k c3) k _ rfl (hown.out.alloc _) (some ⟨wr.heap.size, 0, none⟩) 1 .u8 [X] rfl (by simp) (rowAt_one wr 5 X) hx1.out hx2.out hx3.out ?_; intro v5 w5 ho5 hg5))
      have hb5 : Below w.heap.size w w5 := (xalloc hb _).grown hg5 hx3.out (fun j hj => (hown.out.lt j hj).1)
      have hown5 : w5.ownsRow w.heap.size 5 1 v5 (k + 1) ((allL (k + 1) g).map (Value.int .u8)) := by
        rw [hsucc.out, List.map_append]
        exact ho5
      go_wp2
      go_roundw
      case rel => exact ⟨k + 1, by omega, by go_num, Lib.hid hown5, hb5⟩
      case measure => simp [intOf]; omega
    · obtain rfl : k = n := by omega
      clear hlt
      go_wp2
      go_ret
      exact ⟨_, rfl, hown.out, hb⟩

theorem takes1_any (k : Nat) (w : World) : Calls Try.prog 25 #[.int .i64 k] w fun e w' => e = .returned (.int .i64 0) ∧ w = w' := by
  go_enter Try.func25, Try.ntmps25
  go_wp2
  go_ret
  exact ⟨rfl, rfl⟩

theorem len1_any (cp n c k : Nat) (a : Option Addr) (w : World) (hc : w.cell? ⟨cp, 0, none⟩ = some (.slice a n c)) (hn : n < 1000000) (hk : k < 8) :
    Calls Try.prog 30 #[.int .i64 k, .pointer (some ⟨cp, 0, none⟩)] w fun e w' => e = .returned (.int .u8 (iv8 (BitVec.ofNat 8 (8 * n / 256 ^ k)))) ∧ w = w' := by
  have hby : ((8 * (n : Int)) / 2 ^ (8 * k) % 256) = iv8 (BitVec.ofNat 8 (8 * n / 256 ^ k)) := by
    unfold iv8
    rw [BitVec.toNat_ofNat, show (256 : Nat) ^ k = 2 ^ (8 * k) by rw [Nat.pow_mul]]
    simp
  obtain ⟨X, hX⟩ : ∃ X, X = iv8 (BitVec.ofNat 8 (8 * n / 256 ^ k)) := ⟨_, rfl⟩
  rw [← hX] at hby ⊢
  replace hX := Lib.hid hX
  have f0 : (8 * (k : Int)).toNat = 8 * k := by omega
  have f1 : IntKind.i64.wrap (8 * (k : Int)) = 8 * (k : Int) := by rw [IntKind.wrap_i64]; omega
  have f3 : 8 * (k : Int) < 64 := by omega
  have f4 : 0 ≤ 8 * (k : Int) := by omega
  have e1 : IntKind.i64.wrap (8 * (n : Int)) = 8 * (n : Int) := by rw [IntKind.wrap_i64]; omega
  have e2 : IntKind.u64.wrap (8 * (n : Int)) = 8 * (n : Int) := by rw [IntKind.wrap_u64]; omega
  replace hby := Lib.hid hby
  go_enter Try.func30, Try.ntmps30
  go_wp2
  rw [hby.out]
  go_ret
  exact ⟨rfl, rfl⟩

theorem dig1_any (cp k : Nat) (h : Nat → BitVec 32) (w : World) (hB : Blk .u32 w cp 29 (rowI 5 h)) (hk : k < 20) :
    Calls Try.prog 22 #[.int .i64 k, .pointer (some ⟨cp, 0, none⟩)] w fun e w' => e = .returned (.int .u8 (iv8 (digF h k))) ∧ w = w' := by
  have c1 := hB.cell (k / 4) (by rw [rowI_len]; omega)
  rw [rowI_get] at c1
  have hdg := iv8_dig h k
  generalize h (k / 4) = x at c1 hdg
  generalize iv8 (digF h k) = X at hdg ⊢
  replace hdg := Lib.hid hdg
  clear hB
  go_enter Try.func22, Try.ntmps22
  go_wp2
  rw [← hdg.out]
  go_ret
  exact ⟨rfl, rfl⟩

theorem orders_any (w : World) : Calls Try.prog 23 #[] w fun e w' => e = .returned (arrV .i64 ordL) ∧ Below w.heap.size w w' := by
  unfold arrV
  have hz := Lib.hid (Blk.new (q := .i64) w 49 (List.replicate 16 0))
  go_enter Try.func23, Try.ntmps23
  go_wp2_with (refine wpList_store_blk rfl 49 _ _ rfl w.heap.size rfl .i64 49 (List.replicate 16 0) ordL hz.out rfl rfl (by kernel_rfl) ?_; intro w7 h7 ho7)
  refine ret_blk rfl w.heap.size .i64 49 ordL _ _ rfl h7 Try.underlying49 (by kernel_rfl) rfl ⟨rfl, ?_⟩
  exact ho7.below (xalloc (xrefl w) _) (by rw [World.size_alloc]; omega) (by rintro i rfl; omega)
end Go.Proofs.Ytfafancacfjodaa
