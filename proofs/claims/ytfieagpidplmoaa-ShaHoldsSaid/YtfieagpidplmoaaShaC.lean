/- The program's digest (layer 23): turns, laid on one another. -/
import Derived.Test.YtfieagpidplmoaaWord
import Derived.Test.YtfieagpidplmoaaRef23F
import Derived.Test.YtfieagpidplmoaaGrowV
namespace Go.Proofs.Ytfieagpidplmoaa
open Go.RowKit

theorem low_bits : ∀ n : Nat, n < 32 → 0 < n → bits .and .u64 (IntKind.u64.wrap (-(n : Int))) 31 = ((32 - n : Nat) : Int) := by decide +kernel
theorem or32_comm (a b : BitVec 32) : or32 a b = or32 b a := BitVec.or_comm a b
theorem rotl_any (a : BitVec 32) (n : Nat) (w : World) (h1 : 0 < n) (h2 : n < 32) :
    Calls Try.prog 40 #[.int .u32 (iv32 a), .int .i64 (-(n : Int))] w fun e w' => e = .returned (.int .u32 (iv32 (rot32 a n))) ∧ w = w' := by
  go_enter Try.func40, Try.ntmps40
  have hbit := low_bits n h2 h1
  have e1 : (32 : Int) - ((32 - n : Nat) : Int) = (n : Int) := by omega
  have e2 : ((32 - n : Nat) : Int) < 32 := by omega
  have e3 : (n : Int) < 32 := by omega
  have e4 : IntKind.u64.wrap (n : Int) = (n : Int) := by rw [IntKind.wrap_u64]; omega
  go_wp2
  go_ret
  unfold rot32
  rw [or32_comm]
  exact ⟨rfl, rfl⟩

theorem down_any (a : BitVec 32) (n : Nat) (w : World) (h1 : 0 < n) (h2 : n < 32) :
    Calls Try.prog 25 #[.int .u32 (iv32 a), .int .i64 n] w fun e w' => e = .returned (.int .u32 (iv32 (rot32 a n))) ∧ w = w' := by
  go_enter Try.func25, Try.ntmps25
  go_wp2_with (go_at_call 40; refine (rotl_any a n _ h1 h2).mono ?_; rintro e w' ⟨rfl, rfl⟩)
  go_ret
  exact ⟨rfl, rfl⟩

/-- Turns by the numbers of a list, laid on one another. -/
def laidF (a : BitVec 32) (l : List Int) : BitVec 32 := l.foldl (fun o n => xor32 o (rot32 a n.toNat)) 0
theorem laidF_succ (a : BitVec 32) (l : List Int) (k : Nat) (h : k < l.length) : laidF a (l.take (k + 1)) = xor32 (laidF a (l.take k)) (rot32 a l[k].toNat) := by
  unfold laidF
  rw [List.take_succ_eq_append_getElem h, List.foldl_append]
  rfl
theorem laid_any (a : BitVec 32) (b : Nat) (l : List Int) (w : World) (hl : l.length < 100) (hr : RowAt .i64 w (some ⟨b, 0, none⟩) l) (hb : ∀ k (h : k < l.length), 0 < l[k] ∧ l[k] < 32) :
    Calls Try.prog 24 #[.func (.func 25) #[.int .u32 (iv32 a)] #[], .slice (some ⟨b, 0, none⟩) l.length l.length] w fun e w' => e = .returned (.int .u32 (iv32 (laidF a l))) ∧ w = w' := by
  replace hr := Lib.hid hr
  replace hb := Lib.hid hb
  go_enter Try.func24, Try.ntmps24
  go_wp2
  go_loop [4, 6, 9] (fun o _ i => ∃ k : Nat, k ≤ l.length ∧ i = .int .i64 k ∧ o = .int .u32 (iv32 (laidF a (l.take k)))) (fun _ _ i => l.length - (intOf i).toNat)
  case atStart => exact ⟨0, by omega, rfl, rfl⟩
  case round =>
    obtain ⟨k, hk, rfl, rfl⟩ := hrel
    by_cases hlt : k < l.length
    · obtain ⟨b', o', h1, hc⟩ := hr.out k hlt
      cases h1
      rw [Nat.zero_add] at hc
      have hbd := hb.out k hlt
      have hsuc := Lib.hid (laidF_succ a l k hlt)
      have hd := down_any a l[k].toNat w (by omega) (by omega)
      rw [Int.toNat_of_nonneg (by omega)] at hd
      generalize l[k] = x at hc hbd hsuc hd
      replace hd := Lib.hid hd
      go_wp2_with (go_at_call 25; refine hd.out.mono ?_; rintro e w' ⟨rfl, rfl⟩)
      go_round
      case rel => exact ⟨k + 1, by omega, by go_num, by rw [hsuc.out]⟩
      case measure => simp [intOf]; omega
    · have hkl : k = l.length := by omega
      subst hkl
      rw [List.take_length]
      go_wp2
      go_ret
      exact ⟨rfl, rfl⟩

def pickF (n : Nat → BitVec 32) : BitVec 32 := or32 (and32 (n 4) (n 5)) (and32 (not32 (n 4)) (n 6))
def mostF (n : Nat → BitVec 32) : BitVec 32 := or32 (or32 (and32 (n 0) (n 1)) (and32 (n 0) (n 2))) (and32 (n 1) (n 2))
theorem pick_any (n : Nat → BitVec 32) (w : World) :
    Calls Try.prog 41 #[arrV .u32 (rowI 8 n)] w fun e w' => e = .returned (.int .u32 (iv32 (pickF n))) ∧ Below w.heap.size w w' := by
  unfold arrV
  have hB := Blk.new (q := .u32) w 59 (rowI 8 n)
  have c4 := hB.cell 4 (by rw [rowI_len]; decide)
  have c5 := hB.cell 5 (by rw [rowI_len]; decide)
  have c6 := hB.cell 6 (by rw [rowI_len]; decide)
  rw [rowI_get] at c4 c5 c6
  go_enter Try.func41, Try.ntmps41
  go_wp2
  go_ret
  exact ⟨rfl, xalloc (xrefl w) _⟩
theorem most_any (n : Nat → BitVec 32) (w : World) :
    Calls Try.prog 42 #[arrV .u32 (rowI 8 n)] w fun e w' => e = .returned (.int .u32 (iv32 (mostF n))) ∧ Below w.heap.size w w' := by
  unfold arrV
  have hB := Blk.new (q := .u32) w 59 (rowI 8 n)
  have c0 := hB.cell 0 (by rw [rowI_len]; decide)
  have c1 := hB.cell 1 (by rw [rowI_len]; decide)
  have c2 := hB.cell 2 (by rw [rowI_len]; decide)
  rw [rowI_get] at c0 c1 c2
  go_enter Try.func42, Try.ntmps42
  go_wp2
  go_ret
  exact ⟨rfl, xalloc (xrefl w) _⟩
end Go.Proofs.Ytfieagpidplmoaa
