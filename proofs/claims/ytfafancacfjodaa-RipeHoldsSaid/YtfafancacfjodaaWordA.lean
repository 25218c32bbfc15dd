/- The document's words (layer 1): bytes, sums, products. -/
import Derived.Test.YtfafancacfjodaaArr
namespace Go.Proofs.Ytfafancacfjodaa
open Go.RowKit

theorem refBytes_any (N : Nat) (w : World) :
    Calls Try.prog 60 #[wordV N] w fun e w' => e = .returned (.agg ((bytesL N).map (Value.int .u8)).toArray) ∧ Below w.heap.size w w' := by
  unfold wordV
  go_enter Try.func60, Try.ntmps60
  go_wp2
  go_loopw [4] (fun i wr => ∃ k : Nat, k ≤ 32 ∧ i = .int .i64 k ∧ Blk .u64 wr w.heap.size 90 (wordL N) ∧ Blk .u8 wr (w.heap.size + 1) 94 zs32 ∧ Blk .u8 wr (w.heap.size + 1 + 1) 94 (bytesTo N k) ∧ Below w.heap.size w wr) (fun i _ => 32 - (intOf i).toNat)
  case atStart =>
    exact ⟨0, by omega, rfl, ((Blk.new w _ (wordL N)).alloc _).alloc _, (Blk.new' _ _ _ zs32 (by simp)).alloc _, Blk.new' _ _ _ (bytesTo N 0) (by simp), xalloc (xalloc (xalloc (xrefl _) _) _) _⟩
  case round =>
    obtain ⟨k, hk, rfl, hA, hR, hB, hb⟩ := hrel
    by_cases hlt : k < 32
    · have hc1 := hA.cell (k / 8) (by show k / 8 < 4; omega)
      rw [wordL_get] at hc1
      have hc2 := hB.cell (31 - k) (by rw [bytesTo_len]; omega)
      have hf2 := hB.frozen (31 - k)
      have hx := limb_lt N (k / 8)
      have hy := limb_byte N k
      generalize limb N (k / 8) = x at hc1 hx hy
      generalize (bytesTo N k)[31 - k]'(by rw [bytesTo_len]; omega) = y0 at hc2
      have Hy := Lib.hid hy
      clear hy
      go_wp2
      go_roundw
      case rel =>
        refine ⟨k + 1, by omega, by go_num, hA.oth _ (by omega), hR.oth _ (by omega), ?_, xsetb hb (by omega) _⟩
        have := hB.set (31 - k) (byteAt N k : Int)
        rw [bytesTo_succ N k hlt, ← Hy.out] at this
        simpa using this
      case measure => simp [intOf]; omega
    · have hk32 : k = 32 := by omega
      subst hk32
      rw [bytesTo_all] at hB
      clear hlt
      go_wp2_with (first
        | (refine wpList_load_blk rfl 94 _ rfl (w.heap.size + 1 + 1) rfl .u8 94 (bytesL N) _ _ hB Try.underlying94 (by kernel_rfl) ?_)
        | (refine wpList_store_blk rfl 94 _ _ rfl (w.heap.size + 1) rfl .u8 94 zs32 (bytesL N) hR rfl rfl (by kernel_rfl) ?_; intro w2 h2 ho2))
      refine ret_blk rfl (w.heap.size + 1) .u8 94 (bytesL N) _ _ rfl h2 Try.underlying94 (by kernel_rfl) rfl ⟨rfl, ?_⟩
      exact ho2.below hb hb.size (by rintro i rfl; omega)

theorem refOf_any (n : Nat) (w : World) (h : n < 18446744073709551616) :
    Calls Try.prog 56 #[.int .u64 n] w fun e w' => e = .returned (wordV n) ∧ Below w.heap.size w w' := by
  have e : wordV n = .agg #[.int .u64 n, .int .u64 0, .int .u64 0, .int .u64 0] := by
    have h0 : limb n 0 = n := by unfold limb; simp; omega
    have h1 : limb n 1 = 0 := by unfold limb; simp; omega
    have h2 : limb n 2 = 0 := by unfold limb; simp; omega
    have h3 : limb n 3 = 0 := by unfold limb; simp; omega
    unfold wordV
    rw [h0, h1, h2, h3]; rfl
  rw [e]
  go_enter Try.func56, Try.ntmps56
  go_wp2
  refine bodyPost_ret (v := .agg #[.int .u64 n, .int .u64 0, .int .u64 0, .int .u64 0]) (by simp [results, Try.results56, go_sem]) rfl ⟨rfl, ?_⟩
  repeat (first | exact xrefl _ | refine xalloc ?_ _ | refine xset ?_ (by simp) _)

theorem bytesL_get (N j : Nat) (h : j < (bytesL N).length) : (bytesL N)[j] = byteAt N (31 - j) := by simp [bytesL]

theorem or_byte (x y s : Nat) (hx : x < 2 ^ s) (hx6 : x < 18446744073709551616) (hy : y * 2 ^ s < 18446744073709551616) : bits .or .u64 (x : Int) (IntKind.u64.wrap ((y : Int) * 2 ^ s)) = ((x + y * 2 ^ s : Nat) : Int) := by
  have e : ((y : Int) * 2 ^ s) = ((y * 2 ^ s : Nat) : Int) := by simp
  have w64 : ∀ n : Nat, n < 18446744073709551616 → IntKind.u64.wrap (n : Int) = n := by
    intro n hn
    simp [IntKind.wrap, IntKind.bits, IntKind.signed]; omega
  have o : ∀ n : Nat, BitVec.ofInt 64 (n : Int) = BitVec.ofNat 64 n := fun n => BitVec.ofInt_natCast 64 n
  have hs : (x ||| y * 2 ^ s) = x + y * 2 ^ s := by
    have := Nat.two_pow_add_eq_or_of_lt hx y
    rw [Nat.mul_comm y, Nat.or_comm, ← this, Nat.add_comm]
  have hlt : (x ||| y * 2 ^ s) < 2 ^ 64 := Nat.or_lt_two_pow (by simpa using hx6) (by simpa using hy)
  rw [e, w64 _ hy]
  show IntKind.u64.wrap (((BitVec.ofInt 64 (x : Int)) ||| (BitVec.ofInt 64 ((y * 2 ^ s : Nat) : Int))).toNat : Int) = _
  rw [o, o, BitVec.toNat_or, BitVec.toNat_ofNat, BitVec.toNat_ofNat, Nat.mod_eq_of_lt (by simpa using hx6), Nat.mod_eq_of_lt (by simpa using hy), w64 _ (by simpa using hlt), hs]

theorem refFrom_any (N : Nat) (w : World) :
    Calls Try.prog 61 #[.agg ((bytesL N).map (Value.int .u8)).toArray] w fun e w' => e = .returned (wordV N) ∧ Below w.heap.size w w' := by
  have hbl : (bytesL N).length = 32 := by simp [bytesL]
  go_enter Try.func61, Try.ntmps61
  go_wp2
  go_loopw [4] (fun i wr => ∃ k : Nat, k ≤ 32 ∧ i = .int .i64 k ∧ Blk .u8 wr w.heap.size 94 (bytesL N) ∧ Blk .u64 wr (w.heap.size + 1) 90 [0, 0, 0, 0] ∧ Blk .u64 wr (w.heap.size + 1 + 1) 90 (wordL (N % 256 ^ k)) ∧ Below w.heap.size w wr) (fun i _ => 32 - (intOf i).toNat)
  case atStart =>
    exact ⟨0, by omega, rfl, ((Blk.new w _ (bytesL N)).alloc _).alloc _, (Blk.new' _ _ _ [0, 0, 0, 0] (by simp)).alloc _, by rw [show wordL (N % 256 ^ 0) = [0, 0, 0, 0] by simp [wordL, limb]]; exact Blk.new' _ _ _ [0, 0, 0, 0] (by simp), xalloc (xalloc (xalloc (xrefl _) _) _) _⟩
  case round =>
    obtain ⟨k, hk, rfl, hA, hR, hB, hb⟩ := hrel
    by_cases hlt : k < 32
    · have hc1 := hB.cell (k / 8) (by show k / 8 < 4; omega)
      rw [wordL_get] at hc1
      have hf1 := hB.frozen (k / 8)
      have hc2 := hA.cell (31 - k) (by rw [hbl]; omega)
      rw [bytesL_get _ _ (by rw [hbl]; omega), show 31 - (31 - k) = k by omega] at hc2
      have hx := limb_lt (N % 256 ^ k) (k / 8)
      have hx2 := Lib.hid (limb_small N k hlt)
      have hy := byteAt_lt N k
      have hy2 := Lib.hid (byte_small N k)
      have hst := Lib.hid (wordTo_succ N k hlt)
      generalize limb (N % 256 ^ k) (k / 8) = x at hc1 hx hx2 hst
      generalize byteAt N k = y at hc2 hy hy2 hst
      go_wp2
      go_region
      rw [or_byte x y _ hx2.out hx hy2.out]
      go_wp2
      go_roundw
      case rel =>
        refine ⟨k + 1, by omega, by go_num, hA.oth _ (by omega), hR.oth _ (by omega), ?_, xdrew (xsetb hb (by omega) _)⟩
        have := hB.set (k / 8) ((x + y * 2 ^ (8 * (k % 8)) : Nat) : Int)
        rw [hst.out] at this
        exact this
      case measure => simp [intOf]; omega
    · have hk32 : k = 32 := by omega
      subst hk32
      rw [wordL_mod] at hB
      clear hlt
      go_wp2_with (first
        | (refine wpList_load_blk rfl 90 _ rfl (w.heap.size + 1 + 1) rfl .u64 90 (wordL N) _ _ hB Try.underlying90 (by kernel_rfl) ?_)
        | (refine wpList_store_blk rfl 90 _ _ rfl (w.heap.size + 1) rfl .u64 90 [0, 0, 0, 0] (wordL N) hR rfl rfl (by kernel_rfl) ?_; intro w2 h2 ho2))
      refine ret_blk rfl (w.heap.size + 1) .u64 90 (wordL N) _ _ rfl h2 Try.underlying90 (by kernel_rfl) rfl ⟨rfl, ?_⟩
      exact ho2.below hb hb.size (by rintro i rfl; omega)

end Go.Proofs.Ytfafancacfjodaa
