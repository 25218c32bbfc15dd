/- The program's code: whether a place is a mark. The program's words: words of bytes. The program's code: the bytes that belong to an op. -/
import Derived.Test.YtijkdabmegbcjaaDoorShelf
import Derived.Test.YtijkdabmegbcjaaDoorM15
import Derived.Laws.CopyOwn
set_option linter.all false
namespace Go.Proofs.YtijkdabmegbcjaaDoor
open Go.RowKit Go.Shelf

theorem contains_any (l : List Nat) (x : Int) (a : Option Addr) (c : Nat) (w : World) (h : IntsAt w a c l) (hl : l.length ≤ 9223372036854775807) :
    Calls Tryd.prog 57 #[.slice a l.length c, .int .i64 x] w fun e w' => e = .returned (.bool (inN l x)) ∧ w = w' := by
  by_cases h0 : l = []
  · subst h0
    exact (Tryd.slices_Contains_int_empty a c x w).mono fun e w' ⟨h1, h2⟩ => ⟨h1, h2.symm⟩
  · obtain ⟨b, o, rfl, -⟩ := h.get (List.length_pos_iff.2 h0)
    refine (Tryd.slices_Contains_int b o l.length c (natI l) x w (by rw [natI_len]; exact Nat.le_refl _) hl (fun j hj => ?_)).mono fun e w' ⟨h1, h2⟩ => ⟨?_, h2.symm⟩
    · rw [natI_len] at hj
      obtain ⟨b', o', e, hc⟩ := h.get hj
      cases e
      rw [hc]
      simp [natI, hj]
    · rw [h1]
      congr 2
      rw [← natI_len l, List.take_length]
      unfold inN natI
      rw [List.contains_eq_any_beq, List.any_map]
      congr 1
      funext y
      simp only [Function.comp]
      rw [Bool.eq_iff_iff, beq_iff_eq, beq_iff_eq]
      exact ⟨fun h => h.symm, fun h => h.symm⟩
set_option maxRecDepth 100000 in
set_option maxHeartbeats 4000000 in
theorem mark_any (cs : List Nat) (N : Nat) (a : Option Addr) (c : Nat) (w : World) (h : CodeAt w a c cs) (hN : N < 2 ^ 256) :
    Calls Tryd.prog 44 #[.slice a cs.length c, wordV N] w fun e w' => e = .returned (.bool (markN cs N)) ∧ Below w.heap.size w w' := by
  have hcl := h.len
  have hB0 : Hid (BlkG (w.alloc (.cells ((wordL N).map (Value.int .u64)).toArray 37)) w.heap.size 37 ((wordL N).map (Value.int .u64))) := Lib.hid (BlkG.new w _ _)
  have hb0 : Hid (Below w.heap.size w (w.alloc (.cells ((wordL N).map (Value.int .u64)).toArray 37))) := Lib.hid (xalloc (xrefl _) _)
  have hsmall := Lib.hid fun W => small_any N W hN
  have hmarks := Lib.hid fun W (hW : Below w.heap.size w W) => marks_any cs a c W (h.below hW)
  have hml : (marksL cs).length ≤ 200 := by
    have h1 := List.length_filter_le (fun i => byN cs i == 91) (opsL cs)
    have h2 := opsL_len cs
    unfold marksL; omega
  have hin := Lib.hid fun a1 c1 W (hI : IntsAt W a1 c1 (marksL cs)) => contains_any (marksL cs) N a1 c1 W hI (by omega)
  rw [inN_nat] at hin
  have hu := Tryd.underlying37
  rw [wordV_L] at *
  by_cases h1 : N < 18446744073709551616
  · have e : smallN N = (N, true) := by unfold smallN; rw [if_pos h1]
    rw [e] at hsmall
    have hw1 : IntKind.u64.wrap (cs.length : Int) = cs.length := by simp [IntKind.wrap, IntKind.bits, IntKind.signed]; omega
    by_cases h2 : N < cs.length
    · have em : markN cs N = decide (N ∈ marksL cs) := by unfold markN; simp [h2]
      rw [em]
      have h3 : (N : Int) < cs.length := by omega
      have hw2 : wrap64 (N : Int) = N := by rw [wrap64_small' N (by omega)]
      obtain ⟨b, o, rfl, hc, h256⟩ := (h.below hb0.out).get h2
      have hno : byN cs N ≠ 91 → decide (N ∈ marksL cs) = false := fun hne => decide_eq_false fun hm => hne (marksL_lt hm).2
      generalize decide (N ∈ marksL cs) = r at *
      generalize hL : (wordL N).map (Value.int .u64) = L at *
      replace hL := Lib.hid hL
      clear e em h1 h2 h
      by_cases h91 : byN cs N = 91
      · rw [h91] at hc
        clear hno h91 h256
        go_enter Tryd.func44, Tryd.ntmps44
        go_wp2_with (first
          | (refine wpList_load_blkG rfl 37 _ rfl w.heap.size rfl 37 _ _ hB0.out hu rfl (by rw [← hL.out]; kernel_rfl) ?_)
          | (go_at_call 43; refine (hsmall.out _).mono ?_; rintro e w1 ⟨rfl, hb1⟩; have hc1 := cbel hb1 hc; replace hb1 := Lib.hid (xtrans hb0.out hb1))
          | (go_at_call 42; refine (hmarks.out _ hb1.out).mono ?_; rintro e w2 ⟨⟨v, rfl, hv⟩, hb2⟩; obtain ⟨a1, c1, rfl, hI1, -⟩ := hv.at; replace hI1 := Lib.hid hI1; replace hb2 := Lib.hid hb2; clear hv)
          | (go_at_call 57; refine (hin.out a1 c1 _ hI1.out).mono ?_; rintro e w3 ⟨rfl, rfl⟩))
        go_ret
        exact ⟨rfl, xtrans hb1.out hb2.out⟩
      · have hr := hno h91
        subst hr
        have hm1 : ((byN cs N : Int) == 91) = false := by simp; omega
        have hm2 : ¬ (byN cs N : Int) = 91 := by omega
        generalize (byN cs N : Int) = y at *
        clear hno h91 h256
        go_enter Tryd.func44, Tryd.ntmps44
        go_wp2_with (first
          | (refine wpList_load_blkG rfl 37 _ rfl w.heap.size rfl 37 _ _ hB0.out hu rfl (by rw [← hL.out]; kernel_rfl) ?_)
          | (go_at_call 43; refine (hsmall.out _).mono ?_; rintro e w1 ⟨rfl, hb1⟩; have hc1 := cbel hb1 hc; replace hb1 := Lib.hid (xtrans hb0.out hb1)))
        go_ret
        exact ⟨rfl, hb1.out⟩
    · have em : markN cs N = false := by unfold markN; simp [h2]
      rw [em]
      have h3 : ¬ (N : Int) < cs.length := by omega
      generalize hL : (wordL N).map (Value.int .u64) = L at *
      replace hL := Lib.hid hL
      clear e em h1 h2 hin hmarks
      go_enter Tryd.func44, Tryd.ntmps44
      go_wp2_with (first
        | (refine wpList_load_blkG rfl 37 _ rfl w.heap.size rfl 37 _ _ hB0.out hu rfl (by rw [← hL.out]; kernel_rfl) ?_)
        | (go_at_call 43; refine (hsmall.out _).mono ?_; rintro e w1 ⟨rfl, hb1⟩; replace hb1 := Lib.hid (xtrans hb0.out hb1)))
      go_ret
      exact ⟨rfl, hb1.out⟩
  · have e : smallN N = (0, false) := by unfold smallN; rw [if_neg h1]
    rw [e] at hsmall
    have em : markN cs N = false := by unfold markN; rw [decide_eq_false (by omega)]; rfl
    rw [em]
    generalize hL : (wordL N).map (Value.int .u64) = L at *
    replace hL := Lib.hid hL
    clear e em h1 hin hmarks
    go_enter Tryd.func44, Tryd.ntmps44
    go_wp2_with (first
      | (refine wpList_load_blkG rfl 37 _ rfl w.heap.size rfl 37 _ _ hB0.out hu rfl (by rw [← hL.out]; kernel_rfl) ?_)
      | (go_at_call 43; refine (hsmall.out _).mono ?_; rintro e w1 ⟨rfl, hb1⟩; replace hb1 := Lib.hid (xtrans hb0.out hb1)))
    go_ret
    exact ⟨rfl, hb1.out⟩
end Go.Proofs.YtijkdabmegbcjaaDoor
namespace Go.Proofs.YtijkdabmegbcjaaDoor
open Go.RowKit Go.Shelf

theorem or_top (x y s : Nat) (hx : x % 2 ^ (s + 8) = 0) (hy : y < 256) (hx6 : x < 18446744073709551616) (hy6 : y * 2 ^ s < 18446744073709551616) : bits .or .u64 (x : Int) (IntKind.u64.wrap ((y : Int) * 2 ^ s)) = ((x + y * 2 ^ s : Nat) : Int) := by
  have e : ((y : Int) * 2 ^ s) = ((y * 2 ^ s : Nat) : Int) := by simp
  have w64 : ∀ n : Nat, n < 18446744073709551616 → IntKind.u64.wrap (n : Int) = n := by
    intro n hn
    simp [IntKind.wrap, IntKind.bits, IntKind.signed]; omega
  have o : ∀ n : Nat, BitVec.ofInt 64 (n : Int) = BitVec.ofNat 64 n := fun n => BitVec.ofInt_natCast 64 n
  have hys : y * 2 ^ s < 2 ^ (s + 8) := by
    rw [Nat.pow_add, Nat.mul_comm (2 ^ s)]
    exact Nat.mul_lt_mul_of_pos_right hy (Nat.two_pow_pos s)
  have hs : (x ||| y * 2 ^ s) = x + y * 2 ^ s := by
    obtain ⟨q, hq⟩ := Nat.dvd_of_mod_eq_zero hx
    rw [hq, ← Nat.two_pow_add_eq_or_of_lt hys q]
  have hlt : (x ||| y * 2 ^ s) < 2 ^ 64 := Nat.or_lt_two_pow (by simpa using hx6) (by simpa using hy6)
  rw [e, w64 _ hy6]
  show IntKind.u64.wrap (((BitVec.ofInt 64 (x : Int)) ||| (BitVec.ofInt 64 ((y * 2 ^ s : Nat) : Int))).toNat : Int) = _
  rw [o, o, BitVec.toNat_or, BitVec.toNat_ofNat, BitVec.toNat_ofNat, Nat.mod_eq_of_lt (by simpa using hx6), Nat.mod_eq_of_lt (by simpa using hy6), w64 _ (by simpa using hlt), hs]
def topN (N k : Nat) : Nat := 256 ^ k * (N / 256 ^ k)
set_option maxHeartbeats 4000000 in
theorem top_set (q b k : Nat) (hb : b < 256) (h : k < 32) : (wordL (256 ^ (k + 1) * q)).set (k / 8) ((limb (256 ^ (k + 1) * q) (k / 8) + b * 2 ^ (8 * (k % 8)) : Nat) : Int) = wordL (256 ^ (k + 1) * q + b * 256 ^ k) := by
  rcases cases32 k h with rfl | rfl | rfl | rfl | rfl | rfl | rfl | rfl | rfl | rfl | rfl | rfl | rfl | rfl | rfl | rfl | rfl | rfl | rfl | rfl | rfl | rfl | rfl | rfl | rfl | rfl | rfl | rfl | rfl | rfl | rfl | rfl <;> simp [wordL, limb] <;> omega
theorem topN_step (N k : Nat) : topN N (k + 1) + byteAt N k * 256 ^ k = topN N k := by
  unfold topN byteAt
  have h1 := Nat.div_add_mod (N / 256 ^ k) 256
  rw [Nat.div_div_eq_div_mul, ← Nat.pow_succ] at h1
  have h2 : 256 ^ (k + 1) * (N / 256 ^ (k + 1)) = 256 ^ k * (256 * (N / 256 ^ (k + 1))) := by rw [Nat.pow_succ, Nat.mul_assoc]
  rw [h2, Nat.mul_comm (N / 256 ^ k % 256), ← Nat.mul_add, h1]
theorem topTo_succ (N k : Nat) (h : k < 32) : (wordL (topN N (k + 1))).set (k / 8) ((limb (topN N (k + 1)) (k / 8) + byteAt N k * 2 ^ (8 * (k % 8)) : Nat) : Int) = wordL (topN N k) := by
  rw [← topN_step N k]
  exact top_set _ _ k (byteAt_lt N k) h
set_option maxHeartbeats 4000000 in
theorem limb_q (q k : Nat) (h : k < 32) : limb (256 ^ (k + 1) * q) (k / 8) % 2 ^ (8 * (k % 8) + 8) = 0 := by
  rcases cases32 k h with rfl | rfl | rfl | rfl | rfl | rfl | rfl | rfl | rfl | rfl | rfl | rfl | rfl | rfl | rfl | rfl | rfl | rfl | rfl | rfl | rfl | rfl | rfl | rfl | rfl | rfl | rfl | rfl | rfl | rfl | rfl | rfl <;> simp [limb] <;> omega
theorem limb_top (N k : Nat) (h : k < 32) : limb (topN N (k + 1)) (k / 8) % 2 ^ (8 * (k % 8) + 8) = 0 := limb_q _ k h
theorem topN_zero (N : Nat) : topN N 0 = N := by unfold topN; simp
theorem topN_all {N k : Nat} (h : N < 256 ^ k) : topN N k = 0 := by unfold topN; rw [Nat.div_eq_of_lt h, Nat.mul_zero]
theorem numN_at (l : List Nat) (h256 : ∀ x ∈ l, x < 256) (i : Nat) (hi : i < l.length) : byteAt (numN l) (l.length - 1 - i) = l[i] := by
  have := numN_byte l.reverse (l.length - 1 - i) (fun x hx => h256 x (List.mem_reverse.1 hx))
  rw [List.reverse_reverse] at this
  rw [this, List.getD_eq_getElem?_getD, List.getElem?_eq_getElem (by rw [List.length_reverse]; omega), Option.getD_some, List.getElem_reverse]
  congr 1
  omega
set_option maxRecDepth 100000 in
set_option maxHeartbeats 4000000 in
theorem read_any (l : List Nat) (a : Option Addr) (c : Nat) (w : World) (h : RowAt .u8 w a (natI l)) (hl : l.length ≤ 32) (h256 : ∀ x ∈ l, x < 256) :
    Calls Tryd.prog 47 #[.slice a l.length c] w fun e w' => e = .returned (.tuple #[wordV (numN l), .int .i64 0]) ∧ Below w.heap.size w w' := by
  have hB0 : Hid (Blk .u64 (w.alloc (.cells #[.int .u64 0, .int .u64 0, .int .u64 0, .int .u64 0] 37)) w.heap.size 37 (wordL (topN (numN l) l.length))) := Lib.hid (by
    rw [topN_all (numN_lt l h256)]
    exact Blk.new w 37 [0, 0, 0, 0])
  have hb0 : Hid (Below w.heap.size w (w.alloc (.cells #[.int .u64 0, .int .u64 0, .int .u64 0, .int .u64 0] 37))) := Lib.hid (xalloc (xrefl _) _)
  have hat := Lib.hid fun i hi => numN_at l h256 i hi
  have hlI : (l.length : Int) ≤ 32 := by omega
  have h2 := Lib.hid h
  have hu := Tryd.underlying37
  generalize numN l = N at *
  clear h h256
  go_enter Tryd.func47, Tryd.ntmps47
  go_wp2
  go_loopw [13] (fun iv wr => ∃ i : Nat, i ≤ l.length ∧ iv = .int .i64 i ∧ Hid (Blk .u64 wr w.heap.size 37 (wordL (topN N (l.length - i)))) ∧ Hid (Below w.heap.size w wr)) (fun iv _ => l.length - (intOf iv).toNat)
  case atStart => exact ⟨0, by omega, rfl, hB0, hb0⟩
  case round =>
    clear hB0 hb0
    obtain ⟨i, hi, rfl, hB, hb⟩ := hrel
    by_cases hlt : i < l.length
    · have hltI : (i : Int) < l.length := by omega
      obtain ⟨b, o, rfl, hc⟩ := h2.out i (by rw [natI_len]; exact hlt)
      rw [natI_get] at hc
      have hb4 : b < w.heap.size := cell_lt hc
      have hcr : wr.cell? ⟨b, o + i, none⟩ = some (.int .u8 (l[i] : Int)) := (hb.out.cell (p := ⟨b, o + i, none⟩) hb4).trans hc
      obtain ⟨k, hk⟩ : ∃ k, k = l.length - 1 - i := ⟨_, rfl⟩
      have hk32 : k < 32 := by omega
      have hkk : (l.length : Int) - 1 - (i : Int) = (k : Int) := by omega
      have hby := hat.out i hlt
      rw [← hk] at hby
      have hB' := hB.out
      rw [show l.length - i = k + 1 by omega] at hB'
      have hc1 := hB'.cell (k / 8) (by show k / 8 < 4; omega)
      rw [wordL_get] at hc1
      have hf1 := hB'.frozen (k / 8)
      have hx := limb_lt (topN N (k + 1)) (k / 8)
      have hx2 := Lib.hid (limb_top N k hk32)
      have hy2 := Lib.hid (byte_small N k)
      have hy := byteAt_lt N k
      have hst := Lib.hid (topTo_succ N k hk32)
      rw [hby] at hy2 hst hy
      replace hB' := Lib.hid hB'
      replace hby := Lib.hid hby
      have hkn : Hid (l.length - (i + 1) = k) := Lib.hid (by omega)
      replace hk := Lib.hid hk
      generalize limb (topN N (k + 1)) (k / 8) = x at hc1 hx hx2 hst
      generalize l[i] = y at *
      clear hc hB
      go_wp2
      go_region
      rw [or_top x y _ hx2.out hy hx hy2.out]
      go_wp2
      refine ⟨⟨i + 1, by omega, by go_num, Lib.hid ?_, Lib.hid (xdrew (xsetb hb.out (Nat.le_refl _) _))⟩, by simp [intOf]; omega⟩
      have := hB'.out.set (k / 8) ((x + y * 2 ^ (8 * (k % 8)) : Nat) : Int)
      rw [hst.out] at this
      rw [hkn.out]
      exact this
    · obtain rfl : i = l.length := by omega
      rw [Nat.sub_self, topN_zero] at hB
      clear hlt
      have hG : Hid (BlkG wr w.heap.size 37 ((wordL N).map (Value.int .u64))) := Lib.hid hB.out
      go_wp2_with (first
        | (refine wpList_load_blkG rfl 37 _ rfl w.heap.size rfl 37 _ _ hG.out hu rfl (by kernel_rfl) ?_)
        | (refine wpList_store_blkG rfl 37 _ _ rfl w.heap.size rfl 37 _ ((wordL N).map (Value.int .u64)) hG.out rfl rfl (by kernel_rfl) rfl ?_; intro w2 hG2 ho2; replace hG2 := Lib.hid hG2; replace ho2 := Lib.hid ho2))
      refine bodyPost_ret (results_blkG2 (p := 2) rfl _ _ w.heap.size 37 _ _ rfl hG2.out hu rfl (by kernel_rfl)) rfl ⟨rfl, ?_⟩
      exact ho2.out.below hb.out hb.out.size (by rintro k rfl; exact Nat.le_refl _)
end Go.Proofs.YtijkdabmegbcjaaDoor
namespace Go.Proofs.YtijkdabmegbcjaaDoor
open Go.RowKit Go.Shelf

def behC (cs : List Nat) (i : Nat) : List Value := (natI ((cs.drop (i + 1)).take (szN (byN cs i)))).map (Value.int .u8)
theorem behC_len (cs : List Nat) (i : Nat) : (behC cs i).length = Nat.min (cs.length - (i + 1)) (szN (byN cs i)) := by
  unfold behC
  rw [List.length_map, natI_len, List.length_take, List.length_drop]
  show min _ _ = min _ _
  omega
theorem behC_get {cs : List Nat} {i j : Nat} {v : Value} (h : (behC cs i)[j]? = some v) : j < szN (byN cs i) ∧ i + 1 + j < cs.length ∧ v = .int .u8 (byN cs (i + 1 + j)) := by
  have e : (behC cs i)[j]? = ((cs.drop (i + 1)).take (szN (byN cs i)))[j]?.map fun x : Nat => Value.int .u8 (x : Int) := by unfold behC natI; rw [List.map_map, List.getElem?_map]; rfl
  rw [e] at h
  cases hq : ((cs.drop (i + 1)).take (szN (byN cs i)))[j]? with
  | none => rw [hq] at h; cases h
  | some y =>
    rw [hq] at h
    injection h with h
    obtain ⟨hj, rfl⟩ := List.getElem?_eq_some_iff.1 hq
    rw [List.length_take, List.length_drop] at hj
    refine ⟨by omega, by omega, ?_⟩
    rw [← h]
    show Value.int .u8 _ = .int .u8 ((cs.getD (i + 1 + j) 0 : Nat) : Int)
    rw [List.getD_eq_getElem?_getD, List.getElem?_eq_getElem (by omega)]
    simp
theorem splice_beh (cs : List Nat) (i : Nat) : splice ((List.replicate (szN (byN cs i)) (0 : Int)).map (Value.int .u8)) 0 (behC cs i) = (natI (restN cs i)).map (Value.int .u8) := by
  have hl := behC_len cs i
  have hle : (behC cs i).length ≤ szN (byN cs i) := by rw [hl]; exact Nat.min_le_right _ _
  apply List.ext_getElem
  · rw [length_splice _ _ _ (by simpa using hle)]
    simp [natI_len, restN_len]
  · intro j h1 h2
    have hj : j < szN (byN cs i) := by simpa [natI_len, restN_len] using h2
    unfold splice
    simp only [List.take_zero, List.nil_append, Nat.zero_add]
    rw [List.getElem_append]
    have hr : ((natI (restN cs i)).map (Value.int .u8))[j] = .int .u8 (byN cs (i + 1 + j)) := by simp [natI, restN]
    rw [hr]
    split
    · rename_i h
      exact (behC_get (List.getElem?_eq_getElem h)).2.2
    · rename_i h
      simp only [List.getElem_drop, List.getElem_map, List.getElem_replicate]
      congr 1
      have : cs.length ≤ i + 1 + j := by
        rw [hl] at h
        rcases Nat.lt_or_ge (i + 1 + j) cs.length with h3 | h3
        · exact absurd (Nat.lt_min.2 ⟨by omega, hj⟩) h
        · exact h3
      unfold byN
      rw [List.getD_eq_getElem?_getD, List.getElem?_eq_none this]
      rfl
set_option maxRecDepth 100000 in
set_option maxHeartbeats 4000000 in
theorem behind_any (cs : List Nat) (i : Nat) (a : Option Addr) (c : Nat) (w : World) (h : CodeAt w a c cs) (hlt : i < cs.length) :
    Calls Tryd.prog 48 #[.slice a cs.length c, .int .i64 i] w fun e w' => (∃ b n, e = .returned (.slice (some ⟨b, 0, none⟩) (restN cs i).length n) ∧ RowAt .u8 w' (some ⟨b, 0, none⟩) (natI (restN cs i)) ∧ w.heap.size ≤ b) ∧ Below w.heap.size w w' := by
  obtain ⟨i0, hi0, hz0, hz1, hz2⟩ := info_parts info_u8
  have hsz := szN_le (byN cs i)
  have hmk : Hid (∀ W, (Instr.makeSlice 22 (.int .i64 (szN (byN cs i) : Int)) (.int .i64 (szN (byN cs i) : Int))).run Tryd.prog W = .ok (.slice (some ⟨W.heap.size, 0, none⟩) (szN (byN cs i)) (szN (byN cs i))) (W.alloc (.cells ((List.replicate (szN (byN cs i)) (0 : Int)).map (Value.int .u8)).toArray 5))) := Lib.hid fun W =>
    run_mk_ints 22 5 i0 .u8 1 Tryd.underlying22 hi0 hz0 hz1 hz2 (szN (byN cs i)) _ rfl (by omega) (by omega) W
  have hcl := h.len
  have hcap := h.cap
  have hltI : (i : Int) < cs.length := by omega
  have hrl := restN_len cs i
  have h2 := Lib.hid h
  obtain ⟨b, o, rfl, hc1, h256⟩ := h.get hlt
  have hinf := Lib.hid (size_any (byN cs i) w h256)
  have hsp := splice_beh cs i
  have hBl := behC_len cs i
  have hle : (behC cs i).length ≤ szN (byN cs i) := by rw [hBl]; exact Nat.min_le_right _ _
  have hone : Hid (∀ v ∈ behC cs i, v.oneCell' = true) := Lib.hid (by
    intro v hv
    unfold behC at hv
    obtain ⟨z, -, rfl⟩ := List.mem_map.1 hv
    rfl)
  have hBg : Hid (∀ j v, (behC cs i)[j]? = some v → i + 1 + j < cs.length ∧ w.cell? ⟨b, o + (i + 1 + j), none⟩ = some v) := Lib.hid fun j v hj => by
    obtain ⟨-, h1, rfl⟩ := behC_get hj
    obtain ⟨b', o', e, hc, -⟩ := h.get h1
    cases e
    exact ⟨h1, hc⟩
  generalize behC cs i = C at *
  generalize hR : restN cs i = R at *
  clear hR
  generalize szN (byN cs i) = sz at *
  generalize byN cs i = x at *
  replace hrl := Lib.hid hrl
  replace hsp := Lib.hid hsp
  replace hBl := Lib.hid hBl
  clear hi0 hz0 hz1 hz2 h
  rcases hcap with ⟨hcp1, hcp2⟩
  by_cases hA : i + 1 < cs.length
  · have hA1 : (i : Int) + 1 < cs.length := by omega
    have hA2 : (i : Int) + 1 < c := by omega
    have hA3 : (i : Int) + 1 ≤ cs.length := by omega
    have hA4 : (i : Int) + 1 ≤ c := by omega
    go_enter Tryd.func48, Tryd.ntmps48
    go_wp2_with (go_at_call 53; refine hinf.out.mono ?_; rintro e w1 ⟨rfl, rfl⟩)
    rw [hmk.out]
    have hB0 : Hid (BlkG (w.alloc (.cells ((List.replicate sz (0 : Int)).map (Value.int .u8)).toArray 5)) w.heap.size 5 ((List.replicate sz (0 : Int)).map (Value.int .u8))) := Lib.hid (BlkG.new w _ _)
    have hb0 : Hid (Below w.heap.size w (w.alloc (.cells ((List.replicate sz (0 : Int)).map (Value.int .u8)).toArray 5))) := Lib.hid (xalloc (xrefl w) _)
    generalize w.alloc (.cells ((List.replicate sz (0 : Int)).map (Value.int .u8)).toArray 5) = w2 at hB0 hb0 ⊢
    clear hmk hinf
    go_wp2_with (refine wpList_copy_splice rfl _ _ 22 22 rfl 5 Tryd.underlying22 (by kernel_rfl) (some ⟨w.heap.size, 0, none⟩) (some ⟨b, o + (i + 1), none⟩) sz sz (cs.length - (i + 1)) (c - (i + 1)) rfl rfl w.heap.size 0 _ 5 hB0.out C hBl.out (fun _ => ⟨rfl, _, rfl, fun j v hj => by have h9 := (hBg.out j v hj).2; rw [Addr.add_lit, Nat.add_assoc]; exact cbel hb0.out h9⟩) (by rw [List.length_map, List.length_replicate]; omega) hone.out w.heap.size w hb0.out (Nat.le_refl _) ?_; intro w3 hG3 hb3)
    go_ret
    refine ⟨⟨w.heap.size, sz, by rw [hrl.out]; rfl, ?_, Nat.le_refl _⟩, hb3⟩
    have hq : BlkG w3 w.heap.size 5 ((natI R).map (Value.int .u8)) := by
      have := hG3.out
      rw [hsp.out] at this
      exact this
    intro j hj
    exact ⟨_, _, rfl, by rw [Nat.zero_add, hq.cell j (by simpa using hj)]; simp⟩
  · have hE : cs.length = i + 1 := by omega
    rw [hE, Nat.sub_self] at hBl
    have hC0 : Hid (C.length = 0) := Lib.hid (by rw [hBl.out]; exact Nat.zero_min _)
    clear hA hltI hBg h2
    rw [hE] at hcp1 ⊢
    clear hE hlt hcl
    have hA3 : (i : Int) + 1 ≤ c := by omega
    by_cases hc' : i + 1 < c
    · have hA2 : (i : Int) + 1 < c := by omega
      go_enter Tryd.func48, Tryd.ntmps48
      go_wp2_with (go_at_call 53; refine hinf.out.mono ?_; rintro e w1 ⟨rfl, rfl⟩)
      rw [hmk.out]
      have hB0 : Hid (BlkG (w.alloc (.cells ((List.replicate sz (0 : Int)).map (Value.int .u8)).toArray 5)) w.heap.size 5 ((List.replicate sz (0 : Int)).map (Value.int .u8))) := Lib.hid (BlkG.new w _ _)
      have hb0 : Hid (Below w.heap.size w (w.alloc (.cells ((List.replicate sz (0 : Int)).map (Value.int .u8)).toArray 5))) := Lib.hid (xalloc (xrefl w) _)
      generalize w.alloc (.cells ((List.replicate sz (0 : Int)).map (Value.int .u8)).toArray 5) = w2 at hB0 hb0 ⊢
      clear hmk hinf
      go_wp2_with (refine wpList_copy_splice rfl _ _ 22 22 rfl 5 Tryd.underlying22 (by kernel_rfl) (some ⟨w.heap.size, 0, none⟩) _ sz sz 0 _ rfl rfl w.heap.size 0 _ 5 hB0.out C hBl.out (fun hp => by have := hC0.out; omega) (by rw [List.length_map, List.length_replicate]; omega) hone.out w.heap.size w hb0.out (Nat.le_refl _) ?_; intro w3 hG3 hb3)
      go_ret
      refine ⟨⟨w.heap.size, sz, by rw [hrl.out]; rfl, ?_, Nat.le_refl _⟩, hb3⟩
      have hq : BlkG w3 w.heap.size 5 ((natI R).map (Value.int .u8)) := by
        have := hG3.out
        rw [hsp.out] at this
        exact this
      intro j hj
      exact ⟨_, _, rfl, by rw [Nat.zero_add, hq.cell j (by simpa using hj)]; simp⟩
    · obtain rfl : c = i + 1 := by omega
      clear hA3 hc' hcp1
      go_enter Tryd.func48, Tryd.ntmps48
      go_wp2_with (go_at_call 53; refine hinf.out.mono ?_; rintro e w1 ⟨rfl, rfl⟩)
      rw [hmk.out]
      have hB0 : Hid (BlkG (w.alloc (.cells ((List.replicate sz (0 : Int)).map (Value.int .u8)).toArray 5)) w.heap.size 5 ((List.replicate sz (0 : Int)).map (Value.int .u8))) := Lib.hid (BlkG.new w _ _)
      have hb0 : Hid (Below w.heap.size w (w.alloc (.cells ((List.replicate sz (0 : Int)).map (Value.int .u8)).toArray 5))) := Lib.hid (xalloc (xrefl w) _)
      generalize w.alloc (.cells ((List.replicate sz (0 : Int)).map (Value.int .u8)).toArray 5) = w2 at hB0 hb0 ⊢
      clear hmk hinf
      go_wp2_with (refine wpList_copy_splice rfl _ _ 22 22 rfl 5 Tryd.underlying22 (by kernel_rfl) (some ⟨w.heap.size, 0, none⟩) _ sz sz 0 _ rfl rfl w.heap.size 0 _ 5 hB0.out C hBl.out (fun hp => by have := hC0.out; omega) (by rw [List.length_map, List.length_replicate]; omega) hone.out w.heap.size w hb0.out (Nat.le_refl _) ?_; intro w3 hG3 hb3)
      go_ret
      refine ⟨⟨w.heap.size, sz, by rw [hrl.out]; rfl, ?_, Nat.le_refl _⟩, hb3⟩
      have hq : BlkG w3 w.heap.size 5 ((natI R).map (Value.int .u8)) := by
        have := hG3.out
        rw [hsp.out] at this
        exact this
      intro j hj
      exact ⟨_, _, rfl, by rw [Nat.zero_add, hq.cell j (by simpa using hj)]; simp⟩
end Go.Proofs.YtijkdabmegbcjaaDoor
