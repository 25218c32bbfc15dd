/- Texts of this claim, merged; no condition. -/
import Derived.Test.YthpallkphamobaaGreatDoorE20
set_option linter.all false
namespace Go.Proofs.YthpallkphamobaaGreatDoor
open Go.RowKit Go.Shelf

theorem numN_byte : ∀ (r : List Nat) (i : Nat), (∀ x ∈ r, x < 256) → byteAt (numN r.reverse) i = r.getD i 0
  | [], i, _ => by simp [numN, byteAt]
  | b :: r, 0, h => by
    have := h b (by simp)
    rw [List.reverse_cons, numN_snoc]
    unfold byteAt
    simp
    omega
  | b :: r, i + 1, h => by
    have hb := h b (by simp)
    rw [List.reverse_cons, numN_snoc]
    have e : byteAt (numN r.reverse * 256 + b) (i + 1) = byteAt (numN r.reverse) i := by
      unfold byteAt
      rw [Nat.pow_succ, Nat.mul_comm (256 ^ i), ← Nat.div_div_eq_div_mul]
      congr 2
      omega
    rw [e, numN_byte r i fun x hx => h x (by simp [hx])]
    simp
/-- The bytes read so far, at their places. -/
def readL (l : List Nat) (k : Nat) : List Int := (List.range 32).map fun j => if 32 ≤ j + l.length ∧ j + l.length < 32 + k then ((l.getD (j + l.length - 32) 0 : Nat) : Int) else 0
theorem readL_len (l : List Nat) (k : Nat) : (readL l k).length = 32 := by simp [readL]
theorem readL_zero (l : List Nat) : readL l 0 = List.replicate 32 0 := by
  apply List.ext_getElem
  · simp [readL]
  · intro i h1 h2
    rw [List.getElem_replicate]
    simp only [readL, List.getElem_map, List.getElem_range]
    rw [if_neg (by omega)]
theorem readL_set (l : List Nat) (k : Nat) (hl : l.length ≤ 32) (hk : k < l.length) : (readL l k).set (32 - l.length + k) (l[k] : Int) = readL l (k + 1) := by
  apply List.ext_getElem
  · simp [readL]
  · intro i h1 h2
    simp [readL] at h1
    rw [List.getElem_set]
    simp only [readL, List.getElem_map, List.getElem_range]
    by_cases e : 32 - l.length + k = i
    · rw [if_pos e, if_pos (by omega)]
      rw [show i + l.length - 32 = k by omega, List.getD_eq_getElem?_getD, List.getElem?_eq_getElem hk]; rfl
    · rw [if_neg e]
      by_cases h3 : 32 ≤ i + l.length ∧ i + l.length < 32 + k
      · rw [if_pos h3, if_pos (by omega)]
      · rw [if_neg h3, if_neg (by omega)]
theorem readL_all (l : List Nat) (hl : l.length ≤ 32) (h : ∀ x ∈ l, x < 256) : readL l l.length = bytesL (numN l) := by
  apply List.ext_getElem
  · simp [readL, bytesL]
  · intro j h1 h2
    have hj : j < 32 := by simpa [readL] using h1
    have e := numN_byte l.reverse (31 - j) (by simpa using h)
    rw [List.reverse_reverse] at e
    rw [bytesL_get, e]
    simp only [readL, List.getElem_map, List.getElem_range, List.getD_eq_getElem?_getD]
    by_cases hc : 32 ≤ j + l.length
    · rw [if_pos (by omega), List.getElem?_reverse (by omega), show l.length - 1 - (31 - j) = j + l.length - 32 by omega]
    · rw [if_neg (by omega), List.getElem?_eq_none (by simp; omega)]
      rfl
theorem or_top (x y s : Nat) (hx : x % 2 ^ (s + 8) = 0) (hy : y < 256) (hx6 : x < 18446744073709551616) (hy6 : y * 2 ^ s < 18446744073709551616) : bits .or .u64 (x : Int) (IntKind.u64.wrap ((y : Int) * 2 ^ s)) = ((x + y * 2 ^ s : Nat) : Int) := by
  have e : ((y : Int) * 2 ^ s) = ((y * 2 ^ s : Nat) : Int) := by simp
  have w64 : ∀ n : Nat, n < 18446744073709551616 → IntKind.u64.wrap (n : Int) = n := by
    intro n hn
    simp [IntKind.wrap, IntKind.bits, IntKind.signed]; omega
  have o : ∀ n : Nat, BitVec.ofInt 64 (n : Int) = BitVec.ofNat 64 n := fun n => BitVec.ofInt_natCast 64 n
  have hys : y * 2 ^ s < 2 ^ (s + 8) := by
    rw [Nat.pow_add, Nat.mul_comm (2 ^ s)]
    exact Nat.mul_lt_mul_of_pos_right hy (Nat.two_pow_pos s)
  have hs : (x ||| y * 2 ^ s) = x + y * 2 ^ s := by
    obtain ⟨q, hq⟩ := Nat.dvd_of_mod_eq_zero hx
    rw [hq, ← Nat.two_pow_add_eq_or_of_lt hys q]
  have hlt : (x ||| y * 2 ^ s) < 2 ^ 64 := Nat.or_lt_two_pow (by simpa using hx6) (by simpa using hy6)
  rw [e, w64 _ hy6]
  show IntKind.u64.wrap (((BitVec.ofInt 64 (x : Int)) ||| (BitVec.ofInt 64 ((y * 2 ^ s : Nat) : Int))).toNat : Int) = _
  rw [o, o, BitVec.toNat_or, BitVec.toNat_ofNat, BitVec.toNat_ofNat, Nat.mod_eq_of_lt (by simpa using hx6), Nat.mod_eq_of_lt (by simpa using hy6), w64 _ (by simpa using hlt), hs]
def topN (N k : Nat) : Nat := 256 ^ k * (N / 256 ^ k)
set_option maxHeartbeats 4000000 in
theorem top_set (q b k : Nat) (hb : b < 256) (h : k < 32) : (wordL (256 ^ (k + 1) * q)).set (k / 8) ((limb (256 ^ (k + 1) * q) (k / 8) + b * 2 ^ (8 * (k % 8)) : Nat) : Int) = wordL (256 ^ (k + 1) * q + b * 256 ^ k) := by
  rcases cases32 k h with rfl | rfl | rfl | rfl | rfl | rfl | rfl | rfl | rfl | rfl | rfl | rfl | rfl | rfl | rfl | rfl | rfl | rfl | rfl | rfl | rfl | rfl | rfl | rfl | rfl | rfl | rfl | rfl | rfl | rfl | rfl | rfl <;> simp [wordL, limb] <;> omega
theorem topN_step (N k : Nat) : topN N (k + 1) + byteAt N k * 256 ^ k = topN N k := by
  unfold topN byteAt
  have h1 := Nat.div_add_mod (N / 256 ^ k) 256
  rw [Nat.div_div_eq_div_mul, ← Nat.pow_succ] at h1
  have h2 : 256 ^ (k + 1) * (N / 256 ^ (k + 1)) = 256 ^ k * (256 * (N / 256 ^ (k + 1))) := by rw [Nat.pow_succ, Nat.mul_assoc]
  rw [h2, Nat.mul_comm (N / 256 ^ k % 256), ← Nat.mul_add, h1]
theorem topTo_succ (N k : Nat) (h : k < 32) : (wordL (topN N (k + 1))).set (k / 8) ((limb (topN N (k + 1)) (k / 8) + byteAt N k * 2 ^ (8 * (k % 8)) : Nat) : Int) = wordL (topN N k) := by
  rw [← topN_step N k]
  exact top_set _ _ k (byteAt_lt N k) h
set_option maxHeartbeats 4000000 in
theorem limb_q (q k : Nat) (h : k < 32) : limb (256 ^ (k + 1) * q) (k / 8) % 2 ^ (8 * (k % 8) + 8) = 0 := by
  rcases cases32 k h with rfl | rfl | rfl | rfl | rfl | rfl | rfl | rfl | rfl | rfl | rfl | rfl | rfl | rfl | rfl | rfl | rfl | rfl | rfl | rfl | rfl | rfl | rfl | rfl | rfl | rfl | rfl | rfl | rfl | rfl | rfl | rfl <;> simp [limb] <;> omega
theorem limb_top (N k : Nat) (h : k < 32) : limb (topN N (k + 1)) (k / 8) % 2 ^ (8 * (k % 8) + 8) = 0 := limb_q _ k h
theorem topN_zero (N : Nat) : topN N 0 = N := by unfold topN; simp
theorem topN_all {N k : Nat} (h : N < 256 ^ k) : topN N k = 0 := by unfold topN; rw [Nat.div_eq_of_lt h, Nat.mul_zero]
theorem numN_at (l : List Nat) (h256 : ∀ x ∈ l, x < 256) (i : Nat) (hi : i < l.length) : byteAt (numN l) (l.length - 1 - i) = l[i] := by
  have := numN_byte l.reverse (l.length - 1 - i) (fun x hx => h256 x (List.mem_reverse.1 hx))
  rw [List.reverse_reverse] at this
  rw [this, List.getD_eq_getElem?_getD, List.getElem?_eq_getElem (by rw [List.length_reverse]; omega), Option.getD_some, List.getElem_reverse]
  congr 1
  omega
set_option maxRecDepth 100000 in
set_option maxHeartbeats 4000000 in
theorem read_any (l : List Nat) (a : Option Addr) (c : Nat) (w : World) (h : RowAt .u8 w a (natI l)) (hl : l.length ≤ 32) (h256 : ∀ x ∈ l, x < 256) :
    Calls Tryz.prog 54 #[.slice a l.length c] w fun e w' => e = .returned (.tuple #[wordV (numN l), .int .i64 0]) ∧ Below w.heap.size w w' := by
  have hB0 : Hid (Blk .u64 (w.alloc (.cells #[.int .u64 0, .int .u64 0, .int .u64 0, .int .u64 0] 43)) w.heap.size 43 (wordL (topN (numN l) l.length))) := Lib.hid (by
    rw [topN_all (numN_lt l h256)]
    exact Blk.new w 43 [0, 0, 0, 0])
  have hb0 : Hid (Below w.heap.size w (w.alloc (.cells #[.int .u64 0, .int .u64 0, .int .u64 0, .int .u64 0] 43))) := Lib.hid (xalloc (xrefl _) _)
  have hat := Lib.hid fun i hi => numN_at l h256 i hi
  have hlI : (l.length : Int) ≤ 32 := by omega
  have h2 := Lib.hid h
  have hu := Tryz.underlying43
  generalize numN l = N at *
  clear h h256
  go_enter Tryz.func54, Tryz.ntmps54
  go_wp2
  go_loopw [13] (fun iv wr => ∃ i : Nat, i ≤ l.length ∧ iv = .int .i64 i ∧ Hid (Blk .u64 wr w.heap.size 43 (wordL (topN N (l.length - i)))) ∧ Hid (Below w.heap.size w wr)) (fun iv _ => l.length - (intOf iv).toNat)
  case atStart => exact ⟨0, by omega, rfl, hB0, hb0⟩
  case round =>
    clear hB0 hb0
    obtain ⟨i, hi, rfl, hB, hb⟩ := hrel
    by_cases hlt : i < l.length
    · have hltI : (i : Int) < l.length := by omega
      obtain ⟨b, o, rfl, hc⟩ := h2.out i (by rw [natI_len]; exact hlt)
      rw [natI_get] at hc
      have hb4 : b < w.heap.size := cell_lt hc
      have hcr : wr.cell? ⟨b, o + i, none⟩ = some (.int .u8 (l[i] : Int)) := (hb.out.cell (p := ⟨b, o + i, none⟩) hb4).trans hc
      obtain ⟨k, hk⟩ : ∃ k, k = l.length - 1 - i := ⟨_, rfl⟩
      have hk32 : k < 32 := by omega
      have hkk : (l.length : Int) - 1 - (i : Int) = (k : Int) := by omega
      have hby := hat.out i hlt
      rw [← hk] at hby
      have hB' := hB.out
      rw [show l.length - i = k + 1 by omega] at hB'
      have hc1 := hB'.cell (k / 8) (by show k / 8 < 4; omega)
      rw [wordL_get] at hc1
      have hf1 := hB'.frozen (k / 8)
      have hx := limb_lt (topN N (k + 1)) (k / 8)
      have hx2 := Lib.hid (limb_top N k hk32)
      have hy2 := Lib.hid (byte_small N k)
      have hy := byteAt_lt N k
      have hst := Lib.hid (topTo_succ N k hk32)
      rw [hby] at hy2 hst hy
      replace hB' := Lib.hid hB'
      replace hby := Lib.hid hby
      have hkn : Hid (l.length - (i + 1) = k) := Lib.hid (by omega)
      replace hk := Lib.hid hk
      generalize limb (topN N (k + 1)) (k / 8) = x at hc1 hx hx2 hst
      generalize l[i] = y at *
      clear hc hB
      go_wp2
      go_region
      rw [or_top x y _ hx2.out hy hx hy2.out]
      go_wp2
      refine ⟨⟨i + 1, by omega, by go_num, Lib.hid ?_, Lib.hid (xdrew (xsetb hb.out (Nat.le_refl _) _))⟩, by simp [intOf]; omega⟩
      have := hB'.out.set (k / 8) ((x + y * 2 ^ (8 * (k % 8)) : Nat) : Int)
      rw [hst.out] at this
      rw [hkn.out]
      exact this
    · obtain rfl : i = l.length := by omega
      rw [Nat.sub_self, topN_zero] at hB
      clear hlt
      have hG : Hid (BlkG wr w.heap.size 43 ((wordL N).map (Value.int .u64))) := Lib.hid hB.out
      go_wp2_with (first
        | (refine wpList_load_blkG rfl 43 _ rfl w.heap.size rfl 43 _ _ hG.out hu rfl (by kernel_rfl) ?_)
        | (refine wpList_store_blkG rfl 43 _ _ rfl w.heap.size rfl 43 _ ((wordL N).map (Value.int .u64)) hG.out rfl rfl (by kernel_rfl) rfl ?_; intro w2 hG2 ho2; replace hG2 := Lib.hid hG2; replace ho2 := Lib.hid ho2))
      refine bodyPost_ret (results_blkG2 (p := 2) rfl _ _ w.heap.size 43 _ _ rfl hG2.out hu rfl (by kernel_rfl)) rfl ⟨rfl, ?_⟩
      exact ho2.out.below hb.out hb.out.size (by rintro k rfl; exact Nat.le_refl _)
set_option maxRecDepth 100000 in
set_option maxHeartbeats 1000000 in
theorem refRead_any (l : List Nat) (a : Option Addr) (c : Nat) (w : World) (h : RowAt .u8 w a (natI l)) (hl : l.length ≤ 32) (h256 : ∀ x ∈ l, x < 256) :
    Calls Tryz.prog 55 #[.slice a l.length c] w fun e w' => e = .returned (.tuple #[wordV (numN l), .int .i64 0]) ∧ Below w.heap.size w w' := by
  have hlI : (l.length : Int) ≤ 32 := by omega
  have hall := Lib.hid (readL_all l hl h256)
  have hset := Lib.hid (readL_set l)
  have hz := Lib.hid (readL_zero l)
  replace h := Lib.hid h
  replace h256 := Lib.hid h256
  go_enter Tryz.func55, Tryz.ntmps55
  go_wp2
  go_loopw [5] (fun i wr => ∃ k : Nat, k ≤ l.length ∧ i = .int .i64 k ∧ Hid (Blk .u64 wr w.heap.size 43 [0, 0, 0, 0]) ∧ Hid (Blk .u8 wr (w.heap.size + 1) 108 (readL l k)) ∧ Hid (Below w.heap.size w wr)) (fun i _ => 32 - (intOf i).toNat)
  case atStart => exact ⟨0, by omega, rfl, Lib.hid ((Blk.new w _ [0, 0, 0, 0]).alloc _), Lib.hid (by rw [hz.out]; exact Blk.new' (w.alloc _) (w.heap.size + 1) _ (List.replicate 32 0) (World.size_alloc _ _).symm), Lib.hid (xalloc (xalloc (xrefl _) _) _)⟩
  case round =>
    obtain ⟨k, hk, rfl, hR, hB, hb⟩ := hrel
    by_cases hlt : k < l.length
    · have hlt2 : (k : Int) < l.length := by omega
      obtain ⟨b, o, rfl, hc⟩ := (h.out.below hb.out) k (by rw [natI_len]; exact hlt)
      rw [natI_get] at hc
      have h1 := Lib.hid (hset.out k hl hlt)
      have ej : (32 : Int) - (l.length : Int) + (k : Int) = ((32 - l.length + k : Nat) : Int) := by omega
      have hj : 32 - l.length + k < 32 := by omega
      have hc2 := hB.out.cell (32 - l.length + k) (by rw [readL_len]; exact hj)
      have hf2 := hB.out.frozen (32 - l.length + k)
      have hS := hB.out.set (32 - l.length + k) (l[k] : Int)
      rw [h1.out] at hS
      have hR2 := hR.out.oth (c := w.heap.size + 1) (i := 32 - l.length + k) (.int .u8 (l[k] : Int)) (by omega)
      have hb2 := xsetb hb.out (c := w.heap.size + 1) (i := 32 - l.length + k) (by omega) (.int .u8 (l[k] : Int))
      have hx : l[k] < 256 := h256.out _ (List.getElem_mem hlt)
      replace hS := Lib.hid hS
      replace hR2 := Lib.hid hR2
      replace hb2 := Lib.hid hb2
      generalize l[k] = x at *
      generalize 32 - l.length + k = j at *
      generalize (readL l k)[j]'_ = y at *
      clear hB hR hb h1
      go_wp2
      exact ⟨⟨k + 1, by omega, rfl, hR2, hS, hb2⟩, by simp [intOf]; omega⟩
    · obtain rfl : k = l.length := by omega
      rw [hall.out] at hB
      clear hlt
      have hfrom := Lib.hid (refFrom_any (numN l))
      go_wp2_with (first
        | (refine wpList_load_blk rfl 108 _ rfl (w.heap.size + 1) rfl .u8 108 (bytesL (numN l)) _ _ hB.out Tryz.underlying108 (by rw [show (bytesL (numN l)).length = 32 by simp [bytesL]]; kernel_rfl) ?_)
        | (go_at_call 94; refine (hfrom.out _).mono ?_; rintro e w5 ⟨rfl, hb5⟩; have hR5 := Lib.hid (hR.out.below hb5))
        | (refine wpList_store_blk rfl 43 _ _ rfl w.heap.size rfl .u64 43 [0, 0, 0, 0] (wordL (numN l)) hR5.out rfl rfl (by kernel_rfl) ?_; intro w6 hB6 ho6))
      refine bodyPost_ret (results_blkG2 (p := 2) rfl _ _ w.heap.size 43 ((wordL (numN l)).map (Value.int .u64)) _ rfl hB6 Tryz.underlying43 rfl (by kernel_rfl)) rfl ⟨rfl, ?_⟩
      exact ho6.below (xtrans hb.out hb5) (Nat.le_trans hb.out.size hb5.size) (by rintro i rfl; omega)
end Go.Proofs.YthpallkphamobaaGreatDoor
namespace Go.Proofs.YthpallkphamobaaGreatDoor
open Go.RowKit Go.Shelf

set_option maxRecDepth 100000 in
set_option maxHeartbeats 4000000 in
theorem word_any (a : List Nat) (ha : Adr a) (w : World) :
    Calls Tryz.prog 24 #[adrV a] w fun e w' => e = .returned (wordV (numN a)) ∧ Below w.heap.size w w' := by
  have hA : BlkG ((w.alloc (.cells (adrC a).toArray 29)).alloc (.cells #[.int .u64 0, .int .u64 0, .int .u64 0, .int .u64 0] 43)) w.heap.size 29 (adrC a) := (BlkG.new w _ _).alloc _
  have hW : BlkG ((w.alloc (.cells (adrC a).toArray 29)).alloc (.cells #[.int .u64 0, .int .u64 0, .int .u64 0, .int .u64 0] 43)) (w.heap.size + 1) 43 [.int .u64 0, .int .u64 0, .int .u64 0, .int .u64 0] := by
    have := BlkG.new (w.alloc (.cells (adrC a).toArray 29)) 43 [.int .u64 0, .int .u64 0, .int .u64 0, .int .u64 0]
    rwa [World.size_alloc] at this
  have hb0 : Below w.heap.size w ((w.alloc (.cells (adrC a).toArray 29)).alloc (.cells #[.int .u64 0, .int .u64 0, .int .u64 0, .int .u64 0] 43)) := xalloc (xalloc (xrefl w) _) _
  have hrow : RowAt .u8 ((w.alloc (.cells (adrC a).toArray 29)).alloc (.cells #[.int .u64 0, .int .u64 0, .int .u64 0, .int .u64 0] 43)) (some ⟨w.heap.size, 0, none⟩) (natI a) := fun i hi => by
    have hi2 : i < a.length := by rw [natI_len] at hi; exact hi
    refine ⟨_, _, rfl, ?_⟩
    have := blk_cell hA (i := i) (v := .int .u8 (natI a)[i]) (by unfold adrC; rw [List.getElem?_map, List.getElem?_eq_getElem hi]; rfl)
    simpa using this
  have hrd := read_any a (some ⟨w.heap.size, 0, none⟩) 20 _ hrow (by rw [ha.len]; omega) ha.ok
  rw [ha.len] at hrd
  have hsl : (wordV (numN a)) = .agg ((wordL (numN a)).map (Value.int .u64)).toArray := rfl
  have hu := Tryz.underlying43
  rw [hsl] at hrd ⊢
  have hone : ((wordL (numN a)).map (Value.int .u64)).all (·.oneCell') = true := rfl
  have hlen : ((wordL (numN a)).map (Value.int .u64)).length = 4 := rfl
  generalize (wordL (numN a)).map (Value.int .u64) = ws at *
  have hsz : (adrC a).length = 20 := by rw [adrC_len, ha.len]
  replace hrd := Lib.hid hrd
  replace hW := Lib.hid hW
  replace hb0 := Lib.hid hb0
  unfold adrV
  clear hA hrow hsl ha
  go_enter Tryz.func24, Tryz.ntmps24
  go_wp2_with (first
    | (go_at_call 54; refine hrd.out.mono ?_; rintro e w2 ⟨rfl, hb2⟩; have hW2 := Lib.hid (hW.out.below hb2); have hsz2 := hb2.size; rw [World.size_alloc, World.size_alloc] at hsz2; replace hb2 := Lib.hid (xtrans hb0.out hb2))
    | (refine wpList_store_blkG rfl 43 _ _ rfl w2.heap.size rfl 43 [.int .u64 0, .int .u64 0, .int .u64 0, .int .u64 0] ws (BlkG.new w2 _ _) rfl (by rw [hlen]; rfl) (by rw [hlen]; kernel_rfl) hone ?_; intro w3 hB3 ho3; have hW3 := Lib.hid ((hW2.out.alloc _).only ho3 (by omega)); have hb3 := Lib.hid (xtrans hb2.out (ho3.below (xalloc (xrefl w2) _) (xalloc (xrefl w2) (.cells #[.int .u64 0, .int .u64 0, .int .u64 0, .int .u64 0] 43)).size (by rintro k rfl; exact Nat.le_refl _))); replace hB3 := Lib.hid hB3; clear ho3)
    | (refine wpList_load_blkG rfl 43 _ rfl w2.heap.size rfl 43 _ _ hB3.out hu rfl (by rw [hlen]; kernel_rfl) ?_)
    | (refine wpList_store_blkG rfl 43 _ _ rfl (w.heap.size + 1) rfl 43 [.int .u64 0, .int .u64 0, .int .u64 0, .int .u64 0] ws hW3.out rfl (by rw [hlen]; rfl) (by rw [hlen]; kernel_rfl) hone ?_; intro w4 hB4 ho4; have hb4 := Lib.hid (ho4.below hb3.out hb3.out.size (by rintro k rfl; omega)); replace hB4 := Lib.hid hB4; clear ho4))
  exact bodyPost_ret (results_blkG (p := 2) rfl _ _ (w.heap.size + 1) 43 _ _ rfl hB4.out hu rfl (by rw [hlen]; kernel_rfl)) rfl ⟨rfl, hb4.out⟩
set_option maxRecDepth 100000 in
set_option maxHeartbeats 4000000 in
theorem refWord_any (a : List Nat) (ha : Adr a) (w : World) :
    Calls Tryz.prog 25 #[adrV a] w fun e w' => e = .returned (wordV (numN a)) ∧ Below w.heap.size w w' := by
  have hA : BlkG ((w.alloc (.cells (adrC a).toArray 29)).alloc (.cells #[.int .u64 0, .int .u64 0, .int .u64 0, .int .u64 0] 43)) w.heap.size 29 (adrC a) := (BlkG.new w _ _).alloc _
  have hW : BlkG ((w.alloc (.cells (adrC a).toArray 29)).alloc (.cells #[.int .u64 0, .int .u64 0, .int .u64 0, .int .u64 0] 43)) (w.heap.size + 1) 43 [.int .u64 0, .int .u64 0, .int .u64 0, .int .u64 0] := by
    have := BlkG.new (w.alloc (.cells (adrC a).toArray 29)) 43 [.int .u64 0, .int .u64 0, .int .u64 0, .int .u64 0]
    rwa [World.size_alloc] at this
  have hb0 : Below w.heap.size w ((w.alloc (.cells (adrC a).toArray 29)).alloc (.cells #[.int .u64 0, .int .u64 0, .int .u64 0, .int .u64 0] 43)) := xalloc (xalloc (xrefl w) _) _
  have hrow : RowAt .u8 ((w.alloc (.cells (adrC a).toArray 29)).alloc (.cells #[.int .u64 0, .int .u64 0, .int .u64 0, .int .u64 0] 43)) (some ⟨w.heap.size, 0, none⟩) (natI a) := fun i hi => by
    have hi2 : i < a.length := by rw [natI_len] at hi; exact hi
    refine ⟨_, _, rfl, ?_⟩
    have := blk_cell hA (i := i) (v := .int .u8 (natI a)[i]) (by unfold adrC; rw [List.getElem?_map, List.getElem?_eq_getElem hi]; rfl)
    simpa using this
  have hrd := refRead_any a (some ⟨w.heap.size, 0, none⟩) 20 _ hrow (by rw [ha.len]; omega) ha.ok
  rw [ha.len] at hrd
  have hsl : (wordV (numN a)) = .agg ((wordL (numN a)).map (Value.int .u64)).toArray := rfl
  have hu := Tryz.underlying43
  rw [hsl] at hrd ⊢
  have hone : ((wordL (numN a)).map (Value.int .u64)).all (·.oneCell') = true := rfl
  have hlen : ((wordL (numN a)).map (Value.int .u64)).length = 4 := rfl
  generalize (wordL (numN a)).map (Value.int .u64) = ws at *
  have hsz : (adrC a).length = 20 := by rw [adrC_len, ha.len]
  replace hrd := Lib.hid hrd
  replace hW := Lib.hid hW
  replace hb0 := Lib.hid hb0
  unfold adrV
  clear hA hrow hsl ha
  go_enter Tryz.func25, Tryz.ntmps25
  go_wp2_with (first
    | (go_at_call 55; refine hrd.out.mono ?_; rintro e w2 ⟨rfl, hb2⟩; have hW2 := Lib.hid (hW.out.below hb2); have hsz2 := hb2.size; rw [World.size_alloc, World.size_alloc] at hsz2; replace hb2 := Lib.hid (xtrans hb0.out hb2))
    | (refine wpList_store_blkG rfl 43 _ _ rfl w2.heap.size rfl 43 [.int .u64 0, .int .u64 0, .int .u64 0, .int .u64 0] ws (BlkG.new w2 _ _) rfl (by rw [hlen]; rfl) (by rw [hlen]; kernel_rfl) hone ?_; intro w3 hB3 ho3; have hW3 := Lib.hid ((hW2.out.alloc _).only ho3 (by omega)); have hb3 := Lib.hid (xtrans hb2.out (ho3.below (xalloc (xrefl w2) _) (xalloc (xrefl w2) (.cells #[.int .u64 0, .int .u64 0, .int .u64 0, .int .u64 0] 43)).size (by rintro k rfl; exact Nat.le_refl _))); replace hB3 := Lib.hid hB3; clear ho3)
    | (refine wpList_load_blkG rfl 43 _ rfl w2.heap.size rfl 43 _ _ hB3.out hu rfl (by rw [hlen]; kernel_rfl) ?_)
    | (refine wpList_store_blkG rfl 43 _ _ rfl (w.heap.size + 1) rfl 43 [.int .u64 0, .int .u64 0, .int .u64 0, .int .u64 0] ws hW3.out rfl (by rw [hlen]; rfl) (by rw [hlen]; kernel_rfl) hone ?_; intro w4 hB4 ho4; have hb4 := Lib.hid (ho4.below hb3.out hb3.out.size (by rintro k rfl; omega)); replace hB4 := Lib.hid hB4; clear ho4))
  exact bodyPost_ret (results_blkG (p := 2) rfl _ _ (w.heap.size + 1) 43 _ _ rfl hB4.out hu rfl (by rw [hlen]; kernel_rfl)) rfl ⟨rfl, hb4.out⟩
end Go.Proofs.YthpallkphamobaaGreatDoor
namespace Go.Proofs.YthpallkphamobaaGreatDoor
open Go.RowKit Go.Shelf

/-- The address of a word: its last 20 bytes. -/
def ofN (N : Nat) : List Nat := (List.range 20).map fun j => byteAt N (19 - j)
theorem ofN_len (N : Nat) : (ofN N).length = 20 := by simp [ofN]
theorem ofN_get (N k : Nat) (h : k < 20) : (ofN N)[k]'(by rw [ofN_len]; exact h) = byteAt N (19 - k) := by simp [ofN]
theorem ofN_adr (N : Nat) : Adr (ofN N) := ⟨ofN_len N, fun b hb => by
  unfold ofN at hb
  obtain ⟨j, _, rfl⟩ := List.mem_map.1 hb
  exact byteAt_lt _ _⟩
theorem bytesL_at (N k : Nat) (h : k < 20) : ((bytesL N).map (Value.int .u8))[12 + k]? = some (.int .u8 (byteAt N (19 - k) : Nat)) := by
  unfold bytesL
  rw [List.getElem?_map, List.getElem?_map, List.getElem?_range (by omega)]
  simp only [Option.map_some]
  rw [show 31 - (12 + k) = 19 - k by omega]
set_option maxRecDepth 100000 in
set_option maxHeartbeats 4000000 in
theorem refOfA_any (N : Nat) (w : World) :
    Calls Tryz.prog 27 #[wordV N] w fun e w' => e = .returned (adrV (ofN N)) ∧ Below w.heap.size w w' := by
  have hby := fun W => refBytes_any N W
  have hl32 : ((bytesL N).map (Value.int .u8)).length = 32 := by simp [bytesL]
  have hone : ((bytesL N).map (Value.int .u8)).all (·.oneCell') = true := by simp [Value.oneCell']
  have hat := Lib.hid fun k h => bytesL_at N k h
  generalize (bytesL N).map (Value.int .u8) = bl at *
  have hput := Lib.hid fun k (hk : k < 20) => adrC_put (ofN N) (ofN_len N) k hk (byteAt N (19 - k)) (ofN_get N k hk)
  have hzer := Lib.hid fun k hk => adrC_zero (ofN N) (ofN_len N) k hk
  have hA20 : (adrC (ofN N)).length = 20 := by rw [adrC_len, ofN_len]
  have hfin : (ofN N).take 20 ++ List.replicate (20 - 20) 0 = ofN N := by rw [List.take_of_length_le (by rw [ofN_len]; exact Nat.le_refl _)]; simp
  have hone2 : (adrC (ofN N)).all (·.oneCell') = true := by simp [adrC, Value.oneCell']
  have hz0 : zAdrC = adrC ((ofN N).take 0 ++ List.replicate (20 - 0) 0) := rfl
  have hBn : ∀ W : World, BlkG (W.alloc (.cells zAdrC.toArray 29)) W.heap.size 29 zAdrC := fun W => BlkG.new W _ _
  have hb0 : Below w.heap.size w (((w.alloc (.cells [.int .u64 (limb N 0), .int .u64 (limb N 1), .int .u64 (limb N 2), .int .u64 (limb N 3)].toArray 43)).alloc (.cells zAdrC.toArray 29)).alloc (.cells zAdrC.toArray 29)) := xalloc (xalloc (xalloc (xrefl w) _) _) _
  have hWd : BlkG (((w.alloc (.cells [.int .u64 (limb N 0), .int .u64 (limb N 1), .int .u64 (limb N 2), .int .u64 (limb N 3)].toArray 43)).alloc (.cells zAdrC.toArray 29)).alloc (.cells zAdrC.toArray 29)) w.heap.size 43 [.int .u64 (limb N 0), .int .u64 (limb N 1), .int .u64 (limb N 2), .int .u64 (limb N 3)] := ((BlkG.new w _ _).alloc _).alloc _
  have hR : BlkG (((w.alloc (.cells [.int .u64 (limb N 0), .int .u64 (limb N 1), .int .u64 (limb N 2), .int .u64 (limb N 3)].toArray 43)).alloc (.cells zAdrC.toArray 29)).alloc (.cells zAdrC.toArray 29)) (w.heap.size + 1) 29 zAdrC := by
    have := (hBn (w.alloc (.cells [.int .u64 (limb N 0), .int .u64 (limb N 1), .int .u64 (limb N 2), .int .u64 (limb N 3)].toArray 43))).alloc (.cells zAdrC.toArray 29)
    rwa [World.size_alloc] at this
  have hr : BlkG (((w.alloc (.cells [.int .u64 (limb N 0), .int .u64 (limb N 1), .int .u64 (limb N 2), .int .u64 (limb N 3)].toArray 43)).alloc (.cells zAdrC.toArray 29)).alloc (.cells zAdrC.toArray 29)) (w.heap.size + 1 + 1) 29 (adrC ((ofN N).take 0 ++ List.replicate (20 - 0) 0)) := by
    have := hBn ((w.alloc (.cells [.int .u64 (limb N 0), .int .u64 (limb N 1), .int .u64 (limb N 2), .int .u64 (limb N 3)].toArray 43)).alloc (.cells zAdrC.toArray 29))
    rwa [World.size_alloc, World.size_alloc] at this
  replace hby := Lib.hid hby
  replace hfin := Lib.hid hfin
  replace hb0 := Lib.hid hb0
  replace hWd := Lib.hid hWd
  replace hR := Lib.hid hR
  replace hr := Lib.hid hr
  unfold adrV wordV at *
  unfold zAdrC at hb0 hWd hR hr
  clear hBn hz0
  go_enter Tryz.func27, Tryz.ntmps27
  go_upto_region 2 with fail
  generalize ((w.alloc (.cells #[.int .u64 (limb N 0), .int .u64 (limb N 1), .int .u64 (limb N 2), .int .u64 (limb N 3)] 43)).alloc (.cells #[.int .u8 0, .int .u8 0, .int .u8 0, .int .u8 0, .int .u8 0, .int .u8 0, .int .u8 0, .int .u8 0, .int .u8 0, .int .u8 0, .int .u8 0, .int .u8 0, .int .u8 0, .int .u8 0, .int .u8 0, .int .u8 0, .int .u8 0, .int .u8 0, .int .u8 0, .int .u8 0] 29)).alloc (.cells #[.int .u8 0, .int .u8 0, .int .u8 0, .int .u8 0, .int .u8 0, .int .u8 0, .int .u8 0, .int .u8 0, .int .u8 0, .int .u8 0, .int .u8 0, .int .u8 0, .int .u8 0, .int .u8 0, .int .u8 0, .int .u8 0, .int .u8 0, .int .u8 0, .int .u8 0, .int .u8 0] 29) = w0 at *
  have hsz0 := hr.out.lt
  go_wp2_with (first
    | (refine wpList_load_blkG rfl 43 _ rfl w.heap.size rfl 43 _ _ hWd.out Tryz.underlying43 rfl (by kernel_rfl) ?_)
    | (go_at_call 57; refine (hby.out _).mono ?_; rintro e w2 ⟨rfl, hb2⟩; have hR2 := Lib.hid (hR.out.below hb2); have hr2 := Lib.hid (hr.out.below hb2); have hsz2 := hb2.size; replace hb2 := Lib.hid (xtrans hb0.out hb2))
    | (refine wpList_store_blkG rfl 108 _ _ rfl w2.heap.size rfl 108 [.int .u8 0, .int .u8 0, .int .u8 0, .int .u8 0, .int .u8 0, .int .u8 0, .int .u8 0, .int .u8 0, .int .u8 0, .int .u8 0, .int .u8 0, .int .u8 0, .int .u8 0, .int .u8 0, .int .u8 0, .int .u8 0, .int .u8 0, .int .u8 0, .int .u8 0, .int .u8 0, .int .u8 0, .int .u8 0, .int .u8 0, .int .u8 0, .int .u8 0, .int .u8 0, .int .u8 0, .int .u8 0, .int .u8 0, .int .u8 0, .int .u8 0, .int .u8 0] bl (BlkG.new w2 _ _) rfl (by rw [hl32]; rfl) (by rw [hl32]; kernel_rfl) hone ?_; intro w3 hL3 ho3; have hR3 := Lib.hid ((hR2.out.alloc _).only ho3 (by omega)); have hr3 := Lib.hid ((hr2.out.alloc _).only ho3 (by omega)); have hb3 := Lib.hid (xtrans hb2.out (ho3.below (xalloc (xrefl w2) _) (xalloc (xrefl w2) (.cells #[.int .u8 0, .int .u8 0, .int .u8 0, .int .u8 0, .int .u8 0, .int .u8 0, .int .u8 0, .int .u8 0, .int .u8 0, .int .u8 0, .int .u8 0, .int .u8 0, .int .u8 0, .int .u8 0, .int .u8 0, .int .u8 0, .int .u8 0, .int .u8 0, .int .u8 0, .int .u8 0, .int .u8 0, .int .u8 0, .int .u8 0, .int .u8 0, .int .u8 0, .int .u8 0, .int .u8 0, .int .u8 0, .int .u8 0, .int .u8 0, .int .u8 0, .int .u8 0] 108)).size (by rintro k rfl; exact Nat.le_refl _))); replace hL3 := Lib.hid hL3; clear ho3))
  have hsz3 : w.heap.size + 1 + 1 < w2.heap.size := by omega
  go_loopw [5] (fun iv wx => ∃ k : Nat, iv = .int .i64 k ∧ k ≤ 20 ∧ Hid (BlkG wx (w.heap.size + 1 + 1) 29 (adrC ((ofN N).take k ++ List.replicate (20 - k) 0))) ∧ Hid (BlkG wx w2.heap.size 108 bl) ∧ Hid (BlkG wx (w.heap.size + 1) 29 [.int .u8 0, .int .u8 0, .int .u8 0, .int .u8 0, .int .u8 0, .int .u8 0, .int .u8 0, .int .u8 0, .int .u8 0, .int .u8 0, .int .u8 0, .int .u8 0, .int .u8 0, .int .u8 0, .int .u8 0, .int .u8 0, .int .u8 0, .int .u8 0, .int .u8 0, .int .u8 0]) ∧ Hid (Below w.heap.size w wx)) (fun iv _ => 20 - (intOf iv).toNat)
  case atStart => exact ⟨0, rfl, by omega, hr3, hL3, hR3, hb3⟩
  case round =>
    clear hR3 hr3 hb3 hL3
    obtain ⟨k, rfl, hk, hBk, hLk, hRk, hb⟩ := hrel
    by_cases hlt : k < 20
    · have hltI : (k : Int) < 20 := by omega
      have c1 := blk_cell hLk.out (hat.out k hlt)
      have c2 := blk_cell hBk.out (hzer.out k hlt)
      have f2 := hBk.out.free k
      have hw : IntKind.i64.wrap (12 + (k : Int)) = ((12 + k : Nat) : Int) := by simp [IntKind.wrap, IntKind.bits, IntKind.signed]; omega
      have hk32 : ((12 + k : Nat) : Int) < 32 := by omega
      have hnx := hput.out k hlt
      generalize byteAt N (19 - k) = z at *
      obtain ⟨j, hj⟩ : ∃ j, j = 12 + k := ⟨_, rfl⟩
      rw [← hj] at c1 hw hk32
      replace hnx := Lib.hid hnx
      clear hj
      go_wp2
      have hB4 := hBk.out.set k (.int .u8 z)
      rw [hnx.out] at hB4
      have ho : Only (· = w.heap.size + 1 + 1) wr (wr.setCell ⟨w.heap.size + 1 + 1, k, none⟩ (.int .u8 z)) := (Only.refl _ _).setCell _ _ rfl
      exact ⟨⟨k + 1, by first | rfl | simp, by omega, Lib.hid hB4, Lib.hid (hLk.out.only ho (by omega)), Lib.hid (hRk.out.only ho (by omega)), Lib.hid (ho.below hb.out hb.out.size (by rintro q rfl; omega))⟩, by simp [intOf]; omega⟩
    · obtain rfl : k = 20 := by omega
      rw [hfin.out] at hBk
      go_wp2_with (first
        | (refine wpList_load_mid rfl 29 _ rfl (w.heap.size + 1 + 1) 0 rfl (adrC (ofN N)) _ (BlkG.range hBk.out) Tryz.underlying29 rfl (by rw [hA20]; kernel_rfl) ?_)
        | (refine wpList_store_blkG rfl 29 _ _ rfl (w.heap.size + 1) rfl 29 [.int .u8 0, .int .u8 0, .int .u8 0, .int .u8 0, .int .u8 0, .int .u8 0, .int .u8 0, .int .u8 0, .int .u8 0, .int .u8 0, .int .u8 0, .int .u8 0, .int .u8 0, .int .u8 0, .int .u8 0, .int .u8 0, .int .u8 0, .int .u8 0, .int .u8 0, .int .u8 0] (adrC (ofN N)) hRk.out rfl (by rw [hA20]; rfl) (by rw [hA20]; kernel_rfl) hone2 ?_; intro w4 hB4 ho4; have hb4 := Lib.hid (ho4.below hb.out (Below.size hb.out) (by rintro q rfl; omega)); replace hB4 := Lib.hid hB4; clear ho4))
      exact bodyPost_ret (results_blkG (p := 2) rfl _ _ (w.heap.size + 1) 29 _ _ rfl hB4.out Tryz.underlying29 rfl (by rw [hA20]; kernel_rfl)) rfl ⟨rfl, hb4.out⟩
end Go.Proofs.YthpallkphamobaaGreatDoor
