/- Layer 24, the document's answer: roots, the numbers of rounds. -/
import Derived.Test.YtfafancacfjodaaRipA
import Derived.Test.YtfafancacfjodaaWordD
import Derived.Test.YtfafancacfjodaaRef23A
namespace Go.Proofs.Ytfafancacfjodaa
open Go.RowKit

def bitN (m : Nat) : Nat := if m = 0 then 0 else 2 ^ (m - 1)
theorem bitN_succ (m : Nat) : bitN (m + 1) = 2 ^ m := by simp [bitN]
theorem hbig2 : 17179869184 * 17179869184 < 2 ^ 256 := by decide +kernel
theorem hbig3 : 17179869184 * 17179869184 * 17179869184 < 2 ^ 256 := by decide +kernel
theorem hbigT : 2 ^ 112 < 2 ^ 256 := by decide +kernel
theorem bitN_half (m : Nat) : 2 ^ m / 2 = bitN m := by
  rcases m with _ | m
  · rfl
  · rw [bitN_succ, Nat.pow_succ]; omega

set_option maxRecDepth 100000 in
set_option maxHeartbeats 1000000 in
theorem refWhole2_any (p : Nat) (w : World) (hp : p < 65536) :
    Calls Try.prog 53 #[.int .u64 p, .int .i64 2] w fun e w' => e = .returned (.int .u64 (wholeN p 2)) ∧ Below w.heap.size w w' := by
  go_enter Try.func53, Try.ntmps53
  have hz : ∀ w2 : World, Blk .u64 (w2.alloc (Obj.cells #[.int .u64 0, .int .u64 0, .int .u64 0, .int .u64 0] 90)) w2.heap.size 90 [0, 0, 0, 0] := fun w2 => Blk.new w2 _ [0, 0, 0, 0]
  replace hz := Lib.hid hz
  go_wp2_with (first
    | (go_at_call 56; refine (refOf_any _ _ (by omega)).mono ?_; rintro e w2 ⟨rfl, hb2⟩)
    | (refine wpList_store_blk rfl 90 _ _ rfl w2.heap.size rfl .u64 90 [0, 0, 0, 0] (wordL p) (hz.out w2) rfl rfl (by kernel_rfl) ?_; intro w3 h3 ho3))
  have hs2 := hb2.size
  have hb3 : Below w.heap.size w w3 := ho3.below (xalloc hb2 _) (by simp; omega) (by rintro i rfl; omega)
  clear ho3 hb2
  generalize w2.heap.size = t at *
  go_loopw [6] (fun iv wx => ∃ i : Nat, i ≤ 60 ∧ iv = .int .i64 i ∧ Blk .u64 wx t 90 (wordL (p * 2 ^ i)) ∧ Below w.heap.size w wx) (fun iv _ => 60 - (intOf iv).toNat)
  case atStart => exact ⟨0, by omega, rfl, by rw [Nat.pow_zero, Nat.mul_one]; exact h3, hb3⟩
  case round =>
    clear h3 hb3
    obtain ⟨i, hi, rfl, hT, hb⟩ := hrel
    by_cases hlt : i < 60
    · go_wp2_with (first
        | (refine wpList_load_blk rfl 90 _ rfl t rfl .u64 90 (wordL (p * 2 ^ i)) _ _ hT Try.underlying90 (by kernel_rfl) ?_)
        | (go_at_call 57; refine (refAdd_any _ _ _).mono ?_; rintro e w4 ⟨rfl, hb4⟩)
        | (refine wpList_store_blk rfl 90 _ _ rfl t rfl .u64 90 (wordL (p * 2 ^ i)) (wordL (p * 2 ^ i + p * 2 ^ i)) (hT.below hb4) rfl rfl (by kernel_rfl) ?_; intro w3 h3 ho3))
      have hbb := hb.trans (hb4.mono hb.size)
      refine ⟨⟨i + 1, by omega, rfl, ?_, ho3.below hbb hbb.size (by rintro i rfl; omega)⟩, by simp [intOf]; omega⟩
      rw [Nat.pow_succ, ← Nat.mul_assoc, Nat.mul_two]; exact h3
    · obtain rfl : i = 60 := by omega
      have hTlt : p * 2 ^ 60 < 2 ^ 112 := by omega
      replace hTlt := Lib.hid hTlt
      have hR : Hid (rootGo (p * 2 ^ 60) 2 34 0 = wholeN p 2) := Lib.hid rfl
      generalize p * 2 ^ 60 = T at hT hTlt hR
      generalize hRr : wholeN p 2 = r at hR
      replace hRr := Lib.hid hRr.symm
      clear hlt
      replace hT := Lib.hid hT
      go_wp2
      go_loopw [7, 8] (fun xv bv wx => ∃ m x : Nat, m ≤ 34 ∧ xv = .int .u64 x ∧ bv = .int .u64 (bitN m) ∧ Hid (x + 2 ^ m ≤ 2 ^ 34) ∧ Hid (rootGo T 2 m x = r) ∧ Blk .u64 wx t 90 (wordL T) ∧ Below w.heap.size w wx) (fun _ bv _ => (intOf bv).toNat)
      case atStart => exact ⟨34, 0, by omega, rfl, rfl, Lib.hid (by decide), hR, hT.out, hb⟩
      case round =>
        clear hR hT hb
        obtain ⟨m, x, hm, rfl, rfl, hx, hR, hT, hb⟩ := hrel
        rcases m with _ | m
        · have hxr : x = r := hR.out
          have hb0 : (bitN 0 : Int) = 0 := rfl
          go_wp2
          go_ret
          exact ⟨by rw [← hRr.out, ← hxr]; rfl, hb⟩
        · rw [bitN_succ]
          have hhalf := bitN_half m
          have hx' := hx.out
          rw [Nat.pow_succ] at hx'
          have hb34 : 2 ^ m < 17179869184 := Nat.pow_lt_pow_right (a := 2) (by decide) (show m < 34 by omega)
          have hpos : 0 < 2 ^ m := Nat.pow_pos (by decide)
          have hyes := Lib.hid (@rootGo_yes T 2 m x r hR.out)
          have hno := Lib.hid (@rootGo_no T 2 m x r hR.out)
          have hxs : Hid (x + 2 ^ m ≤ 2 ^ 34) := Lib.hid (by omega)
          have hxm : Hid (x + 2 ^ m + 2 ^ m ≤ 2 ^ 34) := Lib.hid (by omega)
          clear hx hR
          generalize hbt : 2 ^ m = bt at *
          replace hbt := Lib.hid hbt
          have hb2 : ((bt : Int) / 2) = (bitN m : Int) := by omega
          have hbn : bitN m < bt := by omega
          obtain ⟨y, hy⟩ : ∃ y, y = x + bt := ⟨_, rfl⟩
          have hyI : (x : Int) + (bt : Int) = (y : Int) := by omega
          rw [← hy] at hyes hno hxm
          have hy34 : y ≤ 17179869184 := by omega
          have hp2 : y * y ≤ 17179869184 * 17179869184 := Nat.mul_le_mul hy34 hy34
          have hp3 : y * y * y ≤ 17179869184 * 17179869184 * 17179869184 := Nat.mul_le_mul hp2 hy34
          have hyn : y * y = y ^ 2 := by rw [Nat.pow_two]
          have hpw : y ^ 2 < 2 ^ 256 := by rw [← hyn]; exact Nat.lt_of_le_of_lt hp2 hbig2
          have hTb : T < 2 ^ 256 := Nat.lt_trans hTlt.out hbigT
          clear hp2 hp3 hx'
          replace hpw := Lib.hid hpw
          replace hTb := Lib.hid hTb
          replace hyn := Lib.hid hyn
          replace hhalf := Lib.hid hhalf
          replace hy := Lib.hid hy
          replace hT := Lib.hid hT
          have hyw : y < 18446744073709551616 := by omega
          have hyw2 : IntKind.u64.wrap (y : Int) = y := by rw [IntKind.wrap_u64]; omega
          go_upto_region 11 with (first
            | (go_at_call 56; refine (refOf_any y _ hyw).mono ?_; rintro e w4 ⟨rfl, hb4⟩; first | (have hq := xtrans hq hb4) | (have hq := hb4))
            | (go_at_call 58; refine (refMul_any y y _).mono ?_; rintro e w5 ⟨rfl, hb5⟩)
            | (refine wpList_store_blk rfl 90 _ _ rfl w5.heap.size rfl .u64 90 [0, 0, 0, 0] (wordL (y * y)) (hz.out w5) rfl rfl (by kernel_rfl) ?_; intro w6 h6 ho6))
          have hq5 := xtrans hq hb5
          have hs5 := hq5.size
          have hbs := hb.size
          have hq6 : Below wr.heap.size wr w6 := ho6.below (xalloc hq5 _) (xalloc hq5 _).size (by rintro i rfl; omega)
          have hT6 := hT.out.below hq6
          have hb6 := xtrans hb hq6
          have hyb : w.heap.size ≤ w5.heap.size := by omega
          have hty : t ≠ w5.heap.size := by have := hT.out.lt; omega
          clear hq hb4 hb5 hq5 hs5 ho6 hq6 hT hb
          generalize w5.heap.size = yb at *
          replace hT6 := Lib.hid hT6
          replace h6 := Lib.hid h6
          rw [hyn.out] at h6
          have h7 := h6
          have hT7 := hT6
          have hb7 := hb6
          clear h6 hT6 hb6
          obtain ⟨c, hc⟩ : ∃ c, c = orderOf (y ^ 2) T := ⟨_, rfl⟩
          have hO := fun W => refOrder_any (y ^ 2) T W hpw.out hTb.out
          rw [← hc] at hO
          replace hO := Lib.hid hO
          have hc0 : Hid (c ≤ 0 ↔ y ^ 2 ≤ T) := Lib.hid (by rw [hc]; unfold orderOf; split <;> (try split) <;> omega)
          clear hc
          generalize y ^ 2 = yp at *
          by_cases hle : c ≤ 0
          · have hyes2 := hyes.out (hc0.out.1 hle)
            replace hyes2 := Lib.hid hyes2
            go_wp2_with (first
              | (refine wpList_load_blk rfl 90 _ rfl yb rfl .u64 90 (wordL yp) _ _ h7.out Try.underlying90 (by kernel_rfl) ?_)
              | (refine wpList_load_blk rfl 90 _ rfl t rfl .u64 90 (wordL T) _ _ hT7.out Try.underlying90 (by kernel_rfl) ?_)
              | (go_at_call 59; refine (hO.out _).mono ?_; rintro e w8 ⟨rfl, hb8⟩))
            go_roundw
            case rel => exact ⟨_, _, _, _, _, _, _, _, _, _, _, _, _, _, _, _, _, _, _, _, _, _, _, _, _, _, _, _, _, _, _, ⟨m, y, by omega, rfl, rfl, by rw [hbt.out]; exact hxm, hyes2, hT7.out.below hb8, xtrans hb7 hb8⟩, rfl⟩
            case measure => simp [intOf]; omega
          · have hno2 := hno.out (fun h => hle (hc0.out.2 h))
            replace hno2 := Lib.hid hno2
            go_wp2_with (first
              | (refine wpList_load_blk rfl 90 _ rfl yb rfl .u64 90 (wordL yp) _ _ h7.out Try.underlying90 (by kernel_rfl) ?_)
              | (refine wpList_load_blk rfl 90 _ rfl t rfl .u64 90 (wordL T) _ _ hT7.out Try.underlying90 (by kernel_rfl) ?_)
              | (go_at_call 59; refine (hO.out _).mono ?_; rintro e w8 ⟨rfl, hb8⟩))
            go_roundw
            case rel => exact ⟨_, _, _, _, _, _, _, _, _, _, _, _, _, _, _, _, _, _, _, _, _, _, _, _, _, _, _, _, _, _, _, ⟨m, x, by omega, rfl, rfl, by rw [hbt.out]; exact hxs, hno2, hT7.out.below hb8, xtrans hb7 hb8⟩, rfl⟩
            case measure => simp [intOf]; omega

set_option maxRecDepth 100000 in
set_option maxHeartbeats 1000000 in
theorem refWhole3_any (p : Nat) (w : World) (hp : p < 65536) :
    Calls Try.prog 53 #[.int .u64 p, .int .i64 3] w fun e w' => e = .returned (.int .u64 (wholeN p 3)) ∧ Below w.heap.size w w' := by
  go_enter Try.func53, Try.ntmps53
  have hz : ∀ w2 : World, Blk .u64 (w2.alloc (Obj.cells #[.int .u64 0, .int .u64 0, .int .u64 0, .int .u64 0] 90)) w2.heap.size 90 [0, 0, 0, 0] := fun w2 => Blk.new w2 _ [0, 0, 0, 0]
  replace hz := Lib.hid hz
  go_wp2_with (first
    | (go_at_call 56; refine (refOf_any _ _ (by omega)).mono ?_; rintro e w2 ⟨rfl, hb2⟩)
    | (refine wpList_store_blk rfl 90 _ _ rfl w2.heap.size rfl .u64 90 [0, 0, 0, 0] (wordL p) (hz.out w2) rfl rfl (by kernel_rfl) ?_; intro w3 h3 ho3))
  have hs2 := hb2.size
  have hb3 : Below w.heap.size w w3 := ho3.below (xalloc hb2 _) (by simp; omega) (by rintro i rfl; omega)
  clear ho3 hb2
  generalize w2.heap.size = t at *
  go_loopw [6] (fun iv wx => ∃ i : Nat, i ≤ 90 ∧ iv = .int .i64 i ∧ Blk .u64 wx t 90 (wordL (p * 2 ^ i)) ∧ Below w.heap.size w wx) (fun iv _ => 90 - (intOf iv).toNat)
  case atStart => exact ⟨0, by omega, rfl, by rw [Nat.pow_zero, Nat.mul_one]; exact h3, hb3⟩
  case round =>
    clear h3 hb3
    obtain ⟨i, hi, rfl, hT, hb⟩ := hrel
    by_cases hlt : i < 90
    · go_wp2_with (first
        | (refine wpList_load_blk rfl 90 _ rfl t rfl .u64 90 (wordL (p * 2 ^ i)) _ _ hT Try.underlying90 (by kernel_rfl) ?_)
        | (go_at_call 57; refine (refAdd_any _ _ _).mono ?_; rintro e w4 ⟨rfl, hb4⟩)
        | (refine wpList_store_blk rfl 90 _ _ rfl t rfl .u64 90 (wordL (p * 2 ^ i)) (wordL (p * 2 ^ i + p * 2 ^ i)) (hT.below hb4) rfl rfl (by kernel_rfl) ?_; intro w3 h3 ho3))
      have hbb := hb.trans (hb4.mono hb.size)
      refine ⟨⟨i + 1, by omega, rfl, ?_, ho3.below hbb hbb.size (by rintro i rfl; omega)⟩, by simp [intOf]; omega⟩
      rw [Nat.pow_succ, ← Nat.mul_assoc, Nat.mul_two]; exact h3
    · obtain rfl : i = 90 := by omega
      have hTlt : p * 2 ^ 90 < 2 ^ 112 := by omega
      replace hTlt := Lib.hid hTlt
      have hR : Hid (rootGo (p * 2 ^ 90) 3 34 0 = wholeN p 3) := Lib.hid rfl
      generalize p * 2 ^ 90 = T at hT hTlt hR
      generalize hRr : wholeN p 3 = r at hR
      replace hRr := Lib.hid hRr.symm
      clear hlt
      replace hT := Lib.hid hT
      go_wp2
      go_loopw [7, 8] (fun xv bv wx => ∃ m x : Nat, m ≤ 34 ∧ xv = .int .u64 x ∧ bv = .int .u64 (bitN m) ∧ Hid (x + 2 ^ m ≤ 2 ^ 34) ∧ Hid (rootGo T 3 m x = r) ∧ Blk .u64 wx t 90 (wordL T) ∧ Below w.heap.size w wx) (fun _ bv _ => (intOf bv).toNat)
      case atStart => exact ⟨34, 0, by omega, rfl, rfl, Lib.hid (by decide), hR, hT.out, hb⟩
      case round =>
        clear hR hT hb
        obtain ⟨m, x, hm, rfl, rfl, hx, hR, hT, hb⟩ := hrel
        rcases m with _ | m
        · have hxr : x = r := hR.out
          have hb0 : (bitN 0 : Int) = 0 := rfl
          go_wp2
          go_ret
          exact ⟨by rw [← hRr.out, ← hxr]; rfl, hb⟩
        · rw [bitN_succ]
          have hhalf := bitN_half m
          have hx' := hx.out
          rw [Nat.pow_succ] at hx'
          have hb34 : 2 ^ m < 17179869184 := Nat.pow_lt_pow_right (a := 2) (by decide) (show m < 34 by omega)
          have hpos : 0 < 2 ^ m := Nat.pow_pos (by decide)
          have hyes := Lib.hid (@rootGo_yes T 3 m x r hR.out)
          have hno := Lib.hid (@rootGo_no T 3 m x r hR.out)
          have hxs : Hid (x + 2 ^ m ≤ 2 ^ 34) := Lib.hid (by omega)
          have hxm : Hid (x + 2 ^ m + 2 ^ m ≤ 2 ^ 34) := Lib.hid (by omega)
          clear hx hR
          generalize hbt : 2 ^ m = bt at *
          replace hbt := Lib.hid hbt
          have hb2 : ((bt : Int) / 2) = (bitN m : Int) := by omega
          have hbn : bitN m < bt := by omega
          obtain ⟨y, hy⟩ : ∃ y, y = x + bt := ⟨_, rfl⟩
          have hyI : (x : Int) + (bt : Int) = (y : Int) := by omega
          rw [← hy] at hyes hno hxm
          have hy34 : y ≤ 17179869184 := by omega
          have hp2 : y * y ≤ 17179869184 * 17179869184 := Nat.mul_le_mul hy34 hy34
          have hp3 : y * y * y ≤ 17179869184 * 17179869184 * 17179869184 := Nat.mul_le_mul hp2 hy34
          have hyn : y * y * y = y ^ 3 := by rw [Nat.pow_succ, Nat.pow_two]
          have hpw : y ^ 3 < 2 ^ 256 := by rw [← hyn]; exact Nat.lt_of_le_of_lt hp3 hbig3
          have hTb : T < 2 ^ 256 := Nat.lt_trans hTlt.out hbigT
          clear hp2 hp3 hx'
          replace hpw := Lib.hid hpw
          replace hTb := Lib.hid hTb
          replace hyn := Lib.hid hyn
          replace hhalf := Lib.hid hhalf
          replace hy := Lib.hid hy
          replace hT := Lib.hid hT
          have hyw : y < 18446744073709551616 := by omega
          have hyw2 : IntKind.u64.wrap (y : Int) = y := by rw [IntKind.wrap_u64]; omega
          go_upto_region 11 with (first
            | (go_at_call 56; refine (refOf_any y _ hyw).mono ?_; rintro e w4 ⟨rfl, hb4⟩; first | (have hq := xtrans hq hb4) | (have hq := hb4))
            | (go_at_call 58; refine (refMul_any y y _).mono ?_; rintro e w5 ⟨rfl, hb5⟩)
            | (refine wpList_store_blk rfl 90 _ _ rfl w5.heap.size rfl .u64 90 [0, 0, 0, 0] (wordL (y * y)) (hz.out w5) rfl rfl (by kernel_rfl) ?_; intro w6 h6 ho6))
          have hq5 := xtrans hq hb5
          have hs5 := hq5.size
          have hbs := hb.size
          have hq6 : Below wr.heap.size wr w6 := ho6.below (xalloc hq5 _) (xalloc hq5 _).size (by rintro i rfl; omega)
          have hT6 := hT.out.below hq6
          have hb6 := xtrans hb hq6
          have hyb : w.heap.size ≤ w5.heap.size := by omega
          have hty : t ≠ w5.heap.size := by have := hT.out.lt; omega
          clear hq hb4 hb5 hq5 hs5 ho6 hq6 hT hb
          generalize w5.heap.size = yb at *
          replace hT6 := Lib.hid hT6
          replace h6 := Lib.hid h6
          go_upto_region 12 with fail
          refine wp_region_growL 6 [fixd (wordV (y * y)), fixd (.int .u64 x), fixd (.int .u64 bt), fixd (.int .u64 y), fixd (wordV y), fixd (wordV (y * y * y))] (by kernel_rfl) (by kernel_rfl) ?_
          simp only [List.take_succ_cons, List.take_zero, List.drop_succ_cons, List.drop_zero]
          try simp only [Act.put, List.setIfInBounds_toArray, List.set_cons_succ, List.set_cons_zero, List.nil_append, List.cons_append]
          refine wpGrowV_load_blk rfl 90 _ rfl yb rfl .u64 90 (wordL (y * y)) _ _ h6.out Try.underlying90 (by kernel_rfl) rfl ?_
          try simp only [Act.put, List.setIfInBounds_toArray, List.set_cons_succ, List.set_cons_zero, List.nil_append, List.cons_append]
          refine wpGrowV_fix _ rfl rfl (fun W hb _ => by go_simp; first | exact xrefl W | exact ⟨rfl, xrefl W⟩) ?_
          try simp only [Act.put, List.setIfInBounds_toArray, List.set_cons_succ, List.set_cons_zero, List.nil_append, List.cons_append]
          refine wpGrowV_fix _ rfl rfl (fun W hb _ => by go_simp; first | exact xrefl W | exact ⟨rfl, xrefl W⟩) ?_
          try simp only [Act.put, List.setIfInBounds_toArray, List.set_cons_succ, List.set_cons_zero, List.nil_append, List.cons_append]
          refine wpGrowV_fix _ rfl rfl (fun W hb _ => by go_simp; first | exact xrefl W | exact ⟨rfl, xrefl W⟩) ?_
          try simp only [Act.put, List.setIfInBounds_toArray, List.set_cons_succ, List.set_cons_zero, List.nil_append, List.cons_append]
          refine wpGrowV_fix (wordV y) rfl rfl (fun W hb _ => ?_) ?_
          · go_simp
            go_at_call 56
            refine (refOf_any y W hyw).mono ?_
            rintro e w' ⟨rfl, hb'⟩
            exact ⟨rfl, hb'⟩
          try simp only [Act.put, List.setIfInBounds_toArray, List.set_cons_succ, List.set_cons_zero, List.nil_append, List.cons_append]
          refine wpGrowV_fix (wordV (y * y * y)) rfl rfl (fun W hb _ => ?_) ?_
          · go_simp
            go_at_call 58
            refine (refMul_any (y * y) y W).mono ?_
            rintro e w' ⟨rfl, hb'⟩
            exact ⟨rfl, hb'⟩
          try simp only [Act.put, List.setIfInBounds_toArray, List.set_cons_succ, List.set_cons_zero, List.nil_append, List.cons_append]
          refine wpGrowV_nil fun Wg hbg _ => ?_
          have h6g := h6.out.below hbg
          have hb6g := xtrans hb6 hbg
          have hT6g := hT6.out.below hbg
          have hTlt := hT6g.lt
          go_upto_region 13 with (first
            | (refine wpList_store_blk rfl 90 _ _ rfl yb rfl .u64 90 (wordL (y * y)) (wordL (y * y * y)) h6g rfl rfl (by kernel_rfl) ?_; intro w7 h7 ho7))
          rw [hyn.out] at h7
          have hT7 := Lib.hid (hT6g.only ho7 hty)
          have hb7 := ho7.below hb6g hb6g.size (by rintro i rfl; omega)
          replace h7 := Lib.hid h7
          clear h6 hT6 hb6 h6g hb6g hT6g ho7 hTlt
          obtain ⟨c, hc⟩ : ∃ c, c = orderOf (y ^ 3) T := ⟨_, rfl⟩
          have hO := fun W => refOrder_any (y ^ 3) T W hpw.out hTb.out
          rw [← hc] at hO
          replace hO := Lib.hid hO
          have hc0 : Hid (c ≤ 0 ↔ y ^ 3 ≤ T) := Lib.hid (by rw [hc]; unfold orderOf; split <;> (try split) <;> omega)
          clear hc
          generalize y ^ 3 = yp at *
          by_cases hle : c ≤ 0
          · have hyes2 := hyes.out (hc0.out.1 hle)
            replace hyes2 := Lib.hid hyes2
            go_wp2_with (first
              | (refine wpList_load_blk rfl 90 _ rfl yb rfl .u64 90 (wordL yp) _ _ h7.out Try.underlying90 (by kernel_rfl) ?_)
              | (refine wpList_load_blk rfl 90 _ rfl t rfl .u64 90 (wordL T) _ _ hT7.out Try.underlying90 (by kernel_rfl) ?_)
              | (go_at_call 59; refine (hO.out _).mono ?_; rintro e w8 ⟨rfl, hb8⟩))
            go_roundw
            case rel => exact ⟨_, _, _, _, _, _, _, _, _, _, _, _, _, _, _, _, _, _, _, _, _, _, _, _, _, _, _, _, _, _, _, ⟨m, y, by omega, rfl, rfl, by rw [hbt.out]; exact hxm, hyes2, hT7.out.below hb8, xtrans hb7 hb8⟩, rfl⟩
            case measure => simp [intOf]; omega
          · have hno2 := hno.out (fun h => hle (hc0.out.2 h))
            replace hno2 := Lib.hid hno2
            go_wp2_with (first
              | (refine wpList_load_blk rfl 90 _ rfl yb rfl .u64 90 (wordL yp) _ _ h7.out Try.underlying90 (by kernel_rfl) ?_)
              | (refine wpList_load_blk rfl 90 _ rfl t rfl .u64 90 (wordL T) _ _ hT7.out Try.underlying90 (by kernel_rfl) ?_)
              | (go_at_call 59; refine (hO.out _).mono ?_; rintro e w8 ⟨rfl, hb8⟩))
            go_roundw
            case rel => exact ⟨_, _, _, _, _, _, _, _, _, _, _, _, _, _, _, _, _, _, _, _, _, _, _, _, _, _, _, _, _, _, _, ⟨m, x, by omega, rfl, rfl, by rw [hbt.out]; exact hxs, hno2, hT7.out.below hb8, xtrans hb7 hb8⟩, rfl⟩
            case measure => simp [intOf]; omega

theorem pr_find : ∀ i < 4, findP 900 2 i = some (prN i) := by decide +kernel
theorem pr_small : ∀ i < 4, prN i < 65536 := by decide
theorem whole_lt (p n : Nat) (h : wholeN p n < 18446744073709551616) : True := trivial
set_option maxHeartbeats 1000000 in
theorem refNumber_any (second : Bool) (r : Nat) (w : World) (hr : r < 5) :
    Calls Try.prog 42 #[.bool second, .int .i64 r] w fun e w' => e = .returned (.int .u32 (iv32 (keyF second r))) ∧ Below w.heap.size w w' := by
  cases second
  · by_cases h0 : 0 < r
    · obtain ⟨i, rfl⟩ : ∃ i, r = i + 1 := ⟨r - 1, by omega⟩
      have hi : i < 4 := by omega
      have hpr := fun W => refPrime_any i (prN i) W (pr_find i hi) (by omega)
      have hwh := fun W => refWhole2_any (prN i) W (pr_small i hi)
      have hk : (wholeN (prN i) 2 : Int) % 4294967296 = iv32 (keyF false (i + 1)) := by
        have := key_first i hi
        unfold keyF iv32
        rw [← this]
        simp
      generalize wholeN (prN i) 2 = z at hwh hk
      generalize prN i = pp at hpr hwh
      generalize keyF false (i + 1) = kk at hk ⊢
      replace hpr := Lib.hid hpr
      replace hwh := Lib.hid hwh
      replace hk := Lib.hid hk
      go_enter Try.func42, Try.ntmps42
      go_wp2_with (first
        | (go_at_call 54; refine (hpr.out _).mono ?_; rintro e w' ⟨rfl, rfl⟩)
        | (go_at_call 53; refine (hwh.out _).mono ?_; rintro e w' ⟨rfl, hb⟩))
      rw [hk.out]
      go_ret
      exact ⟨rfl, hb⟩
    · obtain rfl : r = 0 := by omega
      go_enter Try.func42, Try.ntmps42
      go_wp2
      go_ret
      exact ⟨rfl, xrefl w⟩
  · by_cases h0 : r < 4
    · have hi := h0
      have hpr := fun W => refPrime_any r (prN r) W (pr_find r hi) (by omega)
      have hwh := fun W => refWhole3_any (prN r) W (pr_small r hi)
      have hk : (wholeN (prN r) 3 : Int) % 4294967296 = iv32 (keyF true r) := by
        have := key_second r hi
        unfold keyF iv32
        rw [← this]
        simp
      generalize wholeN (prN r) 3 = z at hwh hk
      generalize prN r = pp at hpr hwh
      generalize keyF true r = kk at hk ⊢
      replace hpr := Lib.hid hpr
      replace hwh := Lib.hid hwh
      replace hk := Lib.hid hk
      go_enter Try.func42, Try.ntmps42
      go_wp2_with (first
        | (go_at_call 54; refine (hpr.out _).mono ?_; rintro e w' ⟨rfl, rfl⟩)
        | (go_at_call 53; refine (hwh.out _).mono ?_; rintro e w' ⟨rfl, hb⟩))
      rw [hk.out]
      go_ret
      exact ⟨rfl, hb⟩
    · obtain rfl : r = 4 := by omega
      go_enter Try.func42, Try.ntmps42
      go_wp2
      go_ret
      exact ⟨rfl, xrefl w⟩
end Go.Proofs.Ytfafancacfjodaa
