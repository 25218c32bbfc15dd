/- The document's digest (layer 23). -/
import Derived.Test.YtfieagpidplmoaaRef23H
import Derived.Test.YtfieagpidplmoaaRef23D
import Derived.Test.YtfieagpidplmoaaGrow
namespace Go.Proofs.Ytfieagpidplmoaa
open Go.RowKit

def numB (k : Nat) : BitVec 32 := BitVec.ofNat 32 (numF k)
def begB (k : Nat) : BitVec 32 := BitVec.ofNat 32 (begF k)
theorem numB_iv (k : Nat) (h : k < 64) : iv32 (numB k) = numI k := by
  have := (nums_ok k h).2.2.2
  unfold iv32 numB numI
  rw [BitVec.toNat_ofNat]
  omega
def begI (k : Nat) : Int := begF k
theorem begB_iv (k : Nat) (h : k < 8) : iv32 (begB k) = begI k := by
  have := (begs_ok k h).2.2.2
  unfold iv32 begB begI
  rw [BitVec.toNat_ofNat]
  omega
theorem nums_row : allL 64 numI = rowI 64 numB := allL_congr fun i hi => (numB_iv i hi).symm
/-- What t blocks come to. -/
def sumTo (pd : List (BitVec 8)) : Nat → Nat → BitVec 32
  | 0 => begB
  | t + 1 => mixF (sumTo pd t) (blockF (byteF pd t)) numB
def sumF (bs : List (BitVec 8)) : Nat → BitVec 32 := sumTo (padL bs) ((padL bs).length / 64)
def digF (h : Nat → BitVec 32) (i : Nat) : BitVec 8 := (h (i / 4) >>> (24 - 8 * (i % 4))).setWidth 8
theorem iv8_dig (x : BitVec 32) (n : Nat) : iv8 ((x >>> n).setWidth 8) = iv32 x / 2 ^ n % 256 := by
  unfold iv8 iv32
  rw [BitVec.toNat_setWidth, BitVec.toNat_ushiftRight, Nat.shiftRight_eq_div_pow]
  simp
def digL (h : Nat → BitVec 32) : List Int := allL 32 fun i => iv8 (digF h i)

set_option maxRecDepth 100000 in
set_option maxHeartbeats 1000000 in
theorem refSum_any (bs : List (BitVec 8)) (a : Option Addr) (c : Nat) (w : World) (hrow : RowAt .u8 w a (bs.map iv8)) (hn : a = none → c = 0) (hlen : bs.length < 1000000) :
    Calls Try.prog 8 #[.slice a bs.length c] w fun e w' => e = .returned (arrV .u8 (digL (sumF bs))) ∧ Below w.heap.size w w' := by
  go_enter Try.func8, Try.ntmps8
  replace hrow := Lib.hid hrow
  have hz : ∀ w2 : World, Blk .u32 (w2.alloc (Obj.cells ((List.replicate 64 0).map (Value.int .u32)).toArray 31)) w2.heap.size 31 (List.replicate 64 0) := fun w2 => Blk.new w2 _ _
  have hO := Blk.new (q := .u8) w 24 (List.replicate 32 0)
  replace hz := Lib.hid hz
  replace hO := Lib.hid hO
  go_wp2_with (first
    | (go_at_call 15; refine (refPadded_any bs a c _ (hrow.out.below (xalloc (xrefl w) _)) hn hlen).mono ?_; rintro e w1 ⟨v, rfl, hown, hb1⟩)
    | (go_at_call 10; refine (refNumbers_any _).mono ?_; rintro e w2 ⟨rfl, hb2⟩)
    | (refine wpList_store_blk rfl 31 _ _ rfl w2.heap.size rfl .u32 31 (List.replicate 64 0) (allL 64 numI) (hz.out w2) rfl rfl (by kernel_rfl) ?_; intro w3 h3 ho3))
  obtain ⟨w4, hw4⟩ : ∃ w4, w3.alloc (Obj.cells ((List.replicate 8 0).map (Value.int .u32)).toArray 29) = w4 := ⟨_, rfl⟩
  have g1 := hb1.size
  have g2 := hb2.size
  have g3 := ho3.size
  rw [World.size_alloc] at g1 g3
  have hb3 : Below w.heap.size w w3 := ho3.below (xalloc (xtrans (xtrans (xalloc (xrefl w) _) hb1) hb2) _) (by rw [World.size_alloc]; omega) (by rintro i rfl; omega)
  have hx3 : Below w1.heap.size w1 w3 := ho3.below (xalloc hb2 _) (by rw [World.size_alloc]; omega) (by rintro i rfl; omega)
  have hb4 : Below w.heap.size w w4 := by rw [← hw4]; exact xalloc hb3 _
  have hO4 : Blk .u8 w4 w.heap.size 24 (List.replicate 32 0) := by rw [← hw4]; exact (((hO.out).below hb1).below hx3).alloc _
  have hK4 : Blk .u32 w4 w2.heap.size 31 (rowI 64 numB) := by rw [← hw4, ← nums_row]; exact h3.alloc _
  have hH4 : Blk .u32 w4 w3.heap.size 29 (List.replicate 8 0) := by rw [← hw4]; exact Blk.new' _ _ _ _ rfl
  obtain ⟨pa, pc, rfl, hP, hPn, -, -⟩ := rowAt_own hown
  have hPlt : ∀ x, pa = some x → x.block < w2.heap.size := fun x hx => by
    have := hown.lt x.block (by rw [hx]; rfl)
    omega
  have hP4 : RowAt .u8 w4 pa ((padL bs).map iv8) := by rw [← hw4]; exact (hP.below hx3).below (xalloc (xrefl w3) _)
  have hpl : (padL bs).length < 2000000 := by rw [padL_len]; have := padN_lt bs.length; omega
  have hpm := padL_mod bs
  clear hown hP ho3 h3 hx3 hb1 hb2 hz hO hrow hb3
  simp only [List.length_map] at *
  obtain ⟨kb, hkb⟩ : ∃ kb, kb = w2.heap.size := ⟨_, rfl⟩
  obtain ⟨hb, hhb⟩ : ∃ hb, hb = w3.heap.size := ⟨_, rfl⟩
  have hkb2 : w.heap.size < kb := by omega
  have hkh : kb < hb := by omega
  rw [← hkb] at hK4 hPlt ⊢
  have hPlt2 : ∀ x, pa = some x → x.block < hb := fun x hx => Nat.lt_trans (hPlt x hx) hkh
  replace hPlt := Lib.hid hPlt
  replace hPlt2 := Lib.hid hPlt2
  rw [← hhb] at hH4 ⊢
  replace hw4 : w3.alloc (Obj.cells #[.int .u32 0, .int .u32 0, .int .u32 0, .int .u32 0, .int .u32 0, .int .u32 0, .int .u32 0, .int .u32 0] 29) = w4 := hw4
  rw [hw4]
  clear hkb hhb g1 g2 g3 hw4
  replace hP4 := Lib.hid hP4
  go_loopw [6] (fun iv wx => ∃ i : Nat, i ≤ 8 ∧ iv = .int .i64 i ∧ Blk .u8 wx w.heap.size 24 (List.replicate 32 0) ∧ Blk .u32 wx kb 31 (rowI 64 numB) ∧ Blk .u32 wx hb 29 (fillL 8 begI i) ∧ Hid (RowAt .u8 wx pa ((padL bs).map iv8)) ∧ Below w.heap.size w wx) (fun iv _ => 8 - (intOf iv).toNat)
  case atStart => exact ⟨0, by omega, rfl, hO4, hK4, by rw [fillL_zero]; exact hH4, hP4, hb4⟩
  case round =>
    clear hO4 hK4 hH4 hP4 hb4
    obtain ⟨i, hi, rfl, hO, hK, hH, hP, hbw⟩ := hrel
    by_cases hlt : i < 8
    · obtain ⟨h1, h2, h3, h4⟩ := begs_ok i hlt
      have h3' := h3
      have hbi : begI i = (begF i : Int) := rfl
      obtain ⟨B, hB⟩ : ∃ B, B = begF i := ⟨_, rfl⟩
      rw [← hB] at h3' h4 hbi
      replace hbi := Lib.hid hbi
      clear hB
      replace h3' := Lib.hid h3'
      clear h3
      replace h1 := Lib.hid h1
      go_wp2_with (first
        | (go_at_call 19; refine (refPrime_any _ _ _ h1.out (by omega)).mono ?_; rintro e w' ⟨rfl, rfl⟩)
        | (go_at_call 18; refine (refRoot_any _ 2 _ (.inl rfl) h2).mono ?_; rintro e w5 ⟨rfl, hb5⟩; rw [h3'.out]; have hH5 := hH.below hb5; have hfr := hH5.frozen i; have hcl := hH5.cell i (by rw [fillL_len]; exact hlt)))
      have hP5 := hP.out.below hb5
      have hset := hH5.set i (begI i)
      rw [fillL_succ 8 begI i, hbi.out] at hset
      exact ⟨⟨i + 1, by omega, rfl, (hO.below hb5).oth _ (by omega), (hK.below hb5).oth _ (by omega), hset, Lib.hid (hP5.oth _ hPlt2.out), xsetb (xtrans hbw hb5) (by omega) _⟩, by simp [intOf]; omega⟩
    · have hi8 : i = 8 := by omega
      subst hi8
      rw [fillL_all _ _ _ (by omega), show allL 8 begI = rowI 8 (sumTo (padL bs) 0) from allL_congr fun i hi => (begB_iv i hi).symm] at hH
      clear hlt
      obtain ⟨L, hL⟩ : ∃ L, L = (padL bs).length := ⟨_, rfl⟩
      rw [← hL] at hpl hpm ⊢
      obtain ⟨nb, hnb⟩ : ∃ nb, L = 64 * nb := ⟨L / 64, by omega⟩
      have hnb2 : (L : Int) / 64 = (nb : Int) := by omega
      have hnbl : nb < 100000 := by omega
      replace hL := Lib.hid hL
      replace hnb := Lib.hid hnb
      replace hpm := Lib.hid hpm
      go_wp2
      go_loopw [7] (fun tv wx => ∃ t : Nat, t ≤ nb ∧ tv = .int .i64 t ∧ Blk .u8 wx w.heap.size 24 (List.replicate 32 0) ∧ Blk .u32 wx kb 31 (rowI 64 numB) ∧ Blk .u32 wx hb 29 (rowI 8 (sumTo (padL bs) t)) ∧ Hid (RowAt .u8 wx pa ((padL bs).map iv8)) ∧ Below w.heap.size w wx) (fun tv _ => nb - (intOf tv).toNat)
      case atStart => exact ⟨0, by omega, rfl, hO, hK, hH, hP, hbw⟩
      case round =>
        clear hO hK hH hP hbw
        obtain ⟨t, ht, rfl, hO, hK, hH, hP, hbw⟩ := hrel
        by_cases hlt : t < nb
        · have hat : 64 * t + 63 < (padL bs).length := by rw [← hL.out, hnb.out]; omega
          have hls : (padL bs).length < 4000000 := by rw [← hL.out]; omega
          have hsucc : sumTo (padL bs) (t + 1) = mixF (sumTo (padL bs) t) (blockF (byteF (padL bs) t)) numB := rfl
          have hMx := fun W => refMix_any (sumTo (padL bs) t) (blockF (byteF (padL bs) t)) numB W
          rw [← hsucc] at hMx
          have hBx := fun W (h : RowAt .u8 W pa ((padL bs).map iv8)) => refBlock_any (padL bs) pa pc t W h hat hls
          rw [← hL.out] at hBx
          clear hsucc
          generalize hM : sumTo (padL bs) (t + 1) = M at hMx
          replace hM := Lib.hid hM
          generalize sumTo (padL bs) t = H at hH hMx
          generalize blockF (byteF (padL bs) t) = Bf at hMx hBx
          unfold arrV at hMx hBx
          replace hMx := Lib.hid hMx
          replace hBx := Lib.hid hBx
          go_wp2_with fail
          refine wp_region_grow 6 (by kernel_rfl) (by kernel_rfl) ?_
          simp only [List.take_succ_cons, List.take_zero, List.drop_succ_cons, List.drop_zero]
          refine wpGrow_load_blk rfl 29 _ rfl hb rfl .u32 29 (rowI 8 H) _ _ hH Try.underlying29 (by rw [rowI_len]; kernel_rfl) ?_
          simp only [Act.put, List.setIfInBounds_toArray, List.set_cons_succ, List.set_cons_zero]
          refine wpGrow_op _ rfl (fun W hb => by go_simp; exact ⟨rfl, xrefl W⟩) ?_
          simp only [Act.put, List.setIfInBounds_toArray, List.set_cons_succ, List.set_cons_zero]
          refine wpGrow_op _ rfl (fun W hb => by go_simp; exact ⟨rfl, xrefl W⟩) ?_
          simp only [Act.put, List.setIfInBounds_toArray, List.set_cons_succ, List.set_cons_zero]
          refine wpGrow_op (.agg ((rowI 16 Bf).map (Value.int .u32)).toArray) rfl (fun W hb => ?_) ?_
          · go_simp
            go_at_call 17
            refine (hBx.out W (hP.out.below hb)).mono ?_
            rintro e w' ⟨rfl, hb'⟩
            exact ⟨rfl, hb'⟩
          simp only [Act.put, List.setIfInBounds_toArray, List.set_cons_succ, List.set_cons_zero]
          refine wpGrow_load_blk rfl 31 _ rfl kb rfl .u32 31 (rowI 64 numB) _ _ hK Try.underlying31 (by rw [rowI_len]; kernel_rfl) ?_
          simp only [Act.put, List.setIfInBounds_toArray, List.set_cons_succ, List.set_cons_zero]
          refine wpGrow_op (.agg ((rowI 8 M).map (Value.int .u32)).toArray) rfl (fun W hb => ?_) ?_
          · go_simp
            go_at_call 12
            refine (hMx.out W).mono ?_
            rintro e w' ⟨rfl, hb'⟩
            exact ⟨rfl, hb'⟩
          simp only [Act.put, List.setIfInBounds_toArray, List.set_cons_succ, List.set_cons_zero]
          refine wpGrow_nil fun W hbW => ?_
          have hH5 := hH.below hbW
          go_wp2_with (refine wpList_store_blk rfl 29 _ _ rfl hb rfl .u32 29 (rowI 8 H) (rowI 8 M) hH5 rfl (by rw [rowI_len, rowI_len]) (by rw [rowI_len]; kernel_rfl) ?_; intro w6 h6 ho6)
          have hbw5 := xtrans hbw hbW
          go_roundw
          case rel => (repeat apply Exists.intro); exact ⟨⟨t + 1, by omega, by go_num, (hO.below hbW).only ho6 (by omega), (hK.below hbW).only ho6 (by omega), by rw [hM.out]; exact h6, Lib.hid ((hP.out.below hbW).only ho6 fun x hx e => by have := hPlt2.out x hx; omega), ho6.below hbw5 hbw5.size (by rintro j rfl; omega)⟩, rfl⟩
          case measure => simp [intOf]; omega
        · have htn : t = nb := by omega
          subst htn
          have hS : sumTo (padL bs) t = sumF bs := by unfold sumF; rw [← hL.out, hnb.out, Nat.mul_div_cancel_left _ (by decide)]
          rw [hS] at hH
          clear hS hlt
          generalize hsf : sumF bs = H at hH
          replace hsf := Lib.hid hsf
          have hD0 := Blk.new (q := .u8) wr 24 (List.replicate 32 0)
          have hO1 := hO.alloc (Obj.cells ((List.replicate 32 0).map (Value.int .u8)).toArray 24)
          have hH1 := hH.alloc (Obj.cells ((List.replicate 32 0).map (Value.int .u8)).toArray 24)
          have hb1 := xalloc hbw (Obj.cells ((List.replicate 32 0).map (Value.int .u8)).toArray 24)
          have hlth := hH.lt
          obtain ⟨db, hdb⟩ : ∃ db, db = wr.heap.size := ⟨_, rfl⟩
          rw [← hdb] at hD0
          have hdh : hb < db := by omega
          go_wp2
          rw [← hdb]
          clear hO hK hH hP hbw hdb
          go_loopw [9] (fun iv wx => ∃ i : Nat, i ≤ 32 ∧ iv = .int .i64 i ∧ Blk .u8 wx w.heap.size 24 (List.replicate 32 0) ∧ Blk .u32 wx hb 29 (rowI 8 H) ∧ Blk .u8 wx db 24 (fillL 32 (fun i => iv8 (digF H i)) i) ∧ Below w.heap.size w wx) (fun iv _ => 32 - (intOf iv).toNat)
          case atStart => exact ⟨0, by omega, rfl, hO1, hH1, by rw [fillL_zero]; exact hD0, hb1⟩
          case round =>
            clear hO1 hH1 hD0 hb1
            obtain ⟨i, hi, rfl, hO, hH, hD, hbw⟩ := hrel
            by_cases hlt : i < 32
            · have hlt2 : (i : Int) < 32 := by omega
              have c1 := hH.cell (i / 4) (by rw [rowI_len]; omega)
              rw [rowI_get] at c1
              have c2 := hD.cell i (by rw [fillL_len]; exact hlt)
              have f2 := hD.frozen i
              go_wp2
              have hset := hD.set i (iv8 (digF H i))
              rw [fillL_succ 32 (fun i => iv8 (digF H i)) i] at hset
              rw [show iv32 (H (i / 4)) / 2 ^ (24 - 8 * (i % 4)) % 256 = iv8 (digF H i) from (iv8_dig _ _).symm]
              exact ⟨⟨i + 1, by omega, rfl, hO.oth _ (by omega), hH.oth _ (by omega), hset, xsetb hbw (by omega) _⟩, by simp [intOf]; omega⟩
            · have hi32 : i = 32 := by omega
              subst hi32
              rw [fillL_all _ _ _ (by omega)] at hD
              clear hlt
              generalize hDL : allL 32 (fun i => iv8 (digF H i)) = DL at hD
              have hDl : DL.length = 32 := by rw [← hDL, allL_len]
              have hfin : arrV .u8 (digL (sumF bs)) = .agg (DL.map (Value.int .u8)).toArray := by rw [hsf.out, ← hDL]; rfl
              replace hDL := Lib.hid hDL
              replace hDl := Lib.hid hDl
              replace hfin := Lib.hid hfin
              go_wp2_with (first
                | (refine wpList_load_blk rfl 24 _ rfl db rfl .u8 24 DL _ _ hD Try.underlying24 (by rw [hDl.out]; kernel_rfl) ?_)
                | (refine wpList_store_blk rfl 24 _ _ rfl w.heap.size rfl .u8 24 (List.replicate 32 0) DL hO rfl (by rw [hDl.out, List.length_replicate]) (by rw [hDl.out]; kernel_rfl) ?_; intro w7 h7 ho7))
              refine ret_blk rfl w.heap.size .u8 24 DL _ _ rfl h7 Try.underlying24 (by rw [hDl.out]; kernel_rfl) rfl ⟨by rw [hfin.out], ?_⟩
              exact ho7.below hbw hbw.size (by rintro i rfl; omega)
end Go.Proofs.Ytfieagpidplmoaa
