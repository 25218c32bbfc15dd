/- The document's digest (layer 23): the blocks of bytes. -/
import Derived.Test.YtfieagpidplmoaaRef23F
namespace Go.Proofs.Ytfieagpidplmoaa
open Go.RowKit

def w8 (x : BitVec 8) : BitVec 32 := x.setWidth 32
theorem iv8_w8 (x : BitVec 8) : iv8 x = iv32 (w8 x) := by
  unfold iv8 iv32 w8
  have := x.isLt
  simp [BitVec.toNat_setWidth]
  omega
/-- n bytes, the highest first, from place 4 j on. -/
def accF (f : Nat → BitVec 32) (j : Nat) : Nat → BitVec 32
  | 0 => 0
  | n + 1 => or32 (shl32 (accF f j n) 8) (f (4 * j + n))
def blockTo (f : Nat → BitVec 32) (i : Nat) : Nat → BitVec 32 := fun j => accF f j (min 4 (i - 4 * j))
def blockF (f : Nat → BitVec 32) : Nat → BitVec 32 := fun j => accF f j 4
theorem blockTo_set (f : Nat → BitVec 32) (i : Nat) : (rowI 16 (blockTo f i)).set (i / 4) (iv32 (or32 (shl32 (blockTo f i (i / 4)) 8) (f i))) = rowI 16 (blockTo f (i + 1)) := by
  apply List.ext_getElem
  · simp [rowI_len]
  · intro k h1 h2
    rw [List.getElem_set]
    simp only [rowI_get]
    by_cases e : i / 4 = k
    · subst e
      rw [if_pos rfl]
      unfold blockTo
      have e1 : min 4 (i - 4 * (i / 4)) = i % 4 := by omega
      have e2 : min 4 (i + 1 - 4 * (i / 4)) = i % 4 + 1 := by omega
      rw [e1, e2, accF, show 4 * (i / 4) + i % 4 = i by omega]
    · rw [if_neg e]
      unfold blockTo
      congr 2
      omega
theorem blockTo_zero (f : Nat → BitVec 32) : rowI 16 (blockTo f 0) = List.replicate 16 0 := by
  apply List.ext_getElem
  · simp [rowI_len]
  · intro k h1 h2
    rw [rowI_get, List.getElem_replicate]
    unfold blockTo
    rw [show min 4 (0 - 4 * k) = 0 by omega]
    rfl
theorem blockTo_all (f : Nat → BitVec 32) : rowI 16 (blockTo f 64) = rowI 16 (blockF f) := allL_congr fun i hi => by
  show iv32 (accF f i (min 4 (64 - 4 * i))) = iv32 (accF f i 4)
  rw [show min 4 (64 - 4 * i) = 4 by omega]

/-- The bytes of a block. -/
def byteF (bs : List (BitVec 8)) (at' : Nat) : Nat → BitVec 32 := fun k => w8 (bs.getD (64 * at' + k) 0)

set_option maxHeartbeats 1000000 in
theorem refBlock_any (bs : List (BitVec 8)) (a : Option Addr) (c at' : Nat) (w : World) (hrow : RowAt .u8 w a (bs.map iv8)) (hat : 64 * at' + 63 < bs.length) (hlen : bs.length < 4000000) :
    Calls Try.prog 17 #[.slice a bs.length c, .int .i64 at'] w fun e w' => e = .returned (arrV .u32 (rowI 16 (blockF (byteF bs at')))) ∧ Below w.heap.size w w' := by
  unfold arrV
  go_enter Try.func17, Try.ntmps17
  have hR := (Blk.new (q := .u32) w 30 (List.replicate 16 0)).alloc (Obj.cells ((List.replicate 16 0).map (Value.int .u32)).toArray 30)
  have hO := Blk.new' (q := .u32) (w.alloc (Obj.cells ((List.replicate 16 0).map (Value.int .u32)).toArray 30)) (w.heap.size + 1) 30 (List.replicate 16 0) (by simp)
  have hb := xalloc (xalloc (xrefl w) (Obj.cells ((List.replicate 16 0).map (Value.int .u32)).toArray 30)) (Obj.cells ((List.replicate 16 0).map (Value.int .u32)).toArray 30)
  replace hrow := Lib.hid hrow
  go_wp2
  go_loopw [6] (fun iv wx => ∃ i : Nat, i ≤ 64 ∧ iv = .int .i64 i ∧ Blk .u32 wx w.heap.size 30 (List.replicate 16 0) ∧ Blk .u32 wx (w.heap.size + 1) 30 (rowI 16 (blockTo (byteF bs at') i)) ∧ Below w.heap.size w wx) (fun iv _ => 64 - (intOf iv).toNat)
  case atStart => exact ⟨0, by omega, rfl, hR, by rw [blockTo_zero]; exact hO, hb⟩
  case round =>
    clear hR hO hb
    obtain ⟨i, hi, rfl, hR, hO, hb⟩ := hrel
    by_cases hlt : i < 64
    · have hlt2 : (i : Int) < 64 := by omega
      have c1 := hO.cell (i / 4) (by rw [rowI_len]; omega)
      rw [rowI_get] at c1
      have f1 := hO.frozen (i / 4)
      obtain ⟨b, o, rfl, c2⟩ := (hrow.out.below hb) (64 * at' + i) (by simp; omega)
      simp only [List.getElem_map] at c2
      have hbv : bs[64 * at' + i]'(by omega) = bs.getD (64 * at' + i) 0 := by simp [show 64 * at' + i < bs.length by omega]
      rw [hbv, iv8_w8] at c2
      have hset := Lib.hid (blockTo_set (byteF bs at') i)
      replace c2 : wr.cell? ⟨b, o + (64 * at' + i), none⟩ = some (.int .u8 (iv32 (byteF bs at' i))) := c2
      generalize blockTo (byteF bs at') i (i / 4) = acc at c1 hset
      have hbd := iv32_bd (byteF bs at' i)
      have hb8 : iv32 (byteF bs at' i) < 256 := by
        show iv32 (w8 _) < 256
        rw [← iv8_w8]; exact (iv8_bd _).2
      generalize byteF bs at' i = x at c2 hset hbd hb8
      go_wp2_with fail
      refine wp_region_still_tail 17 (by kernel_rfl) (by kernel_rfl) ?_
      simp only [List.take_succ_cons, List.take_zero, List.drop_succ_cons, List.drop_zero]
      generalize hw5 : ({ wr with drawn := wr.drawn + 1 } : World) = w5
      replace c1 : w5.cell? ⟨w.heap.size + 1, i / 4, none⟩ = some (.int .u32 (iv32 acc)) := by rw [← hw5]; exact c1
      replace c2 : w5.cell? ⟨b, o + (64 * at' + i), none⟩ = some (.int .u8 (iv32 x)) := by rw [← hw5]; exact c2
      replace f1 : w5.frozen? ⟨w.heap.size + 1, i / 4, none⟩ = false := by rw [← hw5]; exact f1
      replace hw5 := Lib.hid hw5
      have e1 : IntKind.i64.wrap ((i : Int) / 4) = ((i / 4 : Nat) : Int) := by rw [IntKind.wrap_i64]; omega
      have e2 : (i : Int) / 4 < 16 := by omega
      have e7 : ((i : Int) / 4).toNat = i / 4 := by omega
      have e8 : 0 ≤ (i : Int) / 4 := by omega
      have e0 : IntKind.i64.wrap (64 * (at' : Int)) = 64 * (at' : Int) := by rw [IntKind.wrap_i64]; omega
      have e3 : IntKind.i64.wrap (64 * (at' : Int) + (i : Int)) = 64 * (at' : Int) + (i : Int) := by rw [IntKind.wrap_i64]; omega
      have e4 : (64 * (at' : Int) + (i : Int)).toNat = 64 * at' + i := by omega
      have e5 : 64 * (at' : Int) + (i : Int) < (bs.length : Int) := by omega
      have e9 : 0 ≤ 64 * (at' : Int) + (i : Int) := by omega
      have e6 : IntKind.u32.wrap (iv32 x) = iv32 x := by rw [IntKind.wrap_u32]; omega
      repeat still_step
      refine wpStill_nil ?_
      clear e0 e1 e2 e3 e4 e5 e6 e7 e8 e9
      go_wp2
      have e5 := hw5.out
      subst e5
      have hs2 := (hO.drew).set (i / 4) (iv32 (or32 (shl32 acc 8) x))
      rw [hset.out] at hs2
      exact ⟨⟨i + 1, by omega, rfl, hR.drew.oth _ (by omega), hs2, xsetb (xdrew hb) (by omega) _⟩, by simp [intOf]; omega⟩
    · have hi64 : i = 64 := by omega
      subst hi64
      rw [blockTo_all] at hO
      clear hlt
      go_wp2_with (first
        | (refine wpList_load_blk rfl 30 _ rfl (w.heap.size + 1) rfl .u32 30 (rowI 16 (blockF (byteF bs at'))) _ _ hO Try.underlying30 (by rw [rowI_len]; kernel_rfl) ?_)
        | (refine wpList_store_blk rfl 30 _ _ rfl w.heap.size rfl .u32 30 (List.replicate 16 0) (rowI 16 (blockF (byteF bs at'))) hR rfl (by rw [rowI_len, List.length_replicate]) (by rw [rowI_len]; kernel_rfl) ?_; intro w7 h7 ho7))
      refine ret_blk rfl w.heap.size .u32 30 (rowI 16 (blockF (byteF bs at'))) _ _ rfl h7 Try.underlying30 (by rw [rowI_len]; kernel_rfl) rfl ⟨rfl, ?_⟩
      exact ho7.below hb hb.size (by rintro i rfl; omega)
end Go.Proofs.Ytfieagpidplmoaa
