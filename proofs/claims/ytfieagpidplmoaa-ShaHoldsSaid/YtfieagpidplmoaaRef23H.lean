/- The document's digest (layer 23): what is behind the bytes. -/
import Derived.Test.YtfieagpidplmoaaRef23G
import Derived.Test.YtfieagpidplmoaaWordA
import Derived.Test.YtfieagpidplmoaaCat
import Derived.Test.YtfieagpidplmoaaRowNew
namespace Go.Proofs.Ytfieagpidplmoaa
open Go.RowKit

/-- How many zeros are laid behind n bytes. -/
def padN (n : Nat) : Nat := (119 - n % 64) % 64
/-- The eight bytes of the length in bits. -/
def lenB (n : Nat) : List (BitVec 8) := (List.range 8).map fun j => BitVec.ofNat 8 (8 * n / 256 ^ (7 - j))
def padL (bs : List (BitVec 8)) : List (BitVec 8) := bs ++ [128] ++ List.replicate (padN bs.length) 0 ++ lenB bs.length
theorem padN_lt (n : Nat) : padN n < 64 := Nat.mod_lt _ (by decide)
theorem padN_ok (n : Nat) : (n + 1 + padN n) % 64 = 56 := by unfold padN; omega
theorem padL_len (bs : List (BitVec 8)) : (padL bs).length = bs.length + 1 + padN bs.length + 8 := by simp [padL, lenB]; omega
theorem padL_mod (bs : List (BitVec 8)) : (padL bs).length % 64 = 0 := by have := padN_ok bs.length; rw [padL_len]; omega
theorem lenB_bytes (n : Nat) : (bytesL (8 * n)).drop 24 = (lenB n).map iv8 := by
  apply List.ext_getElem
  · simp [bytesL, lenB]
  · intro i h1 h2
    simp [bytesL, lenB, byteAt, iv8]
    rw [show 31 - (24 + i) = 7 - i by omega]
def lenOf : Value → Nat
  | .slice _ n _ => n
  | _ => 0
def padTo (bs : List (BitVec 8)) (k : Nat) : List (BitVec 8) := bs ++ [128] ++ List.replicate k 0
theorem padTo_len (bs : List (BitVec 8)) (k : Nat) : (padTo bs k).length = bs.length + 1 + k := by simp [padTo]; omega
theorem padTo_succ (bs : List (BitVec 8)) (k : Nat) : padTo bs (k + 1) = padTo bs k ++ [0] := by unfold padTo; rw [List.append_assoc _ _ [0], ← List.replicate_succ']
set_option maxHeartbeats 1000000 in
theorem refPadded_any (bs : List (BitVec 8)) (a : Option Addr) (c : Nat) (w : World) (hrow : RowAt .u8 w a (bs.map iv8)) (hn : a = none → c = 0) (hlen : bs.length < 1000000) :
    Calls Try.prog 15 #[.slice a bs.length c] w fun e w' => ∃ v, e = .returned v ∧ w'.ownsRow w.heap.size 5 1 v (padL bs).length (((padL bs).map iv8).map (Value.int .u8)) ∧ Below w.heap.size w w' := by
  obtain ⟨i0, hi, hz0, hz1, hz2⟩ := info_parts Try.infoU8
  obtain ⟨zs, hzs⟩ : ∃ zs, zs = bs.map iv8 := ⟨_, rfl⟩
  rw [← hzs] at hrow
  have hzl : bs.length = zs.length := by rw [hzs]; simp
  rw [hzl]
  have hlz : zs.length < 1000000 := by omega
  replace hzl := Lib.hid hzl
  replace hrow := Lib.hid hrow
  replace hzs := Lib.hid hzs
  go_enter Try.func15, Try.ntmps15
  have hown0 := own_empty w 5
  go_wp2_with (first
    | (at_builtin; refine wpList_append_row _ rfl _ _ 22 rfl w.heap.size 5 i0 (.int .u8 0) 1 Try.underlying22 hi hz0 hz1 hz2 rfl _ _ _ rfl hown0 a c .u8 zs rfl hn (hrow.out.below (xalloc (xrefl w) _)) (by unfold maxLen; omega) (by omega) (by simp) ?_; intro v1 w1 ho1 hg1; replace hg1 : (w.alloc (Obj.cells #[] 5)).grownBy w1 (some w.heap.size) := hg1; have hsb1 : w.heap.size ≤ (w1.alloc (.cells #[.int .u8 128] 5)).heap.size := by (have hgs := hg1.size; rw [World.size_alloc] at hgs ⊢; omega))
    | (at_builtin; refine wpList_append_row (w1.alloc (.cells #[.int .u8 128] 5)) rfl _ _ 22 rfl w.heap.size 5 i0 (.int .u8 0) 1 Try.underlying22 hi hz0 hz1 hz2 rfl v1 (0 + zs.length) _ rfl (ho1.alloc _) (some ⟨w1.heap.size, 0, none⟩) 1 .u8 [128] rfl (by simp) (rowAt_one w1 5 128) (by unfold maxLen; simp; omega) (by simp; omega) hsb1 ?_; intro v2 w2 ho2 hg2))
  have hb1 : Below w.heap.size w w1 := (xalloc (xrefl w) _).grown hg1 (by simp) (by simp)
  have hb2 : Below w.heap.size w w2 := (xalloc hb1 _).grown hg2 (by have := hb1.size; simp; omega) (fun k hk => (ho1.lt k hk).1)
  have hown : w2.ownsRow w.heap.size 5 1 v2 (padTo bs 0).length (((padTo bs 0).map iv8).map (Value.int .u8)) := by
    have e : ((padTo bs 0).map iv8).map (Value.int .u8) = [] ++ zs.map (Value.int .u8) ++ [128].map (Value.int .u8) := by rw [hzs.out]; simp [padTo]; rfl
    rw [e, padTo_len, hzl.out]
    simpa using ho2
  clear ho2 hg2 ho1 hb1 hg1 hown0
  have hpl := padN_lt bs.length
  have hpo := padN_ok bs.length
  generalize hzz : padN bs.length = z at hpl hpo
  replace hzz := Lib.hid hzz
  go_loopw [3] (fun v wx => ∃ k : Nat, k ≤ z ∧ lenOf v = (padTo bs k).length ∧ wx.ownsRow w.heap.size 5 1 v (padTo bs k).length (((padTo bs k).map iv8).map (Value.int .u8)) ∧ Below w.heap.size w wx) (fun v _ => bs.length + 1 + z - lenOf v)
  case atStart => exact ⟨0, by omega, by obtain ⟨a2, c2, rfl, _⟩ := rowAt_own hown; simp [lenOf], hown, hb2⟩
  case round =>
    clear hown hb2
    obtain ⟨k, hk, hvl, hown, hb⟩ := hrel
    obtain ⟨a2, c2, rfl, hr2, hn2, _, _⟩ := rowAt_own hown
    clear hvl hr2 hn2
    have hkl := padTo_len bs k
    have hs1 := Lib.hid (padTo_succ bs k)
    have hs2 := Lib.hid (padTo_len bs (k + 1))
    have hfin : k = z → padL bs = padTo bs k ++ lenB bs.length := fun e => by rw [padL, padTo, e, hzz.out]
    replace hfin := Lib.hid hfin
    simp only [List.length_map] at hown ⊢
    generalize padTo bs k = pl at hown hkl hs1 hfin
    generalize hL : pl.length = L at hown hkl
    replace hL := Lib.hid hL
    by_cases hlt : k < z
    · have hne : ((L : Int) % 64 == 56) = false := by simp; omega
      have hsb2 : w.heap.size ≤ (wr.alloc (.cells #[.int .u8 0] 5)).heap.size := by have := hb.size; simp; omega
      go_wp2_with (at_builtin; refine wpList_append_row (wr.alloc (.cells #[.int .u8 0] 5)) rfl _ _ 22 rfl w.heap.size 5 i0 (.int .u8 0) 1 Try.underlying22 hi hz0 hz1 hz2 rfl _ L _ rfl (hown.alloc _) (some ⟨wr.heap.size, 0, none⟩) 1 .u8 [0] rfl (by simp) (rowAt_one wr 5 0) (by unfold maxLen; simp; omega) (by simp; omega) hsb2 ?_; intro v3 w3 ho3 hg3)
      have hb3 : Below w.heap.size w w3 := (xalloc hb _).grown hg3 hsb2 (fun j hj => (hown.lt j hj).1)
      have hown3 : w3.ownsRow w.heap.size 5 1 v3 (padTo bs (k + 1)).length (((padTo bs (k + 1)).map iv8).map (Value.int .u8)) := by
        rw [hs2.out, hs1.out, show bs.length + 1 + (k + 1) = L + 1 by omega]
        simpa [show iv8 (0#8) = 0 from rfl] using ho3
      clear ho3 hg3 hown
      go_wp2
      go_roundw
      case rel => exact ⟨k + 1, by omega, by obtain ⟨a4, c4, rfl, _⟩ := rowAt_own hown3; simp [lenOf], hown3, hb3⟩
      case measure => obtain ⟨a4, c4, rfl, _⟩ := rowAt_own hown3; simp [lenOf]; rw [hs2.out]; omega
    · have hkz : k = z := by omega
      have heq : ((L : Int) % 64 == 56) = true := by simp; omega
      obtain ⟨M, hM⟩ : ∃ M, M = 8 * zs.length := ⟨_, rfl⟩
      have hM2 : 8 * (zs.length : Int) = (M : Int) := by omega
      have hMl : M < 18446744073709551616 := by omega
      replace hM := Lib.hid hM
      have hLb : L < 2000000 := by omega
      replace hkl := Lib.hid hkl
      have hl8 : ((bytesL M).drop 24).length = 8 := by simp [bytesL]
      go_wp2_with (first
        | (go_at_call 30; refine (refOf_any M _ hMl).mono ?_; rintro e w3 ⟨rfl, hb3⟩)
        | (go_at_call 29; refine (refBytes_any M _).mono ?_; rintro e w4 ⟨rfl, hb4⟩)
        | (refine wpList_store_blk rfl 24 _ _ rfl w4.heap.size rfl .u8 24 zs32 (bytesL M) (Blk.new' _ _ _ zs32 rfl) rfl rfl (by kernel_rfl) ?_; intro w5 h5 ho5; have hb5 : Below wr.heap.size wr w5 := ho5.below (xalloc (xtrans hb3 hb4) _) (by have g3 := hb3.size; have g4 := hb4.size; rw [World.size_alloc]; omega) (by rintro i rfl; have g3 := hb3.size; have g4 := hb4.size; omega); have hown5 := own_keep hown hb5; have hr5 := h5.row 24; have hsb5 : w.heap.size ≤ w5.heap.size := Nat.le_trans hb.size hb5.size)
        | (at_builtin; refine wpList_append_row w5 rfl _ _ 22 rfl w.heap.size 5 i0 (.int .u8 0) 1 Try.underlying22 hi hz0 hz1 hz2 rfl _ L _ rfl hown5 (some ⟨w4.heap.size, 24, none⟩) 8 .u8 ((bytesL M).drop 24) rfl (by simp) hr5 (by unfold maxLen; rw [hl8]; omega) (by rw [hl8]; omega) hsb5 ?_; intro v6 w6 ho6 hg6))
      go_ret
      have hb6 : Below w.heap.size w w6 := (xtrans hb hb5).grown hg6 hsb5 (fun j hj => (hown5.lt j hj).1)
      refine ⟨_, rfl, ?_, hb6⟩
      have e1 := hfin.out hkz
      rw [hM.out, ← hzl.out, lenB_bytes] at ho6
      rw [e1, List.length_append, hL.out, List.map_append, List.map_append]
      simpa using ho6
end Go.Proofs.Ytfieagpidplmoaa
