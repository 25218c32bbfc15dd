/- The document's numbers (layer 23): what roots come to. -/
import Derived.Test.YtfieagpidplmoaaRef23C
import Derived.Test.YtfieagpidplmoaaFill
namespace Go.Proofs.Ytfieagpidplmoaa
open Go.RowKit

def primesL : List Nat := [2, 3, 5, 7, 11, 13, 17, 19, 23, 29, 31, 37, 41, 43, 47, 53, 59, 61, 67, 71, 73, 79, 83, 89, 97, 101, 103, 107, 109, 113, 127, 131, 137, 139, 149, 151, 157, 163, 167, 173, 179, 181, 191, 193, 197, 199, 211, 223, 227, 229, 233, 239, 241, 251, 257, 263, 269, 271, 277, 281, 283, 293, 307, 311]
def numsL : List Nat := [1116352408, 1899447441, 3049323471, 3921009573, 961987163, 1508970993, 2453635748, 2870763221, 3624381080, 310598401, 607225278, 1426881987, 1925078388, 2162078206, 2614888103, 3248222580, 3835390401, 4022224774, 264347078, 604807628, 770255983, 1249150122, 1555081692, 1996064986, 2554220882, 2821834349, 2952996808, 3210313671, 3336571891, 3584528711, 113926993, 338241895, 666307205, 773529912, 1294757372, 1396182291, 1695183700, 1986661051, 2177026350, 2456956037, 2730485921, 2820302411, 3259730800, 3345764771, 3516065817, 3600352804, 4094571909, 275423344, 430227734, 506948616, 659060556, 883997877, 958139571, 1322822218, 1537002063, 1747873779, 1955562222, 2024104815, 2227730452, 2361852424, 2428436474, 2756734187, 3204031479, 3329325298]
def begL : List Nat := [1779033703, 3144134277, 1013904242, 2773480762, 1359893119, 2600822924, 528734635, 1541459225]
def numF (k : Nat) : Nat := numsL.getD k 0
def begF (k : Nat) : Nat := begL.getD k 0
def primeF (k : Nat) : Nat := primesL.getD k 0
theorem nums_ok : ∀ k, k < 64 → findP 900 2 k = some (primeF k) ∧ primeF k < 65536 ∧ rootF (primeF k) 3 % 4294967296 = numF k ∧ numF k < 4294967296 := by decide +kernel
theorem begs_ok : ∀ k, k < 8 → findP 900 2 k = some (primeF k) ∧ primeF k < 65536 ∧ rootF (primeF k) 2 % 4294967296 = begF k ∧ begF k < 4294967296 := by decide +kernel
def numI (k : Nat) : Int := numF k

theorem refNumber_any (k : Nat) (w : World) (hk : k < 64) :
    Calls Try.prog 14 #[.int .i64 k] w fun e w' => e = .returned (.int .u32 (numI k)) ∧ Below w.heap.size w w' := by
  obtain ⟨h1, h2, h3, h4⟩ := nums_ok k hk
  replace h1 := Lib.hid h1
  unfold numI
  go_enter Try.func14, Try.ntmps14
  go_wp2_with (first
    | (go_at_call 19; refine (refPrime_any _ _ _ h1.out (by omega)).mono ?_; rintro e w' ⟨rfl, rfl⟩)
    | (go_at_call 18; refine (refRoot_any _ 3 _ (.inr rfl) h2).mono ?_; rintro e w2 ⟨rfl, hb2⟩; rw [h3]))
  go_ret
  exact ⟨rfl, hb2⟩

theorem refNumbers_any (w : World) :
    Calls Try.prog 10 #[] w fun e w' => e = .returned (arrV .u32 (allL 64 numI)) ∧ Below w.heap.size w w' := by
  go_enter Try.func10, Try.ntmps10
  have hz : ∀ w2 : World, Blk .u32 (w2.alloc (Obj.cells ((List.replicate 64 0).map (Value.int .u32)).toArray 31)) w2.heap.size 31 (List.replicate 64 0) := fun w2 => Blk.new w2 _ _
  have hA := (hz w).alloc (Obj.cells ((List.replicate 64 0).map (Value.int .u32)).toArray 31)
  have hB := Blk.new' (q := .u32) (w.alloc (Obj.cells ((List.replicate 64 0).map (Value.int .u32)).toArray 31)) (w.heap.size + 1) 31 (List.replicate 64 0) (by simp)
  have hb := xalloc (xalloc (xrefl w) (Obj.cells ((List.replicate 64 0).map (Value.int .u32)).toArray 31)) (Obj.cells ((List.replicate 64 0).map (Value.int .u32)).toArray 31)
  clear hz
  go_wp2
  go_loopw [2] (fun iv wx => ∃ i : Nat, i ≤ 64 ∧ iv = .int .i64 i ∧ Blk .u32 wx w.heap.size 31 (List.replicate 64 0) ∧ Blk .u32 wx (w.heap.size + 1) 31 (fillL 64 numI i) ∧ Below w.heap.size w wx) (fun iv _ => 64 - (intOf iv).toNat)
  case atStart => exact ⟨0, by omega, rfl, hA, by rw [fillL_zero]; exact hB, hb⟩
  case round =>
    clear hA hB hb
    obtain ⟨i, hi, rfl, hA, hB, hb⟩ := hrel
    by_cases hlt : i < 64
    · go_wp2_with (first
        | (go_at_call 14; refine (refNumber_any _ _ hlt).mono ?_; rintro e w4 ⟨rfl, hb4⟩; have hB4 := hB.below hb4; have hfr := hB4.frozen i; have hcl := hB4.cell i (by rw [fillL_len]; exact hlt)))
      have hbb := hb.trans (hb4.mono hb.size)
      refine ⟨⟨i + 1, by omega, rfl, (hA.below hb4).oth _ (by omega), ?_, xsetb hbb (by omega) _⟩, by simp [intOf]; omega⟩
      have := hB4.set i (numI i)
      rw [fillL_succ] at this
      exact this
    · have hi64 : i = 64 := by omega
      subst hi64
      rw [fillL_all _ _ _ (by omega)] at hB
      clear hlt
      go_wp2_with (first
        | (refine wpList_load_blk rfl 31 _ rfl (w.heap.size + 1) rfl .u32 31 (allL 64 numI) _ _ hB Try.underlying31 (by kernel_rfl) ?_)
        | (refine wpList_store_blk rfl 31 _ _ rfl w.heap.size rfl .u32 31 (List.replicate 64 0) (allL 64 numI) hA rfl rfl (by kernel_rfl) ?_; intro w3 h3 ho3))
      refine ret_blk rfl w.heap.size .u32 31 (allL 64 numI) _ _ rfl h3 Try.underlying31 (by kernel_rfl) rfl ⟨rfl, ?_⟩
      exact ho3.below hb hb.size (by rintro i rfl; omega)
end Go.Proofs.Ytfieagpidplmoaa
