/- The program's digest (layer 23): the round numbers. -/
import Derived.Test.YtfieagpidplmoaaShaH
import Derived.Test.YtfieagpidplmoaaRef23I
namespace Go.Proofs.Ytfieagpidplmoaa
open Go.RowKit

theorem pl_primes : ∀ j, j < 64 → (pl 314).getD j 0 = primeF j := by decide +kernel
theorem roots_nums : rootsL 64 true = rowI 64 numB := allL_congr fun j hj => by
  show rootI true ((pl 314).getD j 0) = iv32 (numB j)
  rw [pl_primes j hj, numB_iv j hj]
  unfold rootI numI
  simp only [if_true]
  rw [(nums_ok j hj).2.2.1]
theorem roots_begs : rootsL 8 false = rowI 8 begB := allL_congr fun j hj => by
  show rootI false ((pl 314).getD j 0) = iv32 (begB j)
  rw [pl_primes j (by omega), begB_iv j hj]
  unfold rootI begI
  simp only [Bool.false_eq_true, if_false]
  rw [(begs_ok j hj).2.2.1]

theorem numbers_any (w : World) : Calls Try.prog 13 #[] w fun e w' => e = .returned (arrV .u32 (rowI 64 numB)) ∧ Below w.heap.size w w' := by
  have hz := Blk.new (q := .u32) w 31 (List.replicate 64 0)
  have hr := roots_any w.heap.size 64 31 true (w.alloc (Obj.cells ((List.replicate 64 0).map (Value.int .u32)).toArray 31)) (by omega) hz
  rw [roots_nums] at hr
  replace hr := Lib.hid hr
  replace hz := Lib.hid hz
  go_enter Try.func13, Try.ntmps13
  go_wp2_with (first
    | (go_at_call 22; refine hr.out.mono ?_; rintro e w1 ⟨rfl, h1, ho1⟩)
    | (refine wpList_load_blk rfl 31 _ rfl w.heap.size rfl .u32 31 (rowI 64 numB) _ _ h1 Try.underlying31 (by rw [rowI_len]; kernel_rfl) ?_)
    | (refine wpList_store_blk rfl 31 _ _ rfl w.heap.size rfl .u32 31 (rowI 64 numB) (rowI 64 numB) h1 rfl rfl (by rw [rowI_len]; kernel_rfl) ?_; intro w2 h2 ho2))
  refine ret_blk rfl w.heap.size .u32 31 (rowI 64 numB) _ _ rfl h2 Try.underlying31 (by rw [rowI_len]; kernel_rfl) rfl ⟨rfl, ?_⟩
  have hb1 : Below w.heap.size w w1 := ho1.below (xalloc (xrefl w) _) (by rw [World.size_alloc]; omega) (by rintro i rfl; omega)
  exact ho2.below hb1 hb1.size (by rintro i rfl; omega)
end Go.Proofs.Ytfieagpidplmoaa
