/- The document's roots (layer 23): powers. -/
import Derived.Test.YtfieagpidplmoaaWordD
import Derived.Test.YtfieagpidplmoaaRef23A
namespace Go.Proofs.Ytfieagpidplmoaa
open Go.RowKit

theorem refPower_any (X n : Nat) (w : World) (hn1 : 1 ≤ n) (hn : n < 1000) :
    Calls Try.prog 36 #[wordV X, .int .i64 n] w fun e w' => e = .returned (wordV (X ^ n)) ∧ Below w.heap.size w w' := by
  unfold wordV
  go_enter Try.func36, Try.ntmps36
  have h0 : ∀ o1 o2 : Obj, Blk .u64 (((w.alloc (Obj.cells ((wordL X).map (Value.int .u64)).toArray 50)).alloc o1).alloc o2) w.heap.size 50 (wordL X) := fun o1 o2 => ((Blk.new w _ (wordL X)).alloc _).alloc _
  have h2 : ∀ o1 : Obj, Blk .u64 (((w.alloc (Obj.cells ((wordL X).map (Value.int .u64)).toArray 50)).alloc o1).alloc (Obj.cells #[.int .u64 0, .int .u64 0, .int .u64 0, .int .u64 0] 50)) (w.heap.size + 1 + 1) 50 [0, 0, 0, 0] := fun o1 => Blk.new' _ _ _ [0, 0, 0, 0] (by simp)
  have h1 : ∀ o2 : Obj, Blk .u64 (((w.alloc (Obj.cells ((wordL X).map (Value.int .u64)).toArray 50)).alloc (Obj.cells #[.int .u64 0, .int .u64 0, .int .u64 0, .int .u64 0] 50)).alloc o2) (w.heap.size + 1) 50 [0, 0, 0, 0] := fun o2 => (Blk.new' _ _ _ [0, 0, 0, 0] (by simp)).alloc _
  go_wp2_with (first
    | (refine wpList_load_blk rfl 50 _ rfl w.heap.size rfl .u64 50 (wordL X) _ _ ((Blk.new w _ (wordL X)).alloc _) Try.underlying50 (by kernel_rfl) ?_)
    | (refine wpList_store_blk rfl 50 _ _ rfl (w.heap.size + 1 + 1) rfl .u64 50 [0, 0, 0, 0] (wordL X) (h2 _) rfl rfl (by kernel_rfl) ?_; intro w3 h3 ho3))
  have hb3 : Below w.heap.size w w3 := ho3.below (xalloc (xalloc (xalloc (xrefl _) _) _) _) (by simp; omega) (by rintro i rfl; omega)
  have hX := (h0 _ _).only ho3 (by omega)
  have hR := (h1 _).only ho3 (by omega)
  clear h0 h1 h2 ho3
  go_loopw [6] (fun iv wx => ∃ i : Nat, 1 ≤ i ∧ i ≤ n ∧ iv = .int .i64 i ∧ Blk .u64 wx w.heap.size 50 (wordL X) ∧ Blk .u64 wx (w.heap.size + 1) 50 [0, 0, 0, 0] ∧ Blk .u64 wx (w.heap.size + 1 + 1) 50 (wordL (X ^ i)) ∧ Below w.heap.size w wx) (fun iv _ => n - (intOf iv).toNat)
  case atStart => exact ⟨1, by omega, hn1, rfl, hX, hR, by rw [Nat.pow_one]; exact h3, hb3⟩
  case round =>
    clear hX hR h3 hb3
    obtain ⟨i, hi1, hin, rfl, hX, hR, hO, hb⟩ := hrel
    by_cases hlt : i < n
    · go_wp2_with (first
        | (refine wpList_load_blk rfl 50 _ rfl (w.heap.size + 1 + 1) rfl .u64 50 (wordL (X ^ i)) _ _ hO Try.underlying50 (by kernel_rfl) ?_)
        | (refine wpList_load_blk rfl 50 _ rfl w.heap.size rfl .u64 50 (wordL X) _ _ hX Try.underlying50 (by kernel_rfl) ?_)
        | (go_at_call 44; refine (refMul_any _ _ _).mono ?_; rintro e w2 ⟨rfl, hb2⟩)
        | (refine wpList_store_blk rfl 50 _ _ rfl (w.heap.size + 1 + 1) rfl .u64 50 (wordL (X ^ i)) (wordL (X ^ i * X)) (hO.below hb2) rfl rfl (by kernel_rfl) ?_; intro w3 h3 ho3))
      have hbb := hb.trans (hb2.mono hb.size)
      exact ⟨⟨i + 1, by omega, by omega, rfl, (hX.below hb2).only ho3 (by omega), (hR.below hb2).only ho3 (by omega), by rw [Nat.pow_succ]; exact h3, ho3.below hbb hbb.size (by rintro i rfl; omega)⟩, by simp [intOf]; omega⟩
    · have hin : i = n := by omega
      subst hin
      go_wp2_with (first
        | (refine wpList_load_blk rfl 50 _ rfl (w.heap.size + 1 + 1) rfl .u64 50 (wordL (X ^ i)) _ _ hO Try.underlying50 (by kernel_rfl) ?_)
        | (refine wpList_store_blk rfl 50 _ _ rfl (w.heap.size + 1) rfl .u64 50 [0, 0, 0, 0] (wordL (X ^ i)) hR rfl rfl (by kernel_rfl) ?_; intro w3 h3 ho3))
      refine ret_blk rfl (w.heap.size + 1) .u64 50 (wordL (X ^ i)) _ _ rfl h3 Try.underlying50 (by kernel_rfl) rfl ⟨rfl, ?_⟩
      exact ho3.below hb hb.size (by rintro i rfl; omega)
end Go.Proofs.Ytfieagpidplmoaa
