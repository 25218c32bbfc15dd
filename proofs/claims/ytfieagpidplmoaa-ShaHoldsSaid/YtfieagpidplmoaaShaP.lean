/- The statements on the digest (layer 23): the chapter's rows. -/
import Derived.Test.YtfieagpidplmoaaShaN
import Derived.Test.YtfieagpidplmoaaShaNum
import Derived.Lib.SlBytesConst
namespace Go.Proofs.Ytfieagpidplmoaa
open Go.RowKit

theorem wpList_load_blkW {P : Program} {ops : Array Oper} {rest : List Oper} {o : Oper} {a : Act} {w : World} {Q : Exit → Act → World → Prop} (hw : Region.wanted o (yielded ops a.tmps) = true) (ty : TypeId) (x : Operand) (ho : o.op = .load ty x)
    (b : Nat) (hx : a.eval x = .pointer (some ⟨b, 0, none⟩)) (q : IntKind) (T : TypeId) (l : List Int) (n : Nat) (e : TypeId) (hB : Blk q w b T l) (hu : P.underlying ty = some (.array n e)) (hi : (P.info? ty).map (·.size) = some l.length)
    (h : wpList P ops Q rest (a.put o.dst (.agg (l.map (Value.int q)).toArray)) w) : wpList P ops Q (o :: rest) a w := by
  show if _ then _ else _
  rw [if_pos hw]
  exact .inl (wp_load_blk ty x ho b hx q T l n e hB hu hi h)
theorem abc_iv : abcB.map iv8 = [97, 98, 99] := by decide
set_option maxRecDepth 100000 in
set_option maxHeartbeats 2000000 in
theorem works_any (w : World) : Calls Try.prog 7 #[] w fun e w' => e = .returned (.bool true) ∧ Below w.heap.size w w' := by
  have hs0 := fun W => sum_any [] (.slice none 0 0) [] W rfl (by simp) (by simp) (.inl ⟨rfl, rfl⟩)
  rw [sum0] at hs0
  have hs1 := fun W q a c (h : RowsAt W q 0 [(a, c, [97, 98, 99])]) => sum_any abcB (.slice (some ⟨q, 0, none⟩) 1 1) [(a, c, [97, 98, 99])] W (by rw [abc_iv]; rfl) (by simp) (by decide) (.inr ⟨q, 0, rfl, h⟩)
  rw [sum1] at hs1
  unfold arrV at hs0 hs1
  have hz := fun (W : World) => Blk.new (q := .u8) W 24 (List.replicate 32 0)
  replace hs0 := Lib.hid hs0
  replace hs1 := Lib.hid hs1
  replace hz := Lib.hid hz
  have kc := fun (w : World) (C : Array Value) (n c : Nat) => Lib.run_convert_bytes_const (P := Try.prog) w 22 5 C n c Try.underlying22 Try.underlying5
  go_enter Try.func7, Try.ntmps7
  have hrows : ∀ W : World, RowsAt ((W.alloc (.cells #[.int .u8 97, .int .u8 98, .int .u8 99] 5 (3, 4))).alloc (.cells #[.slice (some ⟨W.heap.size, 0, none⟩) 3 3] 22)) (W.heap.size + 1) 0 [(some ⟨W.heap.size, 0, none⟩, 3, [97, 98, 99])] := by
    intro W i hi
    match i, hi with
    | 0, _ =>
      have hh : ((W.alloc (.cells #[.int .u8 97, .int .u8 98, .int .u8 99] 5 (3, 4))).alloc (.cells #[.slice (some ⟨W.heap.size, 0, none⟩) 3 3] 22)).heap[W.heap.size]? = some (.cells #[.int .u8 97, .int .u8 98, .int .u8 99] 5 (3, 4)) :=
        (Below.heap_alloc _ _ _ (by simp)).trans (World.alloc_heap_new W _)
      refine ⟨by simp [go_sem], fun j hj => ⟨_, _, rfl, ?_⟩, by simp⟩
      simp at hj
      match j, hj with
      | 0, _ => simp [World.cell?, hh]
      | 1, _ => simp [World.cell?, hh]
      | 2, _ => simp [World.cell?, hh]
  replace hrows := Lib.hid hrows
  have hzz : ∀ W : World, Blk .u8 ((W.alloc (Obj.cells ((List.replicate 32 0).map (Value.int .u8)).toArray 24)).alloc (Obj.cells ((List.replicate 32 0).map (Value.int .u8)).toArray 24)) (W.heap.size + 1) 24 (List.replicate 32 0) := fun W => Blk.new' _ _ _ _ (by simp)
  replace hzz := Lib.hid hzz
  have hlen : ∀ D, (bytesL D).length = 32 := fun D => by simp [bytesL]
  have hidx := fun W => run_index_ints (P := Try.prog) 31 28 64 .u32 .u32 (rowI 64 numB) 0 W Try.underlying31 Try.underlying28 (by kernel_rfl) (by rw [rowI_len]; decide) (by decide)
  rw [show (rowI 64 numB)[0]'(by rw [rowI_len]; decide) = 1116352408 from by decide +kernel] at hidx
  replace hidx : ∀ W : World, (Instr.index 31 (.agg ((rowI 64 numB).map (Value.int .u32)).toArray) (.int .i64 0)).run Try.prog W = .ok (.int .u32 1116352408) W := hidx
  have hnum := fun W => numbers_any W
  unfold arrV at hnum
  have ht0 := fun W => refText_any dig0 W
  have ht1 := fun W => refText_any dig1 W
  rw [text0] at ht0
  rw [text1] at ht1
  replace hnum := Lib.hid hnum
  replace ht0 := Lib.hid ht0
  replace ht1 := Lib.hid ht1
  have hf0 := Lib.hid (fun W => refFrom_any dig0 W)
  have hf1 := Lib.hid (fun W => refFrom_any dig1 W)
  generalize hd0 : dig0 = d0 at *
  generalize hd1 : dig1 = d1 at *
  have hI0 : (Try.prog.info? 24).map (·.size) = some (bytesL d0).length := by rw [hlen]; kernel_rfl
  have hI1 : (Try.prog.info? 24).map (·.size) = some (bytesL d1).length := by rw [hlen]; kernel_rfl
  have hL0 := hlen d0
  have hL1 := hlen d1
  generalize bytesL d0 = b0 at *
  generalize bytesL d1 = b1 at *
  replace hd0 := Lib.hid hd0
  replace hd1 := Lib.hid hd1
  replace hI0 := Lib.hid hI0
  replace hI1 := Lib.hid hI1
  replace hL0 := Lib.hid hL0
  replace hL1 := Lib.hid hL1
  clear hlen
  go_wp2_with (first
    | (go_at_call 9; (with_reducible refine (hs0.out _).mono ?_); rintro e w1 ⟨rfl, hb1⟩)
    | (go_at_call 9; refine (hs1.out _ _ _ _ (hrows.out w1)).mono ?_; rintro e w2 ⟨rfl, hb2⟩)
    | (refine wpList_store_blk rfl 24 (.tmp 1) _ rfl w2.heap.size rfl .u8 24 (List.replicate 32 0) b0 ((hz.out w2).alloc _) rfl (by rw [hL0.out, List.length_replicate]) hI0.out ?_; intro w3 h3 ho3; have hz3 := (hzz.out w2).only ho3 (by omega))
    | (refine wpList_store_blk rfl 24 (.tmp 2) _ rfl (w2.heap.size + 1) rfl .u8 24 (List.replicate 32 0) b1 hz3 rfl (by rw [hL1.out, List.length_replicate]) hI1.out ?_; intro w4 h4 ho4; have h34 := h3.only ho4 (by omega); have hb4 : Below w.heap.size w w4 := ho4.below (ho3.below (xalloc (xalloc (xtrans (xalloc (xalloc hb1 _) _) hb2) _) _) (by have g1 := hb1.size; have g2 := hb2.size; simp at g2 ⊢; omega) (by have g1 := hb1.size; have g2 := hb2.size; simp at g2 ⊢; omega)) (by have g1 := hb1.size; have g2 := hb2.size; have g3 := ho3.size; simp at g2 g3; omega) (by have g1 := hb1.size; have g2 := hb2.size; simp at g2 ⊢; omega))
    | (refine wpList_load_blk rfl 24 (.tmp 1) rfl w2.heap.size rfl .u8 24 b0 _ _ h34 Try.underlying24 hI0.out ?_)
    | (go_at_call 21; (with_reducible refine (hf0.out _).mono ?_); rintro e w5 ⟨rfl, hb5⟩)
    | (go_at_call 20; (with_reducible refine (ht0.out _).mono ?_); rintro e w6 ⟨rfl, hb6⟩; unfold strV txt0; have h46 := (h4.below hb5).below hb6)
    | (refine wpList_load_blkW rfl 24 (.tmp 2) rfl (w2.heap.size + 1) rfl .u8 24 b1 _ _ h46 Try.underlying24 hI1.out ?_)
    | (go_at_call 21; (with_reducible refine (hf1.out _).mono ?_); rintro e w7 ⟨rfl, hb7⟩)
    | (go_at_call 20; (with_reducible refine (ht1.out _).mono ?_); rintro e w8 ⟨rfl, hb8⟩; unfold strV txt1)
    | (go_at_call 13; refine (hnum.out _).mono ?_; rintro e w9 ⟨rfl, hb9⟩))
  go_ret
  exact ⟨rfl, xtrans (xtrans (xtrans (xtrans (xtrans hb4 hb5) hb6) hb7) hb8) hb9⟩
end Go.Proofs.Ytfieagpidplmoaa
