/- Texts of this claim, merged; no condition. -/
import Derived.Test.YtbicfaiabpcgfaaGreatDoorD09
set_option linter.all false
namespace Go.Proofs.YtbicfaiabpcgfaaGreatDoor
open Go.RowKit Go.Shelf

/-- An operation whose value and world are known. -/
theorem wpList_execW {P : Program} {ops : Array Oper} {rest : List Oper} {o : Oper} {a : Act} {w : World} {Q : Exit → Act → World → Prop} (hgd : o.guard = none) (v : Value) (w' : World) (hr : (execOp a.eval o).run P w = .ok (.value v) w') (h : wpList P ops Q rest (a.put o.dst v) w') : wpList P ops Q (o :: rest) a w :=
  wpList_plain hgd fun _ hK => by unfold Oper.wp; rw [hr]; exact hK _ _ h
def aloneRows : List (Nat × InfoN) := lowRows ++ middleRows ++ highRows
def infoC (x : InfoN) : List Value := [.string ⟨x.name.toArray⟩, .int .i64 x.ins, .int .i64 x.outs, .int .u64 x.gas, .bool x.quiet, .int .i64 x.size]
def aloneC (r : Nat × InfoN) : List Value := .int .u8 r.1 :: infoC r.2
def aloneV : List Value := aloneRows.flatMap aloneC
def info0 : List Value := [.string ⟨#[]⟩, .int .i64 0, .int .i64 0, .int .u64 0, .bool false, .int .i64 0]
def aloneZ : List Value := (List.replicate 75 (.int .u8 0 :: info0)).flatten
theorem aloneV_one : aloneV.all (·.oneCell') = true := by decide +kernel
set_option maxRecDepth 100000 in
set_option maxHeartbeats 16000000 in
theorem alone_any (w : World) : Calls Tryz.prog 23 #[] w fun e w' => e = .returned (.agg aloneV.toArray) ∧ Below w.heap.size w w' := by
  have hB0 : Hid (BlkG (w.alloc (.cells aloneZ.toArray 56)) w.heap.size 56 aloneZ) := Lib.hid (BlkG.new w _ _)
  have hb0 : Hid (Below w.heap.size w (w.alloc (.cells aloneZ.toArray 56))) := Lib.hid (xalloc (xrefl w) _)
  go_enter Tryz.func23, Tryz.ntmps23
  (try go_upto_region 0 with fail)
  refine wp_region_lit ?_
  refine wpList_execW rfl (.pointer (some ⟨w.heap.size, 0, none⟩)) (w.alloc (.cells aloneZ.toArray 56)) (by kernel_rfl) ?_
  refine wpList_nil ?_
  go_upto_region 1 with fail
  refine wp_region_lit ?_
  generalize w.alloc (.cells aloneZ.toArray 56) = w1 at *
  simp only [Act.put, List.setIfInBounds_toArray, List.set_cons_succ, List.set_cons_zero]
  refine wpList_execW rfl (.agg #[.string ⟨#[83, 84, 79, 80]⟩, .int .i64 0, .int .i64 0, .int .u64 0, .bool false, .int .i64 0]) w1 (by kernel_rfl) ?_
  simp only [Act.put, List.setIfInBounds_toArray, List.set_cons_succ, List.set_cons_zero]
  refine wpList_execW rfl (.agg #[.int .u8 0, .string ⟨#[83, 84, 79, 80]⟩, .int .i64 0, .int .i64 0, .int .u64 0, .bool false, .int .i64 0]) w1 (by kernel_rfl) ?_
  simp only [Act.put, List.setIfInBounds_toArray, List.set_cons_succ, List.set_cons_zero]
  refine wpList_execW rfl (.agg #[.string ⟨#[65, 68, 68]⟩, .int .i64 2, .int .i64 1, .int .u64 3, .bool true, .int .i64 0]) w1 (by kernel_rfl) ?_
  simp only [Act.put, List.setIfInBounds_toArray, List.set_cons_succ, List.set_cons_zero]
  refine wpList_execW rfl (.agg #[.int .u8 1, .string ⟨#[65, 68, 68]⟩, .int .i64 2, .int .i64 1, .int .u64 3, .bool true, .int .i64 0]) w1 (by kernel_rfl) ?_
  simp only [Act.put, List.setIfInBounds_toArray, List.set_cons_succ, List.set_cons_zero]
  refine wpList_execW rfl (.agg #[.string ⟨#[77, 85, 76]⟩, .int .i64 2, .int .i64 1, .int .u64 5, .bool true, .int .i64 0]) w1 (by kernel_rfl) ?_
  simp only [Act.put, List.setIfInBounds_toArray, List.set_cons_succ, List.set_cons_zero]
  refine wpList_execW rfl (.agg #[.int .u8 2, .string ⟨#[77, 85, 76]⟩, .int .i64 2, .int .i64 1, .int .u64 5, .bool true, .int .i64 0]) w1 (by kernel_rfl) ?_
  simp only [Act.put, List.setIfInBounds_toArray, List.set_cons_succ, List.set_cons_zero]
  refine wpList_execW rfl (.agg #[.string ⟨#[83, 85, 66]⟩, .int .i64 2, .int .i64 1, .int .u64 3, .bool true, .int .i64 0]) w1 (by kernel_rfl) ?_
  simp only [Act.put, List.setIfInBounds_toArray, List.set_cons_succ, List.set_cons_zero]
  refine wpList_execW rfl (.agg #[.int .u8 3, .string ⟨#[83, 85, 66]⟩, .int .i64 2, .int .i64 1, .int .u64 3, .bool true, .int .i64 0]) w1 (by kernel_rfl) ?_
  simp only [Act.put, List.setIfInBounds_toArray, List.set_cons_succ, List.set_cons_zero]
  refine wpList_execW rfl (.agg #[.string ⟨#[68, 73, 86]⟩, .int .i64 2, .int .i64 1, .int .u64 5, .bool true, .int .i64 0]) w1 (by kernel_rfl) ?_
  simp only [Act.put, List.setIfInBounds_toArray, List.set_cons_succ, List.set_cons_zero]
  refine wpList_execW rfl (.agg #[.int .u8 4, .string ⟨#[68, 73, 86]⟩, .int .i64 2, .int .i64 1, .int .u64 5, .bool true, .int .i64 0]) w1 (by kernel_rfl) ?_
  simp only [Act.put, List.setIfInBounds_toArray, List.set_cons_succ, List.set_cons_zero]
  refine wpList_execW rfl (.agg #[.string ⟨#[83, 68, 73, 86]⟩, .int .i64 2, .int .i64 1, .int .u64 5, .bool true, .int .i64 0]) w1 (by kernel_rfl) ?_
  simp only [Act.put, List.setIfInBounds_toArray, List.set_cons_succ, List.set_cons_zero]
  refine wpList_execW rfl (.agg #[.int .u8 5, .string ⟨#[83, 68, 73, 86]⟩, .int .i64 2, .int .i64 1, .int .u64 5, .bool true, .int .i64 0]) w1 (by kernel_rfl) ?_
  simp only [Act.put, List.setIfInBounds_toArray, List.set_cons_succ, List.set_cons_zero]
  refine wpList_execW rfl (.agg #[.string ⟨#[77, 79, 68]⟩, .int .i64 2, .int .i64 1, .int .u64 5, .bool true, .int .i64 0]) w1 (by kernel_rfl) ?_
  simp only [Act.put, List.setIfInBounds_toArray, List.set_cons_succ, List.set_cons_zero]
  refine wpList_execW rfl (.agg #[.int .u8 6, .string ⟨#[77, 79, 68]⟩, .int .i64 2, .int .i64 1, .int .u64 5, .bool true, .int .i64 0]) w1 (by kernel_rfl) ?_
  simp only [Act.put, List.setIfInBounds_toArray, List.set_cons_succ, List.set_cons_zero]
  refine wpList_execW rfl (.agg #[.string ⟨#[83, 77, 79, 68]⟩, .int .i64 2, .int .i64 1, .int .u64 5, .bool true, .int .i64 0]) w1 (by kernel_rfl) ?_
  simp only [Act.put, List.setIfInBounds_toArray, List.set_cons_succ, List.set_cons_zero]
  refine wpList_execW rfl (.agg #[.int .u8 7, .string ⟨#[83, 77, 79, 68]⟩, .int .i64 2, .int .i64 1, .int .u64 5, .bool true, .int .i64 0]) w1 (by kernel_rfl) ?_
  simp only [Act.put, List.setIfInBounds_toArray, List.set_cons_succ, List.set_cons_zero]
  refine wpList_execW rfl (.agg #[.string ⟨#[65, 68, 68, 77, 79, 68]⟩, .int .i64 3, .int .i64 1, .int .u64 8, .bool true, .int .i64 0]) w1 (by kernel_rfl) ?_
  simp only [Act.put, List.setIfInBounds_toArray, List.set_cons_succ, List.set_cons_zero]
  refine wpList_execW rfl (.agg #[.int .u8 8, .string ⟨#[65, 68, 68, 77, 79, 68]⟩, .int .i64 3, .int .i64 1, .int .u64 8, .bool true, .int .i64 0]) w1 (by kernel_rfl) ?_
  simp only [Act.put, List.setIfInBounds_toArray, List.set_cons_succ, List.set_cons_zero]
  refine wpList_execW rfl (.agg #[.string ⟨#[77, 85, 76, 77, 79, 68]⟩, .int .i64 3, .int .i64 1, .int .u64 8, .bool true, .int .i64 0]) w1 (by kernel_rfl) ?_
  simp only [Act.put, List.setIfInBounds_toArray, List.set_cons_succ, List.set_cons_zero]
  refine wpList_execW rfl (.agg #[.int .u8 9, .string ⟨#[77, 85, 76, 77, 79, 68]⟩, .int .i64 3, .int .i64 1, .int .u64 8, .bool true, .int .i64 0]) w1 (by kernel_rfl) ?_
  simp only [Act.put, List.setIfInBounds_toArray, List.set_cons_succ, List.set_cons_zero]
  refine wpList_execW rfl (.agg #[.string ⟨#[69, 88, 80]⟩, .int .i64 2, .int .i64 1, .int .u64 10, .bool false, .int .i64 0]) w1 (by kernel_rfl) ?_
  simp only [Act.put, List.setIfInBounds_toArray, List.set_cons_succ, List.set_cons_zero]
  refine wpList_execW rfl (.agg #[.int .u8 10, .string ⟨#[69, 88, 80]⟩, .int .i64 2, .int .i64 1, .int .u64 10, .bool false, .int .i64 0]) w1 (by kernel_rfl) ?_
  simp only [Act.put, List.setIfInBounds_toArray, List.set_cons_succ, List.set_cons_zero]
  refine wpList_execW rfl (.agg #[.string ⟨#[83, 73, 71, 78, 69, 88, 84, 69, 78, 68]⟩, .int .i64 2, .int .i64 1, .int .u64 5, .bool true, .int .i64 0]) w1 (by kernel_rfl) ?_
  simp only [Act.put, List.setIfInBounds_toArray, List.set_cons_succ, List.set_cons_zero]
  refine wpList_execW rfl (.agg #[.int .u8 11, .string ⟨#[83, 73, 71, 78, 69, 88, 84, 69, 78, 68]⟩, .int .i64 2, .int .i64 1, .int .u64 5, .bool true, .int .i64 0]) w1 (by kernel_rfl) ?_
  simp only [Act.put, List.setIfInBounds_toArray, List.set_cons_succ, List.set_cons_zero]
  refine wpList_execW rfl (.agg #[.string ⟨#[76, 84]⟩, .int .i64 2, .int .i64 1, .int .u64 3, .bool true, .int .i64 0]) w1 (by kernel_rfl) ?_
  simp only [Act.put, List.setIfInBounds_toArray, List.set_cons_succ, List.set_cons_zero]
  refine wpList_execW rfl (.agg #[.int .u8 16, .string ⟨#[76, 84]⟩, .int .i64 2, .int .i64 1, .int .u64 3, .bool true, .int .i64 0]) w1 (by kernel_rfl) ?_
  simp only [Act.put, List.setIfInBounds_toArray, List.set_cons_succ, List.set_cons_zero]
  refine wpList_execW rfl (.agg #[.string ⟨#[71, 84]⟩, .int .i64 2, .int .i64 1, .int .u64 3, .bool true, .int .i64 0]) w1 (by kernel_rfl) ?_
  simp only [Act.put, List.setIfInBounds_toArray, List.set_cons_succ, List.set_cons_zero]
  refine wpList_execW rfl (.agg #[.int .u8 17, .string ⟨#[71, 84]⟩, .int .i64 2, .int .i64 1, .int .u64 3, .bool true, .int .i64 0]) w1 (by kernel_rfl) ?_
  simp only [Act.put, List.setIfInBounds_toArray, List.set_cons_succ, List.set_cons_zero]
  refine wpList_execW rfl (.agg #[.string ⟨#[83, 76, 84]⟩, .int .i64 2, .int .i64 1, .int .u64 3, .bool true, .int .i64 0]) w1 (by kernel_rfl) ?_
  simp only [Act.put, List.setIfInBounds_toArray, List.set_cons_succ, List.set_cons_zero]
  refine wpList_execW rfl (.agg #[.int .u8 18, .string ⟨#[83, 76, 84]⟩, .int .i64 2, .int .i64 1, .int .u64 3, .bool true, .int .i64 0]) w1 (by kernel_rfl) ?_
  simp only [Act.put, List.setIfInBounds_toArray, List.set_cons_succ, List.set_cons_zero]
  refine wpList_execW rfl (.agg #[.string ⟨#[83, 71, 84]⟩, .int .i64 2, .int .i64 1, .int .u64 3, .bool true, .int .i64 0]) w1 (by kernel_rfl) ?_
  simp only [Act.put, List.setIfInBounds_toArray, List.set_cons_succ, List.set_cons_zero]
  refine wpList_execW rfl (.agg #[.int .u8 19, .string ⟨#[83, 71, 84]⟩, .int .i64 2, .int .i64 1, .int .u64 3, .bool true, .int .i64 0]) w1 (by kernel_rfl) ?_
  simp only [Act.put, List.setIfInBounds_toArray, List.set_cons_succ, List.set_cons_zero]
  refine wpList_execW rfl (.agg #[.string ⟨#[69, 81]⟩, .int .i64 2, .int .i64 1, .int .u64 3, .bool true, .int .i64 0]) w1 (by kernel_rfl) ?_
  simp only [Act.put, List.setIfInBounds_toArray, List.set_cons_succ, List.set_cons_zero]
  refine wpList_execW rfl (.agg #[.int .u8 20, .string ⟨#[69, 81]⟩, .int .i64 2, .int .i64 1, .int .u64 3, .bool true, .int .i64 0]) w1 (by kernel_rfl) ?_
  simp only [Act.put, List.setIfInBounds_toArray, List.set_cons_succ, List.set_cons_zero]
  refine wpList_execW rfl (.agg #[.string ⟨#[73, 83, 90, 69, 82, 79]⟩, .int .i64 1, .int .i64 1, .int .u64 3, .bool true, .int .i64 0]) w1 (by kernel_rfl) ?_
  simp only [Act.put, List.setIfInBounds_toArray, List.set_cons_succ, List.set_cons_zero]
  refine wpList_execW rfl (.agg #[.int .u8 21, .string ⟨#[73, 83, 90, 69, 82, 79]⟩, .int .i64 1, .int .i64 1, .int .u64 3, .bool true, .int .i64 0]) w1 (by kernel_rfl) ?_
  simp only [Act.put, List.setIfInBounds_toArray, List.set_cons_succ, List.set_cons_zero]
  refine wpList_execW rfl (.agg #[.string ⟨#[65, 78, 68]⟩, .int .i64 2, .int .i64 1, .int .u64 3, .bool true, .int .i64 0]) w1 (by kernel_rfl) ?_
  simp only [Act.put, List.setIfInBounds_toArray, List.set_cons_succ, List.set_cons_zero]
  refine wpList_execW rfl (.agg #[.int .u8 22, .string ⟨#[65, 78, 68]⟩, .int .i64 2, .int .i64 1, .int .u64 3, .bool true, .int .i64 0]) w1 (by kernel_rfl) ?_
  simp only [Act.put, List.setIfInBounds_toArray, List.set_cons_succ, List.set_cons_zero]
  refine wpList_execW rfl (.agg #[.string ⟨#[79, 82]⟩, .int .i64 2, .int .i64 1, .int .u64 3, .bool true, .int .i64 0]) w1 (by kernel_rfl) ?_
  simp only [Act.put, List.setIfInBounds_toArray, List.set_cons_succ, List.set_cons_zero]
  refine wpList_execW rfl (.agg #[.int .u8 23, .string ⟨#[79, 82]⟩, .int .i64 2, .int .i64 1, .int .u64 3, .bool true, .int .i64 0]) w1 (by kernel_rfl) ?_
  simp only [Act.put, List.setIfInBounds_toArray, List.set_cons_succ, List.set_cons_zero]
  refine wpList_execW rfl (.agg #[.string ⟨#[88, 79, 82]⟩, .int .i64 2, .int .i64 1, .int .u64 3, .bool true, .int .i64 0]) w1 (by kernel_rfl) ?_
  simp only [Act.put, List.setIfInBounds_toArray, List.set_cons_succ, List.set_cons_zero]
  refine wpList_execW rfl (.agg #[.int .u8 24, .string ⟨#[88, 79, 82]⟩, .int .i64 2, .int .i64 1, .int .u64 3, .bool true, .int .i64 0]) w1 (by kernel_rfl) ?_
  simp only [Act.put, List.setIfInBounds_toArray, List.set_cons_succ, List.set_cons_zero]
  refine wpList_execW rfl (.agg #[.string ⟨#[78, 79, 84]⟩, .int .i64 1, .int .i64 1, .int .u64 3, .bool true, .int .i64 0]) w1 (by kernel_rfl) ?_
  simp only [Act.put, List.setIfInBounds_toArray, List.set_cons_succ, List.set_cons_zero]
  refine wpList_execW rfl (.agg #[.int .u8 25, .string ⟨#[78, 79, 84]⟩, .int .i64 1, .int .i64 1, .int .u64 3, .bool true, .int .i64 0]) w1 (by kernel_rfl) ?_
  simp only [Act.put, List.setIfInBounds_toArray, List.set_cons_succ, List.set_cons_zero]
  refine wpList_execW rfl (.agg #[.string ⟨#[66, 89, 84, 69]⟩, .int .i64 2, .int .i64 1, .int .u64 3, .bool true, .int .i64 0]) w1 (by kernel_rfl) ?_
  simp only [Act.put, List.setIfInBounds_toArray, List.set_cons_succ, List.set_cons_zero]
  refine wpList_execW rfl (.agg #[.int .u8 26, .string ⟨#[66, 89, 84, 69]⟩, .int .i64 2, .int .i64 1, .int .u64 3, .bool true, .int .i64 0]) w1 (by kernel_rfl) ?_
  simp only [Act.put, List.setIfInBounds_toArray, List.set_cons_succ, List.set_cons_zero]
  refine wpList_execW rfl (.agg #[.string ⟨#[83, 72, 76]⟩, .int .i64 2, .int .i64 1, .int .u64 3, .bool true, .int .i64 0]) w1 (by kernel_rfl) ?_
  simp only [Act.put, List.setIfInBounds_toArray, List.set_cons_succ, List.set_cons_zero]
  refine wpList_execW rfl (.agg #[.int .u8 27, .string ⟨#[83, 72, 76]⟩, .int .i64 2, .int .i64 1, .int .u64 3, .bool true, .int .i64 0]) w1 (by kernel_rfl) ?_
  simp only [Act.put, List.setIfInBounds_toArray, List.set_cons_succ, List.set_cons_zero]
  refine wpList_execW rfl (.agg #[.string ⟨#[83, 72, 82]⟩, .int .i64 2, .int .i64 1, .int .u64 3, .bool true, .int .i64 0]) w1 (by kernel_rfl) ?_
  simp only [Act.put, List.setIfInBounds_toArray, List.set_cons_succ, List.set_cons_zero]
  refine wpList_execW rfl (.agg #[.int .u8 28, .string ⟨#[83, 72, 82]⟩, .int .i64 2, .int .i64 1, .int .u64 3, .bool true, .int .i64 0]) w1 (by kernel_rfl) ?_
  simp only [Act.put, List.setIfInBounds_toArray, List.set_cons_succ, List.set_cons_zero]
  refine wpList_execW rfl (.agg #[.string ⟨#[83, 65, 82]⟩, .int .i64 2, .int .i64 1, .int .u64 3, .bool true, .int .i64 0]) w1 (by kernel_rfl) ?_
  simp only [Act.put, List.setIfInBounds_toArray, List.set_cons_succ, List.set_cons_zero]
  refine wpList_execW rfl (.agg #[.int .u8 29, .string ⟨#[83, 65, 82]⟩, .int .i64 2, .int .i64 1, .int .u64 3, .bool true, .int .i64 0]) w1 (by kernel_rfl) ?_
  simp only [Act.put, List.setIfInBounds_toArray, List.set_cons_succ, List.set_cons_zero]
  refine wpList_execW rfl (.agg #[.string ⟨#[75, 69, 67, 67, 65, 75, 50, 53, 54]⟩, .int .i64 2, .int .i64 1, .int .u64 30, .bool false, .int .i64 0]) w1 (by kernel_rfl) ?_
  simp only [Act.put, List.setIfInBounds_toArray, List.set_cons_succ, List.set_cons_zero]
  refine wpList_execW rfl (.agg #[.int .u8 32, .string ⟨#[75, 69, 67, 67, 65, 75, 50, 53, 54]⟩, .int .i64 2, .int .i64 1, .int .u64 30, .bool false, .int .i64 0]) w1 (by kernel_rfl) ?_
  simp only [Act.put, List.setIfInBounds_toArray, List.set_cons_succ, List.set_cons_zero]
  refine wpList_execW rfl (.agg #[.string ⟨#[65, 68, 68, 82, 69, 83, 83]⟩, .int .i64 0, .int .i64 1, .int .u64 2, .bool true, .int .i64 0]) w1 (by kernel_rfl) ?_
  simp only [Act.put, List.setIfInBounds_toArray, List.set_cons_succ, List.set_cons_zero]
  refine wpList_execW rfl (.agg #[.int .u8 48, .string ⟨#[65, 68, 68, 82, 69, 83, 83]⟩, .int .i64 0, .int .i64 1, .int .u64 2, .bool true, .int .i64 0]) w1 (by kernel_rfl) ?_
  simp only [Act.put, List.setIfInBounds_toArray, List.set_cons_succ, List.set_cons_zero]
  refine wpList_execW rfl (.agg #[.string ⟨#[66, 65, 76, 65, 78, 67, 69]⟩, .int .i64 1, .int .i64 1, .int .u64 0, .bool false, .int .i64 0]) w1 (by kernel_rfl) ?_
  simp only [Act.put, List.setIfInBounds_toArray, List.set_cons_succ, List.set_cons_zero]
  refine wpList_execW rfl (.agg #[.int .u8 49, .string ⟨#[66, 65, 76, 65, 78, 67, 69]⟩, .int .i64 1, .int .i64 1, .int .u64 0, .bool false, .int .i64 0]) w1 (by kernel_rfl) ?_
  simp only [Act.put, List.setIfInBounds_toArray, List.set_cons_succ, List.set_cons_zero]
  refine wpList_execW rfl (.agg #[.string ⟨#[79, 82, 73, 71, 73, 78]⟩, .int .i64 0, .int .i64 1, .int .u64 2, .bool true, .int .i64 0]) w1 (by kernel_rfl) ?_
  simp only [Act.put, List.setIfInBounds_toArray, List.set_cons_succ, List.set_cons_zero]
  refine wpList_execW rfl (.agg #[.int .u8 50, .string ⟨#[79, 82, 73, 71, 73, 78]⟩, .int .i64 0, .int .i64 1, .int .u64 2, .bool true, .int .i64 0]) w1 (by kernel_rfl) ?_
  simp only [Act.put, List.setIfInBounds_toArray, List.set_cons_succ, List.set_cons_zero]
  refine wpList_execW rfl (.agg #[.string ⟨#[67, 65, 76, 76, 69, 82]⟩, .int .i64 0, .int .i64 1, .int .u64 2, .bool true, .int .i64 0]) w1 (by kernel_rfl) ?_
  simp only [Act.put, List.setIfInBounds_toArray, List.set_cons_succ, List.set_cons_zero]
  refine wpList_execW rfl (.agg #[.int .u8 51, .string ⟨#[67, 65, 76, 76, 69, 82]⟩, .int .i64 0, .int .i64 1, .int .u64 2, .bool true, .int .i64 0]) w1 (by kernel_rfl) ?_
  simp only [Act.put, List.setIfInBounds_toArray, List.set_cons_succ, List.set_cons_zero]
  refine wpList_execW rfl (.agg #[.string ⟨#[67, 65, 76, 76, 86, 65, 76, 85, 69]⟩, .int .i64 0, .int .i64 1, .int .u64 2, .bool true, .int .i64 0]) w1 (by kernel_rfl) ?_
  simp only [Act.put, List.setIfInBounds_toArray, List.set_cons_succ, List.set_cons_zero]
  refine wpList_execW rfl (.agg #[.int .u8 52, .string ⟨#[67, 65, 76, 76, 86, 65, 76, 85, 69]⟩, .int .i64 0, .int .i64 1, .int .u64 2, .bool true, .int .i64 0]) w1 (by kernel_rfl) ?_
  simp only [Act.put, List.setIfInBounds_toArray, List.set_cons_succ, List.set_cons_zero]
  refine wpList_execW rfl (.agg #[.string ⟨#[67, 65, 76, 76, 68, 65, 84, 65, 76, 79, 65, 68]⟩, .int .i64 1, .int .i64 1, .int .u64 3, .bool false, .int .i64 0]) w1 (by kernel_rfl) ?_
  simp only [Act.put, List.setIfInBounds_toArray, List.set_cons_succ, List.set_cons_zero]
  refine wpList_execW rfl (.agg #[.int .u8 53, .string ⟨#[67, 65, 76, 76, 68, 65, 84, 65, 76, 79, 65, 68]⟩, .int .i64 1, .int .i64 1, .int .u64 3, .bool false, .int .i64 0]) w1 (by kernel_rfl) ?_
  simp only [Act.put, List.setIfInBounds_toArray, List.set_cons_succ, List.set_cons_zero]
  refine wpList_execW rfl (.agg #[.string ⟨#[67, 65, 76, 76, 68, 65, 84, 65, 83, 73, 90, 69]⟩, .int .i64 0, .int .i64 1, .int .u64 2, .bool true, .int .i64 0]) w1 (by kernel_rfl) ?_
  simp only [Act.put, List.setIfInBounds_toArray, List.set_cons_succ, List.set_cons_zero]
  refine wpList_execW rfl (.agg #[.int .u8 54, .string ⟨#[67, 65, 76, 76, 68, 65, 84, 65, 83, 73, 90, 69]⟩, .int .i64 0, .int .i64 1, .int .u64 2, .bool true, .int .i64 0]) w1 (by kernel_rfl) ?_
  simp only [Act.put, List.setIfInBounds_toArray, List.set_cons_succ, List.set_cons_zero]
  refine wpList_execW rfl (.agg #[.string ⟨#[67, 65, 76, 76, 68, 65, 84, 65, 67, 79, 80, 89]⟩, .int .i64 3, .int .i64 0, .int .u64 3, .bool false, .int .i64 0]) w1 (by kernel_rfl) ?_
  simp only [Act.put, List.setIfInBounds_toArray, List.set_cons_succ, List.set_cons_zero]
  refine wpList_execW rfl (.agg #[.int .u8 55, .string ⟨#[67, 65, 76, 76, 68, 65, 84, 65, 67, 79, 80, 89]⟩, .int .i64 3, .int .i64 0, .int .u64 3, .bool false, .int .i64 0]) w1 (by kernel_rfl) ?_
  simp only [Act.put, List.setIfInBounds_toArray, List.set_cons_succ, List.set_cons_zero]
  refine wpList_execW rfl (.agg #[.string ⟨#[67, 79, 68, 69, 83, 73, 90, 69]⟩, .int .i64 0, .int .i64 1, .int .u64 2, .bool true, .int .i64 0]) w1 (by kernel_rfl) ?_
  simp only [Act.put, List.setIfInBounds_toArray, List.set_cons_succ, List.set_cons_zero]
  refine wpList_execW rfl (.agg #[.int .u8 56, .string ⟨#[67, 79, 68, 69, 83, 73, 90, 69]⟩, .int .i64 0, .int .i64 1, .int .u64 2, .bool true, .int .i64 0]) w1 (by kernel_rfl) ?_
  simp only [Act.put, List.setIfInBounds_toArray, List.set_cons_succ, List.set_cons_zero]
  refine wpList_execW rfl (.agg #[.string ⟨#[67, 79, 68, 69, 67, 79, 80, 89]⟩, .int .i64 3, .int .i64 0, .int .u64 3, .bool false, .int .i64 0]) w1 (by kernel_rfl) ?_
  simp only [Act.put, List.setIfInBounds_toArray, List.set_cons_succ, List.set_cons_zero]
  refine wpList_execW rfl (.agg #[.int .u8 57, .string ⟨#[67, 79, 68, 69, 67, 79, 80, 89]⟩, .int .i64 3, .int .i64 0, .int .u64 3, .bool false, .int .i64 0]) w1 (by kernel_rfl) ?_
  simp only [Act.put, List.setIfInBounds_toArray, List.set_cons_succ, List.set_cons_zero]
  refine wpList_execW rfl (.agg #[.string ⟨#[71, 65, 83, 80, 82, 73, 67, 69]⟩, .int .i64 0, .int .i64 1, .int .u64 2, .bool true, .int .i64 0]) w1 (by kernel_rfl) ?_
  simp only [Act.put, List.setIfInBounds_toArray, List.set_cons_succ, List.set_cons_zero]
  refine wpList_execW rfl (.agg #[.int .u8 58, .string ⟨#[71, 65, 83, 80, 82, 73, 67, 69]⟩, .int .i64 0, .int .i64 1, .int .u64 2, .bool true, .int .i64 0]) w1 (by kernel_rfl) ?_
  simp only [Act.put, List.setIfInBounds_toArray, List.set_cons_succ, List.set_cons_zero]
  refine wpList_execW rfl (.agg #[.string ⟨#[69, 88, 84, 67, 79, 68, 69, 83, 73, 90, 69]⟩, .int .i64 1, .int .i64 1, .int .u64 0, .bool false, .int .i64 0]) w1 (by kernel_rfl) ?_
  simp only [Act.put, List.setIfInBounds_toArray, List.set_cons_succ, List.set_cons_zero]
  refine wpList_execW rfl (.agg #[.int .u8 59, .string ⟨#[69, 88, 84, 67, 79, 68, 69, 83, 73, 90, 69]⟩, .int .i64 1, .int .i64 1, .int .u64 0, .bool false, .int .i64 0]) w1 (by kernel_rfl) ?_
  simp only [Act.put, List.setIfInBounds_toArray, List.set_cons_succ, List.set_cons_zero]
  refine wpList_execW rfl (.agg #[.string ⟨#[69, 88, 84, 67, 79, 68, 69, 67, 79, 80, 89]⟩, .int .i64 4, .int .i64 0, .int .u64 0, .bool false, .int .i64 0]) w1 (by kernel_rfl) ?_
  simp only [Act.put, List.setIfInBounds_toArray, List.set_cons_succ, List.set_cons_zero]
  refine wpList_execW rfl (.agg #[.int .u8 60, .string ⟨#[69, 88, 84, 67, 79, 68, 69, 67, 79, 80, 89]⟩, .int .i64 4, .int .i64 0, .int .u64 0, .bool false, .int .i64 0]) w1 (by kernel_rfl) ?_
  simp only [Act.put, List.setIfInBounds_toArray, List.set_cons_succ, List.set_cons_zero]
  refine wpList_execW rfl (.agg #[.string ⟨#[82, 69, 84, 85, 82, 78, 68, 65, 84, 65, 83, 73, 90, 69]⟩, .int .i64 0, .int .i64 1, .int .u64 2, .bool true, .int .i64 0]) w1 (by kernel_rfl) ?_
  simp only [Act.put, List.setIfInBounds_toArray, List.set_cons_succ, List.set_cons_zero]
  refine wpList_execW rfl (.agg #[.int .u8 61, .string ⟨#[82, 69, 84, 85, 82, 78, 68, 65, 84, 65, 83, 73, 90, 69]⟩, .int .i64 0, .int .i64 1, .int .u64 2, .bool true, .int .i64 0]) w1 (by kernel_rfl) ?_
  simp only [Act.put, List.setIfInBounds_toArray, List.set_cons_succ, List.set_cons_zero]
  refine wpList_execW rfl (.agg #[.string ⟨#[82, 69, 84, 85, 82, 78, 68, 65, 84, 65, 67, 79, 80, 89]⟩, .int .i64 3, .int .i64 0, .int .u64 3, .bool false, .int .i64 0]) w1 (by kernel_rfl) ?_
  simp only [Act.put, List.setIfInBounds_toArray, List.set_cons_succ, List.set_cons_zero]
  refine wpList_execW rfl (.agg #[.int .u8 62, .string ⟨#[82, 69, 84, 85, 82, 78, 68, 65, 84, 65, 67, 79, 80, 89]⟩, .int .i64 3, .int .i64 0, .int .u64 3, .bool false, .int .i64 0]) w1 (by kernel_rfl) ?_
  simp only [Act.put, List.setIfInBounds_toArray, List.set_cons_succ, List.set_cons_zero]
  refine wpList_execW rfl (.agg #[.string ⟨#[69, 88, 84, 67, 79, 68, 69, 72, 65, 83, 72]⟩, .int .i64 1, .int .i64 1, .int .u64 0, .bool false, .int .i64 0]) w1 (by kernel_rfl) ?_
  simp only [Act.put, List.setIfInBounds_toArray, List.set_cons_succ, List.set_cons_zero]
  refine wpList_execW rfl (.agg #[.int .u8 63, .string ⟨#[69, 88, 84, 67, 79, 68, 69, 72, 65, 83, 72]⟩, .int .i64 1, .int .i64 1, .int .u64 0, .bool false, .int .i64 0]) w1 (by kernel_rfl) ?_
  simp only [Act.put, List.setIfInBounds_toArray, List.set_cons_succ, List.set_cons_zero]
  refine wpList_execW rfl (.agg #[.string ⟨#[66, 76, 79, 67, 75, 72, 65, 83, 72]⟩, .int .i64 1, .int .i64 1, .int .u64 20, .bool false, .int .i64 0]) w1 (by kernel_rfl) ?_
  simp only [Act.put, List.setIfInBounds_toArray, List.set_cons_succ, List.set_cons_zero]
  refine wpList_execW rfl (.agg #[.int .u8 64, .string ⟨#[66, 76, 79, 67, 75, 72, 65, 83, 72]⟩, .int .i64 1, .int .i64 1, .int .u64 20, .bool false, .int .i64 0]) w1 (by kernel_rfl) ?_
  simp only [Act.put, List.setIfInBounds_toArray, List.set_cons_succ, List.set_cons_zero]
  refine wpList_execW rfl (.agg #[.string ⟨#[67, 79, 73, 78, 66, 65, 83, 69]⟩, .int .i64 0, .int .i64 1, .int .u64 2, .bool true, .int .i64 0]) w1 (by kernel_rfl) ?_
  simp only [Act.put, List.setIfInBounds_toArray, List.set_cons_succ, List.set_cons_zero]
  refine wpList_execW rfl (.agg #[.int .u8 65, .string ⟨#[67, 79, 73, 78, 66, 65, 83, 69]⟩, .int .i64 0, .int .i64 1, .int .u64 2, .bool true, .int .i64 0]) w1 (by kernel_rfl) ?_
  simp only [Act.put, List.setIfInBounds_toArray, List.set_cons_succ, List.set_cons_zero]
  refine wpList_execW rfl (.agg #[.string ⟨#[84, 73, 77, 69, 83, 84, 65, 77, 80]⟩, .int .i64 0, .int .i64 1, .int .u64 2, .bool true, .int .i64 0]) w1 (by kernel_rfl) ?_
  simp only [Act.put, List.setIfInBounds_toArray, List.set_cons_succ, List.set_cons_zero]
  refine wpList_execW rfl (.agg #[.int .u8 66, .string ⟨#[84, 73, 77, 69, 83, 84, 65, 77, 80]⟩, .int .i64 0, .int .i64 1, .int .u64 2, .bool true, .int .i64 0]) w1 (by kernel_rfl) ?_
  simp only [Act.put, List.setIfInBounds_toArray, List.set_cons_succ, List.set_cons_zero]
  refine wpList_execW rfl (.agg #[.string ⟨#[78, 85, 77, 66, 69, 82]⟩, .int .i64 0, .int .i64 1, .int .u64 2, .bool true, .int .i64 0]) w1 (by kernel_rfl) ?_
  simp only [Act.put, List.setIfInBounds_toArray, List.set_cons_succ, List.set_cons_zero]
  refine wpList_execW rfl (.agg #[.int .u8 67, .string ⟨#[78, 85, 77, 66, 69, 82]⟩, .int .i64 0, .int .i64 1, .int .u64 2, .bool true, .int .i64 0]) w1 (by kernel_rfl) ?_
  simp only [Act.put, List.setIfInBounds_toArray, List.set_cons_succ, List.set_cons_zero]
  refine wpList_execW rfl (.agg #[.string ⟨#[80, 82, 69, 86, 82, 65, 78, 68, 65, 79]⟩, .int .i64 0, .int .i64 1, .int .u64 2, .bool true, .int .i64 0]) w1 (by kernel_rfl) ?_
  simp only [Act.put, List.setIfInBounds_toArray, List.set_cons_succ, List.set_cons_zero]
  refine wpList_execW rfl (.agg #[.int .u8 68, .string ⟨#[80, 82, 69, 86, 82, 65, 78, 68, 65, 79]⟩, .int .i64 0, .int .i64 1, .int .u64 2, .bool true, .int .i64 0]) w1 (by kernel_rfl) ?_
  simp only [Act.put, List.setIfInBounds_toArray, List.set_cons_succ, List.set_cons_zero]
  refine wpList_execW rfl (.agg #[.string ⟨#[71, 65, 83, 76, 73, 77, 73, 84]⟩, .int .i64 0, .int .i64 1, .int .u64 2, .bool true, .int .i64 0]) w1 (by kernel_rfl) ?_
  simp only [Act.put, List.setIfInBounds_toArray, List.set_cons_succ, List.set_cons_zero]
  refine wpList_execW rfl (.agg #[.int .u8 69, .string ⟨#[71, 65, 83, 76, 73, 77, 73, 84]⟩, .int .i64 0, .int .i64 1, .int .u64 2, .bool true, .int .i64 0]) w1 (by kernel_rfl) ?_
  simp only [Act.put, List.setIfInBounds_toArray, List.set_cons_succ, List.set_cons_zero]
  refine wpList_execW rfl (.agg #[.string ⟨#[67, 72, 65, 73, 78, 73, 68]⟩, .int .i64 0, .int .i64 1, .int .u64 2, .bool true, .int .i64 0]) w1 (by kernel_rfl) ?_
  simp only [Act.put, List.setIfInBounds_toArray, List.set_cons_succ, List.set_cons_zero]
  refine wpList_execW rfl (.agg #[.int .u8 70, .string ⟨#[67, 72, 65, 73, 78, 73, 68]⟩, .int .i64 0, .int .i64 1, .int .u64 2, .bool true, .int .i64 0]) w1 (by kernel_rfl) ?_
  simp only [Act.put, List.setIfInBounds_toArray, List.set_cons_succ, List.set_cons_zero]
  refine wpList_execW rfl (.agg #[.string ⟨#[83, 69, 76, 70, 66, 65, 76, 65, 78, 67, 69]⟩, .int .i64 0, .int .i64 1, .int .u64 5, .bool false, .int .i64 0]) w1 (by kernel_rfl) ?_
  simp only [Act.put, List.setIfInBounds_toArray, List.set_cons_succ, List.set_cons_zero]
  refine wpList_execW rfl (.agg #[.int .u8 71, .string ⟨#[83, 69, 76, 70, 66, 65, 76, 65, 78, 67, 69]⟩, .int .i64 0, .int .i64 1, .int .u64 5, .bool false, .int .i64 0]) w1 (by kernel_rfl) ?_
  simp only [Act.put, List.setIfInBounds_toArray, List.set_cons_succ, List.set_cons_zero]
  refine wpList_execW rfl (.agg #[.string ⟨#[66, 65, 83, 69, 70, 69, 69]⟩, .int .i64 0, .int .i64 1, .int .u64 2, .bool true, .int .i64 0]) w1 (by kernel_rfl) ?_
  simp only [Act.put, List.setIfInBounds_toArray, List.set_cons_succ, List.set_cons_zero]
  refine wpList_execW rfl (.agg #[.int .u8 72, .string ⟨#[66, 65, 83, 69, 70, 69, 69]⟩, .int .i64 0, .int .i64 1, .int .u64 2, .bool true, .int .i64 0]) w1 (by kernel_rfl) ?_
  simp only [Act.put, List.setIfInBounds_toArray, List.set_cons_succ, List.set_cons_zero]
  refine wpList_execW rfl (.agg #[.string ⟨#[80, 79, 80]⟩, .int .i64 1, .int .i64 0, .int .u64 2, .bool true, .int .i64 0]) w1 (by kernel_rfl) ?_
  simp only [Act.put, List.setIfInBounds_toArray, List.set_cons_succ, List.set_cons_zero]
  refine wpList_execW rfl (.agg #[.int .u8 80, .string ⟨#[80, 79, 80]⟩, .int .i64 1, .int .i64 0, .int .u64 2, .bool true, .int .i64 0]) w1 (by kernel_rfl) ?_
  simp only [Act.put, List.setIfInBounds_toArray, List.set_cons_succ, List.set_cons_zero]
  refine wpList_execW rfl (.agg #[.string ⟨#[77, 76, 79, 65, 68]⟩, .int .i64 1, .int .i64 1, .int .u64 3, .bool false, .int .i64 0]) w1 (by kernel_rfl) ?_
  simp only [Act.put, List.setIfInBounds_toArray, List.set_cons_succ, List.set_cons_zero]
  refine wpList_execW rfl (.agg #[.int .u8 81, .string ⟨#[77, 76, 79, 65, 68]⟩, .int .i64 1, .int .i64 1, .int .u64 3, .bool false, .int .i64 0]) w1 (by kernel_rfl) ?_
  simp only [Act.put, List.setIfInBounds_toArray, List.set_cons_succ, List.set_cons_zero]
  refine wpList_execW rfl (.agg #[.string ⟨#[77, 83, 84, 79, 82, 69]⟩, .int .i64 2, .int .i64 0, .int .u64 3, .bool false, .int .i64 0]) w1 (by kernel_rfl) ?_
  simp only [Act.put, List.setIfInBounds_toArray, List.set_cons_succ, List.set_cons_zero]
  refine wpList_execW rfl (.agg #[.int .u8 82, .string ⟨#[77, 83, 84, 79, 82, 69]⟩, .int .i64 2, .int .i64 0, .int .u64 3, .bool false, .int .i64 0]) w1 (by kernel_rfl) ?_
  simp only [Act.put, List.setIfInBounds_toArray, List.set_cons_succ, List.set_cons_zero]
  refine wpList_execW rfl (.agg #[.string ⟨#[77, 83, 84, 79, 82, 69, 56]⟩, .int .i64 2, .int .i64 0, .int .u64 3, .bool false, .int .i64 0]) w1 (by kernel_rfl) ?_
  simp only [Act.put, List.setIfInBounds_toArray, List.set_cons_succ, List.set_cons_zero]
  refine wpList_execW rfl (.agg #[.int .u8 83, .string ⟨#[77, 83, 84, 79, 82, 69, 56]⟩, .int .i64 2, .int .i64 0, .int .u64 3, .bool false, .int .i64 0]) w1 (by kernel_rfl) ?_
  simp only [Act.put, List.setIfInBounds_toArray, List.set_cons_succ, List.set_cons_zero]
  refine wpList_execW rfl (.agg #[.string ⟨#[83, 76, 79, 65, 68]⟩, .int .i64 1, .int .i64 1, .int .u64 0, .bool false, .int .i64 0]) w1 (by kernel_rfl) ?_
  simp only [Act.put, List.setIfInBounds_toArray, List.set_cons_succ, List.set_cons_zero]
  refine wpList_execW rfl (.agg #[.int .u8 84, .string ⟨#[83, 76, 79, 65, 68]⟩, .int .i64 1, .int .i64 1, .int .u64 0, .bool false, .int .i64 0]) w1 (by kernel_rfl) ?_
  simp only [Act.put, List.setIfInBounds_toArray, List.set_cons_succ, List.set_cons_zero]
  refine wpList_execW rfl (.agg #[.string ⟨#[83, 83, 84, 79, 82, 69]⟩, .int .i64 2, .int .i64 0, .int .u64 0, .bool false, .int .i64 0]) w1 (by kernel_rfl) ?_
  simp only [Act.put, List.setIfInBounds_toArray, List.set_cons_succ, List.set_cons_zero]
  refine wpList_execW rfl (.agg #[.int .u8 85, .string ⟨#[83, 83, 84, 79, 82, 69]⟩, .int .i64 2, .int .i64 0, .int .u64 0, .bool false, .int .i64 0]) w1 (by kernel_rfl) ?_
  simp only [Act.put, List.setIfInBounds_toArray, List.set_cons_succ, List.set_cons_zero]
  refine wpList_execW rfl (.agg #[.string ⟨#[74, 85, 77, 80]⟩, .int .i64 1, .int .i64 0, .int .u64 8, .bool false, .int .i64 0]) w1 (by kernel_rfl) ?_
  simp only [Act.put, List.setIfInBounds_toArray, List.set_cons_succ, List.set_cons_zero]
  refine wpList_execW rfl (.agg #[.int .u8 86, .string ⟨#[74, 85, 77, 80]⟩, .int .i64 1, .int .i64 0, .int .u64 8, .bool false, .int .i64 0]) w1 (by kernel_rfl) ?_
  simp only [Act.put, List.setIfInBounds_toArray, List.set_cons_succ, List.set_cons_zero]
  refine wpList_execW rfl (.agg #[.string ⟨#[74, 85, 77, 80, 73]⟩, .int .i64 2, .int .i64 0, .int .u64 10, .bool false, .int .i64 0]) w1 (by kernel_rfl) ?_
  simp only [Act.put, List.setIfInBounds_toArray, List.set_cons_succ, List.set_cons_zero]
  refine wpList_execW rfl (.agg #[.int .u8 87, .string ⟨#[74, 85, 77, 80, 73]⟩, .int .i64 2, .int .i64 0, .int .u64 10, .bool false, .int .i64 0]) w1 (by kernel_rfl) ?_
  simp only [Act.put, List.setIfInBounds_toArray, List.set_cons_succ, List.set_cons_zero]
  refine wpList_execW rfl (.agg #[.string ⟨#[80, 67]⟩, .int .i64 0, .int .i64 1, .int .u64 2, .bool true, .int .i64 0]) w1 (by kernel_rfl) ?_
  simp only [Act.put, List.setIfInBounds_toArray, List.set_cons_succ, List.set_cons_zero]
  refine wpList_execW rfl (.agg #[.int .u8 88, .string ⟨#[80, 67]⟩, .int .i64 0, .int .i64 1, .int .u64 2, .bool true, .int .i64 0]) w1 (by kernel_rfl) ?_
  simp only [Act.put, List.setIfInBounds_toArray, List.set_cons_succ, List.set_cons_zero]
  refine wpList_execW rfl (.agg #[.string ⟨#[77, 83, 73, 90, 69]⟩, .int .i64 0, .int .i64 1, .int .u64 2, .bool true, .int .i64 0]) w1 (by kernel_rfl) ?_
  simp only [Act.put, List.setIfInBounds_toArray, List.set_cons_succ, List.set_cons_zero]
  refine wpList_execW rfl (.agg #[.int .u8 89, .string ⟨#[77, 83, 73, 90, 69]⟩, .int .i64 0, .int .i64 1, .int .u64 2, .bool true, .int .i64 0]) w1 (by kernel_rfl) ?_
  simp only [Act.put, List.setIfInBounds_toArray, List.set_cons_succ, List.set_cons_zero]
  refine wpList_execW rfl (.agg #[.string ⟨#[71, 65, 83]⟩, .int .i64 0, .int .i64 1, .int .u64 2, .bool false, .int .i64 0]) w1 (by kernel_rfl) ?_
  simp only [Act.put, List.setIfInBounds_toArray, List.set_cons_succ, List.set_cons_zero]
  refine wpList_execW rfl (.agg #[.int .u8 90, .string ⟨#[71, 65, 83]⟩, .int .i64 0, .int .i64 1, .int .u64 2, .bool false, .int .i64 0]) w1 (by kernel_rfl) ?_
  simp only [Act.put, List.setIfInBounds_toArray, List.set_cons_succ, List.set_cons_zero]
  refine wpList_execW rfl (.agg #[.string ⟨#[74, 85, 77, 80, 68, 69, 83, 84]⟩, .int .i64 0, .int .i64 0, .int .u64 1, .bool true, .int .i64 0]) w1 (by kernel_rfl) ?_
  simp only [Act.put, List.setIfInBounds_toArray, List.set_cons_succ, List.set_cons_zero]
  refine wpList_execW rfl (.agg #[.int .u8 91, .string ⟨#[74, 85, 77, 80, 68, 69, 83, 84]⟩, .int .i64 0, .int .i64 0, .int .u64 1, .bool true, .int .i64 0]) w1 (by kernel_rfl) ?_
  simp only [Act.put, List.setIfInBounds_toArray, List.set_cons_succ, List.set_cons_zero]
  refine wpList_execW rfl (.agg #[.string ⟨#[80, 85, 83, 72, 48]⟩, .int .i64 0, .int .i64 1, .int .u64 2, .bool true, .int .i64 0]) w1 (by kernel_rfl) ?_
  simp only [Act.put, List.setIfInBounds_toArray, List.set_cons_succ, List.set_cons_zero]
  refine wpList_execW rfl (.agg #[.int .u8 95, .string ⟨#[80, 85, 83, 72, 48]⟩, .int .i64 0, .int .i64 1, .int .u64 2, .bool true, .int .i64 0]) w1 (by kernel_rfl) ?_
  simp only [Act.put, List.setIfInBounds_toArray, List.set_cons_succ, List.set_cons_zero]
  refine wpList_execW rfl (.agg #[.string ⟨#[67, 82, 69, 65, 84, 69]⟩, .int .i64 3, .int .i64 1, .int .u64 32000, .bool false, .int .i64 0]) w1 (by kernel_rfl) ?_
  simp only [Act.put, List.setIfInBounds_toArray, List.set_cons_succ, List.set_cons_zero]
  refine wpList_execW rfl (.agg #[.int .u8 240, .string ⟨#[67, 82, 69, 65, 84, 69]⟩, .int .i64 3, .int .i64 1, .int .u64 32000, .bool false, .int .i64 0]) w1 (by kernel_rfl) ?_
  simp only [Act.put, List.setIfInBounds_toArray, List.set_cons_succ, List.set_cons_zero]
  refine wpList_execW rfl (.agg #[.string ⟨#[67, 65, 76, 76]⟩, .int .i64 7, .int .i64 1, .int .u64 0, .bool false, .int .i64 0]) w1 (by kernel_rfl) ?_
  simp only [Act.put, List.setIfInBounds_toArray, List.set_cons_succ, List.set_cons_zero]
  refine wpList_execW rfl (.agg #[.int .u8 241, .string ⟨#[67, 65, 76, 76]⟩, .int .i64 7, .int .i64 1, .int .u64 0, .bool false, .int .i64 0]) w1 (by kernel_rfl) ?_
  simp only [Act.put, List.setIfInBounds_toArray, List.set_cons_succ, List.set_cons_zero]
  refine wpList_execW rfl (.agg #[.string ⟨#[67, 65, 76, 76, 67, 79, 68, 69]⟩, .int .i64 7, .int .i64 1, .int .u64 0, .bool false, .int .i64 0]) w1 (by kernel_rfl) ?_
  simp only [Act.put, List.setIfInBounds_toArray, List.set_cons_succ, List.set_cons_zero]
  refine wpList_execW rfl (.agg #[.int .u8 242, .string ⟨#[67, 65, 76, 76, 67, 79, 68, 69]⟩, .int .i64 7, .int .i64 1, .int .u64 0, .bool false, .int .i64 0]) w1 (by kernel_rfl) ?_
  simp only [Act.put, List.setIfInBounds_toArray, List.set_cons_succ, List.set_cons_zero]
  refine wpList_execW rfl (.agg #[.string ⟨#[82, 69, 84, 85, 82, 78]⟩, .int .i64 2, .int .i64 0, .int .u64 0, .bool false, .int .i64 0]) w1 (by kernel_rfl) ?_
  simp only [Act.put, List.setIfInBounds_toArray, List.set_cons_succ, List.set_cons_zero]
  refine wpList_execW rfl (.agg #[.int .u8 243, .string ⟨#[82, 69, 84, 85, 82, 78]⟩, .int .i64 2, .int .i64 0, .int .u64 0, .bool false, .int .i64 0]) w1 (by kernel_rfl) ?_
  simp only [Act.put, List.setIfInBounds_toArray, List.set_cons_succ, List.set_cons_zero]
  refine wpList_execW rfl (.agg #[.string ⟨#[68, 69, 76, 69, 71, 65, 84, 69, 67, 65, 76, 76]⟩, .int .i64 6, .int .i64 1, .int .u64 0, .bool false, .int .i64 0]) w1 (by kernel_rfl) ?_
  simp only [Act.put, List.setIfInBounds_toArray, List.set_cons_succ, List.set_cons_zero]
  refine wpList_execW rfl (.agg #[.int .u8 244, .string ⟨#[68, 69, 76, 69, 71, 65, 84, 69, 67, 65, 76, 76]⟩, .int .i64 6, .int .i64 1, .int .u64 0, .bool false, .int .i64 0]) w1 (by kernel_rfl) ?_
  simp only [Act.put, List.setIfInBounds_toArray, List.set_cons_succ, List.set_cons_zero]
  refine wpList_execW rfl (.agg #[.string ⟨#[67, 82, 69, 65, 84, 69, 50]⟩, .int .i64 4, .int .i64 1, .int .u64 32000, .bool false, .int .i64 0]) w1 (by kernel_rfl) ?_
  simp only [Act.put, List.setIfInBounds_toArray, List.set_cons_succ, List.set_cons_zero]
  refine wpList_execW rfl (.agg #[.int .u8 245, .string ⟨#[67, 82, 69, 65, 84, 69, 50]⟩, .int .i64 4, .int .i64 1, .int .u64 32000, .bool false, .int .i64 0]) w1 (by kernel_rfl) ?_
  simp only [Act.put, List.setIfInBounds_toArray, List.set_cons_succ, List.set_cons_zero]
  refine wpList_execW rfl (.agg #[.string ⟨#[83, 84, 65, 84, 73, 67, 67, 65, 76, 76]⟩, .int .i64 6, .int .i64 1, .int .u64 0, .bool false, .int .i64 0]) w1 (by kernel_rfl) ?_
  simp only [Act.put, List.setIfInBounds_toArray, List.set_cons_succ, List.set_cons_zero]
  refine wpList_execW rfl (.agg #[.int .u8 250, .string ⟨#[83, 84, 65, 84, 73, 67, 67, 65, 76, 76]⟩, .int .i64 6, .int .i64 1, .int .u64 0, .bool false, .int .i64 0]) w1 (by kernel_rfl) ?_
  simp only [Act.put, List.setIfInBounds_toArray, List.set_cons_succ, List.set_cons_zero]
  refine wpList_execW rfl (.agg #[.string ⟨#[82, 69, 86, 69, 82, 84]⟩, .int .i64 2, .int .i64 0, .int .u64 0, .bool false, .int .i64 0]) w1 (by kernel_rfl) ?_
  simp only [Act.put, List.setIfInBounds_toArray, List.set_cons_succ, List.set_cons_zero]
  refine wpList_execW rfl (.agg #[.int .u8 253, .string ⟨#[82, 69, 86, 69, 82, 84]⟩, .int .i64 2, .int .i64 0, .int .u64 0, .bool false, .int .i64 0]) w1 (by kernel_rfl) ?_
  simp only [Act.put, List.setIfInBounds_toArray, List.set_cons_succ, List.set_cons_zero]
  refine wpList_execW rfl (.agg #[.string ⟨#[73, 78, 86, 65, 76, 73, 68]⟩, .int .i64 0, .int .i64 0, .int .u64 0, .bool false, .int .i64 0]) w1 (by kernel_rfl) ?_
  simp only [Act.put, List.setIfInBounds_toArray, List.set_cons_succ, List.set_cons_zero]
  refine wpList_execW rfl (.agg #[.int .u8 254, .string ⟨#[73, 78, 86, 65, 76, 73, 68]⟩, .int .i64 0, .int .i64 0, .int .u64 0, .bool false, .int .i64 0]) w1 (by kernel_rfl) ?_
  simp only [Act.put, List.setIfInBounds_toArray, List.set_cons_succ, List.set_cons_zero]
  refine wpList_execW rfl (.agg #[.string ⟨#[83, 69, 76, 70, 68, 69, 83, 84, 82, 85, 67, 84]⟩, .int .i64 1, .int .i64 0, .int .u64 5000, .bool false, .int .i64 0]) w1 (by kernel_rfl) ?_
  simp only [Act.put, List.setIfInBounds_toArray, List.set_cons_succ, List.set_cons_zero]
  refine wpList_execW rfl (.agg #[.int .u8 255, .string ⟨#[83, 69, 76, 70, 68, 69, 83, 84, 82, 85, 67, 84]⟩, .int .i64 1, .int .i64 0, .int .u64 5000, .bool false, .int .i64 0]) w1 (by kernel_rfl) ?_
  simp only [Act.put, List.setIfInBounds_toArray, List.set_cons_succ, List.set_cons_zero]
  refine wpList_execW rfl (.agg aloneV.toArray) w1 (by kernel_rfl) ?_
  simp only [Act.put, List.setIfInBounds_toArray, List.set_cons_succ, List.set_cons_zero]
  refine wpList_store_blkG rfl 56 _ _ rfl w.heap.size rfl 56 _ aloneV hB0.out rfl (by kernel_rfl) (by kernel_rfl) aloneV_one ?_
  intro w2 hB2 ho2
  refine wpList_nil ?_
  have hB3 := Lib.hid hB2
  have hb3 := Lib.hid (ho2.below hb0.out hb0.out.size (by rintro k rfl; exact Nat.le_refl _))
  clear hB2 ho2
  simp only [Act.put, List.setIfInBounds_toArray, List.set_cons_succ, List.set_cons_zero]
  go_wp2
  exact bodyPost_ret (results_blkG (p := 0) rfl _ _ w.heap.size 56 aloneV _ rfl hB3.out Tryz.underlying56 rfl (by kernel_rfl)) rfl ⟨rfl, hb3.out⟩
end Go.Proofs.YtbicfaiabpcgfaaGreatDoor
