/- The program's digest (layer 24): tables. -/
import Derived.Test.YtfafancacfjodaaRipJ
import Derived.BigRegion
namespace Go.Proofs.Ytfafancacfjodaa
open Go.RowKit

theorem wpList_val {P : Program} {ops : Array Oper} {rest : List Oper} {o : Oper} {a : Act} {w : World} {Q : Exit → Act → World → Prop} (hgd : o.guard = none) (v : Value) (hr : (execOp a.eval o).run P w = .ok (.value v) w)
    (h : wpList P ops Q rest (a.put o.dst v) w) : wpList P ops Q (o :: rest) a w := by
  refine wpList_plain hgd fun K hK => ?_
  unfold Oper.wp
  rw [hr]
  exact hK _ _ h
/-- A block of values. -/
def Vlk (w : World) (b : Nat) (T : TypeId) (l : List Value) : Prop := w.heap[b]? = some (.cells l.toArray T (0, 0))
section
variable {w w' : World} {b : Nat} {T : TypeId} {l : List Value}
theorem Vlk.lt (h : Vlk w b T l) : b < w.heap.size := (Array.getElem?_eq_some_iff.1 h).1
theorem Vlk.only {O : Nat → Prop} (h : Vlk w b T l) (ho : Only O w w') (hb : ¬ O b) : Vlk w' b T l := (ho.same b h.lt hb).trans h
theorem Vlk.below (h : Vlk w b T l) (hb : Below w.heap.size w w') : Vlk w' b T l := (hb.block b h.lt).trans h
theorem Vlk.alloc (h : Vlk w b T l) (o : Obj) : Vlk (w.alloc o) b T l := (Below.heap_alloc w o b h.lt).trans h
theorem Vlk.new (w : World) (T : TypeId) (l : List Value) : Vlk (w.alloc (.cells l.toArray T)) w.heap.size T l := World.alloc_heap_new w _
theorem Vlk.cell (h : Vlk w b T l) (i : Nat) : w.cell? ⟨b, i, none⟩ = l[i]? := by rw [cell_of_row w b i _ T (0, 0) h]; simp
theorem Vlk.frozen (h : Vlk w b T l) (i : Nat) : w.frozen? ⟨b, i, none⟩ = false := frozen_of_row w b i _ T h
theorem Vlk.set (h : Vlk w b T l) (i : Nat) (v : Value) : Vlk (w.setCell ⟨b, i, none⟩ v) b T (l.set i v) := by
  unfold Vlk at *
  rw [heap_setCell_same w b i _ T _ h]
  congr 2
  simp
theorem wp_store_vlk {P : Program} {o : Oper} {a : Act} {K : Act → World → Prop} {Q : Exit → Act → World → Prop} (ty : TypeId) (x y : Operand) (ho : o.op = .store ty x y)
    (b : Nat) (hx : a.eval x = .pointer (some ⟨b, 0, none⟩)) (T : TypeId) (l l' : List Value) (hB : Vlk w b T l) (hy : a.eval y = .agg l'.toArray) (hl : l'.length = l.length) (hi : (P.info? ty).map (·.size) = some l'.length) (h1 : l'.toArray.all (·.oneCell') = true)
    (h : ∀ w', Vlk w' b T l' → Only (· = b) w w' → K (a.put o.dst undef) w') : o.wp P a w K Q := by
  have hth : w.there b 0 l'.length := fun j hj => ⟨by rw [Nat.zero_add, hB.cell j]; simp [show j < l.length by omega], by rw [Nat.zero_add]; exact hB.frozen j⟩
  refine wp_store_mid ty x y ho b 0 _ hx hy (by simpa using hth) (by simpa using hi) h1 (h _ ?_ (setCells_only _ _ _ _))
  have := setCells_blk b T l' [] l w (by simpa [Vlk] using hB) (by simp [hl])
  simpa [Vlk] using this
theorem wpList_store_vlk {P : Program} {ops : Array Oper} {rest : List Oper} {o : Oper} {a : Act} {Q : Exit → Act → World → Prop} (hgd : o.guard = none) (ty : TypeId) (x y : Operand) (ho : o.op = .store ty x y)
    (b : Nat) (hx : a.eval x = .pointer (some ⟨b, 0, none⟩)) (T : TypeId) (l l' : List Value) (hB : Vlk w b T l) (hy : a.eval y = .agg l'.toArray) (hl : l'.length = l.length) (hi : (P.info? ty).map (·.size) = some l'.length) (h1 : l'.toArray.all (·.oneCell') = true)
    (h : ∀ w', Vlk w' b T l' → Only (· = b) w w' → wpList P ops Q rest (a.put o.dst undef) w') : wpList P ops Q (o :: rest) a w :=
  wpList_plain hgd fun _ hK => wp_store_vlk ty x y ho b hx T l l' hB hy hl hi h1 fun w' h1 h2 => hK _ _ (h w' h1 h2)
end

abbrev fnV (f : Nat) : Value := .func (.func f) #[] #[]
/-- F of a round of the first line, as the program's functions. -/
def mixFn (r : Nat) : Nat := [48, 49, 50, 51, 52].getD r 0
theorem mixFn_any (r : Nat) (x y z : BitVec 32) (w : World) (hr : r < 5) : Calls Try.prog (mixFn r) #[.int .u32 (iv32 x), .int .u32 (iv32 y), .int .u32 (iv32 z)] w fun e w' => e = .returned (.int .u32 (iv32 (fF r x y z))) ∧ w = w' := by
  have fin : ∀ x : Nat, x < 5 → x = 0 ∨ x = 1 ∨ x = 2 ∨ x = 3 ∨ x = 4 := by omega
  have hcm : and32 z (not32 x) = and32 (not32 x) z := BitVec.and_comm _ _
  replace hcm := Lib.hid hcm
  rcases fin r hr with rfl | rfl | rfl | rfl | rfl
  · clear fin
    show Calls _ 48 _ _ _
    go_enter Try.func48, Try.ntmps48
    go_wp2
    go_ret
    exact ⟨rfl, rfl⟩
  · clear fin
    show Calls _ 49 _ _ _
    go_enter Try.func49, Try.ntmps49
    go_wp2
    rw [hcm.out]
    go_ret
    exact ⟨rfl, rfl⟩
  · clear fin
    show Calls _ 50 _ _ _
    go_enter Try.func50, Try.ntmps50
    go_wp2
    go_ret
    exact ⟨rfl, rfl⟩
  · clear fin
    show Calls _ 51 _ _ _
    go_enter Try.func51, Try.ntmps51
    go_wp2
    go_ret
    exact ⟨rfl, rfl⟩
  · clear fin
    show Calls _ 52 _ _ _
    go_enter Try.func52, Try.ntmps52
    go_wp2
    go_ret
    exact ⟨rfl, rfl⟩

def mixV : List Value := [fnV 48, fnV 49, fnV 50, fnV 51, fnV 52]
def mixW : List Value := [fnV 52, fnV 51, fnV 50, fnV 49, fnV 48]
def nilV : List Value := [.nilFunc, .nilFunc, .nilFunc, .nilFunc, .nilFunc]
theorem mixes_any (w : World) : Calls Try.prog 37 #[] w fun e w' => e = .returned (.agg mixV.toArray) ∧ Below w.heap.size w w' := by
  have hz := Lib.hid (Vlk.new w 72 nilV)
  go_enter Try.func37, Try.ntmps37
  go_upto_region 1 with fail
  refine wp_region_lit ?_
  refine wpList_val rfl (.agg mixV.toArray) (by kernel_rfl) ?_
  refine wpList_store_vlk rfl 72 _ _ rfl w.heap.size rfl 72 nilV mixV hz.out rfl rfl (by kernel_rfl) (by kernel_rfl) ?_
  intro w7 h7 ho7
  go_wp2
  refine bodyPost_ret (results_cell_row rfl _ _ w.heap.size 72 _ (0, 0) _ rfl h7 Try.underlying72 rfl (by kernel_rfl)) rfl ⟨rfl, ?_⟩
  exact ho7.below (xalloc (xrefl w) _) (by rw [World.size_alloc]; omega) (by rintro i rfl; omega)

def turnL : List Int := turnRows.flatten
theorem zeroT (W : World) : (zeroValue 74).run Try.prog W = .ok (.agg ((List.replicate 80 0).map (Value.int .i64)).toArray) W := by
  kernel_rfl
set_option maxRecDepth 100000 in
theorem turns_any (w : World) : Calls Try.prog 38 #[] w fun e w' => e = .returned (arrV .i64 turnL) ∧ Below w.heap.size w w' := by
  unfold arrV
  have hz := Lib.hid (Blk.new (q := .i64) w 74 (List.replicate 80 0))
  have hzv := zeroT
  obtain ⟨Z, hZ⟩ : ∃ Z, Z = List.replicate 80 (0 : Int) := ⟨_, rfl⟩
  rw [← hZ] at hz hzv
  have hzl : Z.length = 80 := by rw [hZ, List.length_replicate]
  replace hzl := Lib.hid hzl
  replace hZ := Lib.hid hZ
  go_enter Try.func38, Try.ntmps38
  go_upto_region 1 with fail
  clear hzv
  refine wp_region_lit ?_
  refine wpList_val rfl (.agg (([11, 14, 15, 12, 5, 8, 7, 9, 11, 13, 14, 15, 6, 7, 9, 8] : List Int).map (Value.int .i64)).toArray) (by kernel_rfl) ?_
  refine wpList_val rfl (.agg (([12, 13, 11, 15, 6, 9, 9, 7, 12, 15, 11, 13, 7, 8, 7, 7] : List Int).map (Value.int .i64)).toArray) (by kernel_rfl) ?_
  refine wpList_val rfl (.agg (([13, 15, 14, 11, 7, 7, 6, 8, 13, 14, 13, 12, 5, 5, 6, 9] : List Int).map (Value.int .i64)).toArray) (by kernel_rfl) ?_
  refine wpList_val rfl (.agg (([14, 11, 12, 14, 8, 6, 5, 5, 15, 12, 15, 14, 9, 9, 8, 6] : List Int).map (Value.int .i64)).toArray) (by kernel_rfl) ?_
  refine wpList_val rfl (.agg (([15, 12, 13, 13, 9, 5, 8, 6, 14, 11, 12, 11, 8, 6, 5, 5] : List Int).map (Value.int .i64)).toArray) (by kernel_rfl) ?_
  refine wpList_val rfl (.agg (turnL.map (Value.int .i64)).toArray) (by kernel_rfl) ?_
  have hl : turnL.length = 80 := rfl
  obtain ⟨TL, hTL⟩ : ∃ l, l = turnL := ⟨_, rfl⟩
  rw [← hTL] at hl ⊢
  refine wpList_store_blk rfl 74 _ _ rfl w.heap.size rfl .i64 74 Z TL hz.out rfl (by rw [hl, hzl.out]) (by rw [hl]; kernel_rfl) ?_
  intro w7 h7 ho7
  replace hTL := Lib.hid hTL
  have hinf : (Try.prog.info? 74).map (·.size) = some TL.length := by rw [hl]; kernel_rfl
  replace hinf := Lib.hid hinf
  clear hl
  go_wp2
  refine ret_blk rfl w.heap.size .i64 74 TL _ _ rfl h7 Try.underlying74 hinf.out rfl ⟨by rw [hTL.out], ?_⟩
  exact ho7.below (xalloc (xrefl w) _) (by rw [World.size_alloc]; omega) (by rintro i rfl; omega)

def revV (v0 v1 v2 v3 v4 : Value) (i : Nat) : List Value := if i = 0 then [v0, v1, v2, v3, v4] else if i = 1 then [v4, v1, v2, v3, v0] else [v4, v3, v2, v1, v0]
set_option maxRecDepth 100000 in
set_option maxHeartbeats 1000000 in
theorem reverse_any (b f0 f1 f2 f3 f4 : Nat) (w : World) (hB : Vlk w b 72 [fnV f0, fnV f1, fnV f2, fnV f3, fnV f4]) :
    Calls Try.prog 39 #[.slice (some ⟨b, 0, none⟩) 5 5] w fun e w' => e = .returned (.tuple #[]) ∧ Vlk w' b 72 [fnV f4, fnV f3, fnV f2, fnV f1, fnV f0] ∧ Only (· = b) w w' := by
  replace hB := Lib.hid (show Vlk w b 72 (revV (fnV f0) (fnV f1) (fnV f2) (fnV f3) (fnV f4) 0) from hB)
  go_enter Try.func39, Try.ntmps39
  go_wp2
  go_loopw [2, 3] (fun iv jv wx => ∃ i : Nat, i ≤ 2 ∧ iv = .int .i64 i ∧ jv = .int .i64 (4 - (i : Int)) ∧ Hid (Vlk wx b 72 (revV (fnV f0) (fnV f1) (fnV f2) (fnV f3) (fnV f4) i)) ∧ Hid (Only (· = b) w wx)) (fun iv _ _ => 2 - (intOf iv).toNat)
  case atStart => exact ⟨0, by omega, rfl, rfl, hB, Lib.hid (Only.refl _ _)⟩
  case round =>
    clear hB
    obtain ⟨i, hi, rfl, rfl, hB, hon⟩ := hrel
    have fin : i = 0 ∨ i = 1 ∨ i = 2 := by omega
    rcases fin with rfl | rfl | rfl
    · have cj : wr.cell? ⟨b, 4, none⟩ = some (fnV f4) := hB.out.cell 4
      have ci : wr.cell? ⟨b, 0, none⟩ = some (fnV f0) := hB.out.cell 0
      have gi := hB.out.frozen 0
      have gj := hB.out.frozen 4
      go_upto_region 3 with fail
      have h1 := (hB.out.set 0 (fnV f4)).set 4 (fnV f0)
      have o1 := (hon.out.setCell ⟨b, 0, none⟩ (fnV f4) rfl).setCell ⟨b, 4, none⟩ (fnV f0) rfl
      have h2 : Vlk (((wr.setCell ⟨b, 0, none⟩ (fnV f4)).setCell ⟨b, 4, none⟩ (fnV f0)).drew) b 72 (revV (fnV f0) (fnV f1) (fnV f2) (fnV f3) (fnV f4) 1) := h1
      have o2 : Only (· = b) w (((wr.setCell ⟨b, 0, none⟩ (fnV f4)).setCell ⟨b, 4, none⟩ (fnV f0)).drew) := o1.drew
      replace h2 := Lib.hid h2
      replace o2 := Lib.hid o2
      clear h1 o1
      go_region
      go_wp2
      exact ⟨⟨1, by omega, rfl, by go_num, h2, o2⟩, by simp [intOf]⟩
    · have cj : wr.cell? ⟨b, 3, none⟩ = some (fnV f3) := hB.out.cell 3
      have ci : wr.cell? ⟨b, 1, none⟩ = some (fnV f1) := hB.out.cell 1
      have gi := hB.out.frozen 1
      have gj := hB.out.frozen 3
      go_upto_region 3 with fail
      have h1 := (hB.out.set 1 (fnV f3)).set 3 (fnV f1)
      have o1 := (hon.out.setCell ⟨b, 1, none⟩ (fnV f3) rfl).setCell ⟨b, 3, none⟩ (fnV f1) rfl
      have h2 : Vlk (((wr.setCell ⟨b, 1, none⟩ (fnV f3)).setCell ⟨b, 3, none⟩ (fnV f1)).drew) b 72 (revV (fnV f0) (fnV f1) (fnV f2) (fnV f3) (fnV f4) 2) := h1
      have o2 : Only (· = b) w (((wr.setCell ⟨b, 1, none⟩ (fnV f3)).setCell ⟨b, 3, none⟩ (fnV f1)).drew) := o1.drew
      replace h2 := Lib.hid h2
      replace o2 := Lib.hid o2
      clear h1 o1
      go_region
      go_wp2
      exact ⟨⟨2, by omega, rfl, by go_num, h2, o2⟩, by simp [intOf]⟩
    · go_wp2
      go_end0
      exact ⟨rfl, hB.out, hon.out⟩
end Go.Proofs.Ytfafancacfjodaa
