/- Opening arguments: arrays of bools, of integers, of slices; slices of integers as 'RowAt'. Opening a slice of integers, with its capacity. The walks of FlowBlocks and FlowPlaces. -/
import Derived.ProofKit
import Derived.OpenShut
import Derived.ShutString
import Derived.ChangeOld
import Derived.Below
import Derived.Test.YtijkdabmegbcjaaGreatDoorM00
import Derived.LaidMore
import Derived.Test.YtijkdabmegbcjaaGreatDoorM36
import Derived.Test.YtijkdabmegbcjaaGreatDoorM16
set_option linter.all false
namespace Go.Proofs.YtijkdabmegbcjaaGreatDoor
open Go.ChangeShapes Go.WideShapes Go.ChangeAt Go.RowKit
open Go.ChangeMaps (open_string shut_string)

/-- What became of the walk of a law: true, and nothing that was there has turned. -/
def Yes (w : World) (e : Ending) (w' : World) : Prop := e = .returned (.bool true) ∧ Below w.heap.size w w'

section
variable {H : Type} {enc : TypeId × Value → H} {P : Program} {w : World} {base : Nat} {spare : Nat → Bool} {held : Bool} {t e : TypeId} {fuel : Nat} {cs : List Value} {x : DataW H × List MemPlace}

/-- An array whose elements are of one cell each: cell by cell. -/
theorem trod_arr1 {n : Nat} (ht : P.underlying t = some (.array n e)) (hc : P.cellsOf e = 1) (hct : P.cellsOf t = n) (h : DataW.trod enc P w base spare held fuel t cs = some x) :
    cs.length = n ∧ ∀ i (hi : i < cs.length), ∃ m y, DataW.trod enc P w base spare held m e [cs[i]] = some y := by
  obtain ⟨xs, m, _, _, hl, hx, hi⟩ := DataW.trod_array ht h
  have hl' : cs.length = n := hl.trans hct
  refine ⟨hl', fun i hlt => ?_⟩
  have := hi i (by omega)
  rw [hc, Nat.mul_one, List.drop_eq_getElem_cons hlt, List.take_succ_cons, List.take_zero, List.getElem?_eq_getElem (by omega)] at this
  exact ⟨m, _, this⟩

theorem trod_bools {n : Nat} (ht : P.underlying t = some (.array n e)) (he : P.underlying e = some .bool) (hc : P.cellsOf e = 1) (hct : P.cellsOf t = n) (h : DataW.trod enc P w base spare held fuel t cs = some x) :
    ∃ bs : List Bool, bs.length = n ∧ cs = bs.map Value.bool := by
  obtain ⟨hl, hi⟩ := trod_arr1 ht hc hct h
  refine ⟨cs.map (fun | .bool b => b | _ => false), by simpa using hl, ?_⟩
  rw [List.map_map]
  refine (List.map_id cs).symm.trans (List.map_congr_left fun v hv => ?_)
  obtain ⟨i, hlt, rfl⟩ := List.getElem_of_mem hv
  obtain ⟨m, y, hy⟩ := hi i hlt
  obtain ⟨b, hb, _⟩ := DataW.trod_bool he hy
  simp only [List.cons.injEq, and_true] at hb
  simp [hb]

theorem trod_intsA {n : Nat} {q : IntKind} (ht : P.underlying t = some (.array n e)) (he : P.underlying e = some (.int q)) (hc : P.cellsOf e = 1) (hct : P.cellsOf t = n) (h : DataW.trod enc P w base spare held fuel t cs = some x) :
    ∃ zs : List Int, zs.length = n ∧ cs = zs.map (Value.int q) ∧ ∀ z ∈ zs, (Lit.int q z).wf = true := by
  obtain ⟨hl, hi⟩ := trod_arr1 ht hc hct h
  have hv : ∀ v ∈ cs, ∃ z, v = .int q z ∧ (Lit.int q z).wf = true := fun v hv => by
    obtain ⟨i, hlt, rfl⟩ := List.getElem_of_mem hv
    obtain ⟨m, y, hy⟩ := hi i hlt
    obtain ⟨z, hz, _, hw⟩ := DataW.trod_int he hy
    simp only [List.cons.injEq, and_true] at hz
    exact ⟨z, hz, hw⟩
  refine ⟨cs.map (fun | .int _ z => z | _ => 0), by simpa using hl, ?_, ?_⟩
  · rw [List.map_map]
    refine (List.map_id cs).symm.trans (List.map_congr_left fun v hm => ?_)
    obtain ⟨z, rfl, _⟩ := hv v hm
    rfl
  · intro z hz
    obtain ⟨v, hm, rfl⟩ := List.mem_map.1 hz
    obtain ⟨z', rfl, hw⟩ := hv v hm
    exact hw

/-- A slice of integers. -/
theorem trod_row {q : IntKind} {v : Value} (ht : P.underlying t = some (.slice e)) (he : P.underlying e = some (.int q)) (hc : P.cellsOf e = 1) (h : DataW.trod enc P w base spare held fuel t [v] = some x) :
    ∃ a c zs, v = .slice a zs.length c ∧ RowAt q w a zs ∧ (a = none → c = 0) ∧ zs.length ≤ 9223372036854775807 ∧ ∀ z ∈ zs, (Lit.int q z).wf = true := by
  rcases open_ints ht he hc h with ⟨hcs, _⟩ | ⟨a, len, cap, zs, hcs, _, hl, hm, hz, _, hcell, hw⟩
  · simp only [List.cons.injEq, and_true] at hcs
    exact ⟨none, 0, [], hcs, RowAt.nil, fun _ => rfl, by simp, by simp⟩
  · simp only [List.cons.injEq, and_true] at hcs
    have hlz : len ≤ zs.length := by split at hz <;> omega
    refine ⟨some a, cap, zs.take len, by rw [hcs, List.length_take, Nat.min_eq_left hlz], fun i hi => ?_, by simp, ?_, fun z hz => hw z (List.mem_of_mem_take hz)⟩
    · rw [List.length_take] at hi
      have hcl := hcell i (by omega)
      obtain ⟨b, o, s⟩ := a
      have h0 := hcell 0 (by omega)
      have hs : s = none := by simpa [Addr.add] using World.cell?_spot h0
      subst hs
      refine ⟨b, o, rfl, ?_⟩
      rw [Addr.add_lit] at hcl
      rw [hcl, List.getElem_take, List.getD_eq_getElem?_getD, List.getElem?_eq_getElem (by omega)]
      rfl
    · unfold maxLen at hm
      rw [List.length_take]; omega
end

/-- What a reading says of the cells, where the type has more than one cell. -/
theorem agg_of_trod {H : Type} {enc : TypeId × Value → H} {P : Program} {w : World} {base : Nat} {spare : Nat → Bool} {held : Bool} {t : TypeId} {v : Value} {d : DataW H} {p : List MemPlace} (h : DataW.Trod enc P w base spare held t v d p)
    {n : Nat} {e : TypeId} (ht : P.underlying t = some (.array n e)) (hc : P.cellsOf e = 1) (hct : P.cellsOf t = n) (hn : n ≠ 1) : ∃ cs : Array Value, v = .agg cs ∧ ∃ fuel x, DataW.trod enc P w base spare held fuel t cs.toList = some x := by
  obtain ⟨fuel, hf⟩ := h
  cases v with
  | agg cs => exact ⟨cs, rfl, fuel, _, hf⟩
  | _ => exact absurd (trod_arr1 ht hc hct hf).1 (by simpa [Value.cells] using fun h => hn h.symm)

end Go.Proofs.YtijkdabmegbcjaaGreatDoor
namespace Go.Proofs.YtijkdabmegbcjaaGreatDoor
open Go.ChangeShapes Go.WideShapes Go.ChangeAt Go.RowKit
variable {H : Type} {enc : TypeId × Value → H} {P : Program} {w : World} {base : Nat} {spare : Nat → Bool} {held : Bool} {t e : TypeId} {fuel : Nat} {cs : List Value} {x : DataW H × List MemPlace}

theorem trod_row2 {q : IntKind} {v : Value} (ht : P.underlying t = some (.slice e)) (he : P.underlying e = some (.int q)) (hc : P.cellsOf e = 1) (h : DataW.trod enc P w base spare held fuel t [v] = some x) :
    ∃ a c zs, v = .slice a zs.length c ∧ RowAt q w a zs ∧ (a = none → c = 0) ∧ (zs.length ≤ c ∧ c ≤ 9223372036854775807) ∧ ∀ z ∈ zs, (Lit.int q z).wf = true := by
  obtain ⟨a, c, zs, h1, h2, h3, h4, h5⟩ := trod_row ht he hc h
  refine ⟨a, c, zs, h1, h2, h3, ?_, h5⟩
  rcases open_ints ht he hc h with ⟨hcs, _⟩ | ⟨a', len, cap, zs', hcs, _, hl, hm, _⟩
  · simp only [List.cons.injEq, and_true] at hcs
    rw [h1] at hcs
    injection hcs with e1 e2 e3
    omega
  · simp only [List.cons.injEq, and_true] at hcs
    rw [h1] at hcs
    injection hcs with e1 e2 e3
    unfold maxLen at hm
    omega
end Go.Proofs.YtijkdabmegbcjaaGreatDoor
namespace Go.Proofs.YtijkdabmegbcjaaGreatDoor
open Go.RowKit Go.Shelf

/-- No table is read. -/
def TabF (_ : World) : Prop := True
theorem tab_of_laid {X : Prop} {W : World} (_ : X) : TabF W := trivial
theorem code_of {w : World} {a : Option Addr} {c : Nat} {zs : List Int} (hl : zs.length ≤ c ∧ c ≤ 9223372036854775807) (hr : RowAt .u8 w a zs) (ha : a = none → c = 0) (hw : ∀ z ∈ zs, (Lit.int .u8 z).wf = true) (h2 : zs.length ≤ 200) :
    ∃ cs, zs = natI cs ∧ CodeAt w a c cs := by
  have hz : ∀ z ∈ zs, 0 ≤ z ∧ z ≤ 255 := fun z h => by
    have := hw z h
    simp [Lit.wf, IntKind.min, IntKind.max, IntKind.signed, IntKind.bits] at this
    exact ⟨by omega, by omega⟩
  have e : zs = natI (zs.map Int.toNat) := by
    apply List.ext_getElem (by simp [natI])
    intro i h1 h2
    have := hz zs[i] (List.getElem_mem h1)
    simp [natI]
    omega
  exact ⟨zs.map Int.toNat, e, by rw [← e]; exact hr, ha, by rw [List.length_map]; exact h2, fun x hx => by
    obtain ⟨z, h, rfl⟩ := List.mem_map.1 hx
    have := hz z h
    omega, by rw [List.length_map]; exact hl⟩
set_option maxRecDepth 100000 in
set_option maxHeartbeats 2000000 in
theorem flowBlocks_walk (a : Option Addr) (c : Nat) (zs : List Int) (w : World) (hl : zs.length ≤ c ∧ c ≤ 9223372036854775807) (hr : RowAt .u8 w a zs) (ha : a = none → c = 0) (hw : ∀ z ∈ zs, (Lit.int .u8 z).wf = true) (_ : TabF w) :
    Calls Tryz.prog 3 #[.slice a zs.length c] w (Yes w) := by
  by_cases h : (zs.length : Int) > 200
  · clear hr ha hw hl
    go_enter Tryz.func3, Tryz.ntmps3
    go_wp2_with (go_at_call 12; refine (works_any _).mono ?_; rintro e w9 ⟨rfl, b9⟩)
    go_ret
    exact ⟨rfl, b9⟩
  · obtain ⟨cs, rfl, hC⟩ := code_of hl hr ha hw (by omega)
    rw [natI_len] at h ⊢
    have hb1 := Lib.hid (blocks_any cs a c w hC)
    have hb2 := Lib.hid (fun W (hW : Below w.heap.size w W) => refBlocks_any cs a c W (hC.below hW))
    have hB : (blksN cs).length ≤ 1000 ∧ ∀ x ∈ blksN cs, x.next.length ≤ 1000 := ⟨by have := blksN_len cs; have := hC.len; omega, fun x hx => by have := next_len hx; have := hC.len; omega⟩
    generalize blksN cs = bs at *
    replace hB := Lib.hid hB
    clear hr ha hw hl hC
    go_enter Tryz.func3, Tryz.ntmps3
    go_wp2_with (first
      | (go_at_call 14; refine hb1.out.mono ?_; rintro e w1 ⟨⟨p, q, rfl, hP, -⟩, hw1⟩; replace hP := Lib.hid hP; replace hw1 := Lib.hid hw1)
      | (go_at_call 15; refine (hb2.out _ hw1.out).mono ?_; rintro e w2 ⟨⟨p2, q2, rfl, hP2, -⟩, hw2⟩; replace hP2 := Lib.hid hP2; replace hw2 := Lib.hid hw2)
      | (go_at_call 13; refine (refSame_any bs _ _ _ _ _ (hP.out.below hw2.out) hP2.out hB.out.1 hB.out.2).mono ?_; rintro e w3 ⟨rfl, hw3⟩; replace hw3 := Lib.hid hw3)
      | (go_at_call 12; refine (works_any _).mono ?_; rintro e w9 ⟨rfl, b9⟩))
    go_ret
    exact ⟨rfl, xtrans (xtrans (xtrans hw1.out hw2.out) hw3.out) b9⟩
theorem wpList_exec_g {P : Program} {ops : Array Oper} {rest : List Oper} {o : Oper} {a : Act} {w : World} {Q : Exit → Act → World → Prop} (hw : Region.wanted o (yielded ops a.tmps) = true) (v : Value) (hr : (execOp a.eval o).run P w = .ok (.value v) w) (h : wpList P ops Q rest (a.put o.dst v) w) : wpList P ops Q (o :: rest) a w :=
  wpList_wanted hw fun _ hK => by
    unfold Oper.wp
    rw [hr]
    exact hK _ _ h
set_option maxRecDepth 100000 in
set_option maxHeartbeats 4000000 in
theorem flowPlaces_walk (a : Option Addr) (c : Nat) (zs : List Int) (n : Int) (w : World) (hl : zs.length ≤ c ∧ c ≤ 9223372036854775807) (hr : RowAt .u8 w a zs) (ha : a = none → c = 0) (hw : ∀ z ∈ zs, (Lit.int .u8 z).wf = true) (hn : -9223372036854775808 ≤ n ∧ n ≤ 9223372036854775807) (_ : TabF w) :
    Calls Tryz.prog 4 #[.slice a zs.length c, .int .i64 n] w (Yes w) := by
  clear hn
  by_cases h : (zs.length : Int) > 200
  · clear hr ha hw hl
    go_enter Tryz.func4, Tryz.ntmps4
    go_wp2_with (go_at_call 12; refine (works_any _).mono ?_; rintro e w9 ⟨rfl, b9⟩)
    go_ret
    exact ⟨rfl, b9⟩
  · obtain ⟨cs, rfl, hC⟩ := code_of hl hr ha hw (by omega)
    rw [natI_len] at h ⊢
    have h1 := Lib.hid (fun W (hW : Below w.heap.size w W) => at_any cs n a c W (hC.below hW))
    have h2 := Lib.hid (fun W (hW : Below w.heap.size w W) => refAt_any cs n a c W (hC.below hW))
    have h3 := Lib.hid (fun W (hW : Below w.heap.size w W) => fixed_any cs n a c W (hC.below hW))
    have h4 := Lib.hid (fun W (hW : Below w.heap.size w W) => refFixed_any cs n a c W (hC.below hW))
    unfold atV optV wordV at *
    generalize ((atZ cs n).getD 0 : Nat) = av at *
    generalize (atZ cs n).isSome = ab at *
    generalize ((limb ((fixedZ cs n).getD 0) 0 : Nat) : Int) = l0 at *
    generalize ((limb ((fixedZ cs n).getD 0) 1 : Nat) : Int) = l1 at *
    generalize ((limb ((fixedZ cs n).getD 0) 2 : Nat) : Int) = l2 at *
    generalize ((limb ((fixedZ cs n).getD 0) 3 : Nat) : Int) = l3 at *
    generalize (fixedZ cs n).isSome = fb at *
    clear hr ha hw hl hC
    go_enter Tryz.func4, Tryz.ntmps4
    go_wp2_with (first
      | (go_at_call 16; refine (h1.out _ (xrefl _)).mono ?_; rintro e w1 ⟨rfl, hw1⟩; replace hw1 := Lib.hid hw1)
      | (go_at_call 17; refine (h2.out _ hw1.out).mono ?_; rintro e w2 ⟨rfl, hw2⟩; replace hw2 := Lib.hid (xtrans hw1.out hw2))
      | (go_at_call 18; refine (h3.out _ hw2.out).mono ?_; rintro e w3 ⟨rfl, hw3⟩; replace hw3 := Lib.hid (xtrans hw2.out hw3); have hX3 := Lib.hid (BlkG.new w3 32 [.int .u64 0, .int .u64 0, .int .u64 0, .int .u64 0]))
      | (refine wpList_store_blkG rfl 32 _ _ rfl w3.heap.size rfl 32 [.int .u64 0, .int .u64 0, .int .u64 0, .int .u64 0] [.int .u64 l0, .int .u64 l1, .int .u64 l2, .int .u64 l3] hX3.out rfl rfl (by kernel_rfl) rfl ?_; intro w4 hX4 ho4; have hb4 := Lib.hid (ho4.below (xalloc (xrefl w3) _) (xalloc (xrefl w3) _).size (by rintro k rfl; exact Nat.le_refl _)); have hw4 := Lib.hid (xtrans hw3.out hb4.out); replace hX4 := Lib.hid hX4; clear ho4)
      | (go_at_call 19; refine (h4.out _ hw4.out).mono ?_; rintro e w5 ⟨rfl, hw5⟩; have hX4' := Lib.hid (hX4.out.below hw5); replace hw5 := Lib.hid (xtrans hw4.out hw5); have hX5 := Lib.hid (BlkG.new w5 32 [.int .u64 0, .int .u64 0, .int .u64 0, .int .u64 0]))
      | (refine wpList_store_blkG rfl 32 _ _ rfl w5.heap.size rfl 32 [.int .u64 0, .int .u64 0, .int .u64 0, .int .u64 0] [.int .u64 l0, .int .u64 l1, .int .u64 l2, .int .u64 l3] hX5.out rfl rfl (by kernel_rfl) rfl ?_; intro w6 hX6 ho6; have hb6 := Lib.hid (ho6.below (xalloc (xrefl w5) _) (xalloc (xrefl w5) _).size (by rintro k rfl; exact Nat.le_refl _)); have hw6 := Lib.hid (xtrans hw5.out hb6.out); have hX46 := Lib.hid (hX4'.out.below hb6.out); replace hX6 := Lib.hid hX6; clear ho6)
      | (refine wpList_load_blkG_g rfl 32 _ rfl w3.heap.size rfl 32 [.int .u64 l0, .int .u64 l1, .int .u64 l2, .int .u64 l3] _ hX46.out Tryz.underlying32 rfl (by kernel_rfl) ?_)
      | (refine wpList_load_blkG_g rfl 32 _ rfl w5.heap.size rfl 32 [.int .u64 l0, .int .u64 l1, .int .u64 l2, .int .u64 l3] _ hX6.out Tryz.underlying32 rfl (by kernel_rfl) ?_)
      | (refine wpList_exec_g rfl (.bool (decide ([l0, l1, l2, l3] = [l0, l1, l2, l3]))) (run_eql_at 32 _ _ _ rfl 30 4 .u64 .u64 [l0, l1, l2, l3] [l0, l1, l2, l3] rfl rfl Tryz.underlying32 Tryz.underlying30 (by kernel_rfl) (by kernel_rfl) (by kernel_rfl) rfl rfl) ?_; rw [decide_eq_true rfl])
      | (go_at_call 12; refine (works_any _).mono ?_; rintro e w9 ⟨rfl, b9⟩))
    go_ret
    exact ⟨rfl, xtrans hw6.out b9⟩
end Go.Proofs.YtijkdabmegbcjaaGreatDoor
