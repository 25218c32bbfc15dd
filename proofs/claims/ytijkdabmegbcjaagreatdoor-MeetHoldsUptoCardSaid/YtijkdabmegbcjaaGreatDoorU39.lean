/- Texts of this claim, merged; no condition. -/
import Derived.Test.YtijkdabmegbcjaaGreatDoorU38
set_option linter.all false
namespace Go.Proofs.YtijkdabmegbcjaaGreatDoor
open Go.RowKit Go.Shelf

theorem bytes_nat {zs : List Int} (hw : ∀ z ∈ zs, (Lit.int .u8 z).wf = true) : ∃ cs : List Nat, zs = natI cs ∧ ∀ x ∈ cs, x < 256 := by
  have hz : ∀ z ∈ zs, 0 ≤ z ∧ z ≤ 255 := fun z h => by
    have := hw z h
    simp [Lit.wf, IntKind.min, IntKind.max, IntKind.signed, IntKind.bits] at this
    exact ⟨by omega, by omega⟩
  have e : zs = natI (zs.map Int.toNat) := by
    apply List.ext_getElem (by simp [natI])
    intro i h1 h2
    have := hz zs[i] (List.getElem_mem h1)
    simp [natI]
    omega
  exact ⟨zs.map Int.toNat, e, fun x hx => by
    obtain ⟨z, h, rfl⟩ := List.mem_map.1 hx
    have := hz z h
    omega⟩
set_option maxRecDepth 100000 in
set_option maxHeartbeats 4000000 in
theorem meetHolds_walk (a : Option Addr) (c : Nat) (zs : List Int) (a2 : Option Addr) (c2 : Nat) (zs2 : List Int) (w : World) (hl : zs.length ≤ c ∧ c ≤ 9223372036854775807) (hr : RowAt .u8 w a zs) (ha : a = none → c = 0) (hw : ∀ z ∈ zs, (Lit.int .u8 z).wf = true)
    (_ : zs2.length ≤ c2 ∧ c2 ≤ 9223372036854775807) (hr2 : RowAt .u8 w a2 zs2) (_ : a2 = none → c2 = 0) (hw2 : ∀ z ∈ zs2, (Lit.int .u8 z).wf = true) (hup : zs.length ≤ 1048576) (_ : TabF w) :
    Calls Tryz.prog 8 #[.slice a zs.length c, .slice a2 zs2.length c2] w (Yes w) := by
  obtain ⟨cs, rfl, hc256⟩ := bytes_nat hw
  obtain ⟨ys, rfl, hy256⟩ := bytes_nat hw2
  rw [natI_len] at hl hup ⊢
  rw [natI_len]
  by_cases hgo : cs.length ≤ 80 ∧ ys.length ≤ 60 ∧ 0 < (blksN cs).length
  · obtain ⟨h1, h2, h3⟩ := hgo
    exact meetHolds_go cs ys a a2 c c2 w ⟨hr, ha, by omega, hc256, hl⟩ hr2 hy256 h1 h2 h3
  · have hL : CodeL w a c cs := ⟨hr, ha, hup, hc256, hl⟩
    have hb0 : Below w.heap.size w (w.alloc (.cells #[.bool false] 4)) := xalloc (xrefl w) _
    have br0 : Hid (Box (w.alloc (.cells #[.bool false] 4)) w.heap.size (.bool false) 4) := Lib.hid (Box.new w _ _)
    have hbk := refBlocks_anyL cs a c _ (hL.below hb0)
    generalize hbs : blksN cs = bs at *
    replace hbk := Lib.hid hbk
    replace hb0 := Lib.hid hb0
    clear hr hr2 hw hw2 hL hbs hl ha
    refine (callsIn_wide (n := 0)).1 ?_
    refine callsIn_of_wp_marks Tryz.func8 rfl trivial ?_ rfl
    simp only [Tryz.ntmps8, List.size_toArray, List.length_cons, List.length_nil, Nat.reduceAdd, Nat.reduceSub, Array.replicate_succ, Array.replicate_zero, List.push_toArray, List.append_toArray, List.nil_append, List.cons_append]
    refine wpIn_wide.2 ?_
    by_cases h1 : (cs.length : Int) > 80
    · clear hgo
      go_wp2_with (first
        | (go_at_call 15; refine hbk.out.mono ?_; rintro e w1 ⟨⟨p, q, rfl, -, -⟩, hb1⟩; have br1 := Lib.hid (br0.out.below hb1); replace hb1 := Lib.hid (xtrans hb0.out hb1))
        | (go_at_call 25; refine (works12_any _).mono ?_; rintro e w3 ⟨rfl, b3⟩; have hB := br1.out.below b3; have cr := hB.cell; have fr := hB.free; replace hB := Lib.hid hB; replace b3 := Lib.hid (xtrans hb1.out b3)))
      have hbE : Below w.heap.size w (w3.setCell ⟨w.heap.size, 0, none⟩ (.bool true)) := b3.out.setCell (by simp only; omega) _
      have hE3 := hB.out.set (.bool true)
      exact ⟨_, results_bool rfl _ _ w.heap.size (.bool true) rfl hE3.cell, rfl, hbE⟩
    · by_cases h2 : (ys.length : Int) > 60
      · clear hgo
        go_wp2_with (first
          | (go_at_call 15; refine hbk.out.mono ?_; rintro e w1 ⟨⟨p, q, rfl, -, -⟩, hb1⟩; have br1 := Lib.hid (br0.out.below hb1); replace hb1 := Lib.hid (xtrans hb0.out hb1))
          | (go_at_call 25; refine (works12_any _).mono ?_; rintro e w3 ⟨rfl, b3⟩; have hB := br1.out.below b3; have cr := hB.cell; have fr := hB.free; replace hB := Lib.hid hB; replace b3 := Lib.hid (xtrans hb1.out b3)))
        have hbE : Below w.heap.size w (w3.setCell ⟨w.heap.size, 0, none⟩ (.bool true)) := b3.out.setCell (by simp only; omega) _
        have hE3 := hB.out.set (.bool true)
        exact ⟨_, results_bool rfl _ _ w.heap.size (.bool true) rfl hE3.cell, rfl, hbE⟩
      · obtain rfl : bs = [] := List.eq_nil_of_length_eq_zero (by omega)
        clear hgo
        go_wp2_with (first
          | (go_at_call 15; refine hbk.out.mono ?_; rintro e w1 ⟨⟨p, q, rfl, -, -⟩, hb1⟩; have br1 := Lib.hid (br0.out.below hb1); replace hb1 := Lib.hid (xtrans hb0.out hb1))
          | (go_at_call 25; refine (works12_any _).mono ?_; rintro e w3 ⟨rfl, b3⟩; have hB := br1.out.below b3; have cr := hB.cell; have fr := hB.free; replace hB := Lib.hid hB; replace b3 := Lib.hid (xtrans hb1.out b3)))
        have hbE : Below w.heap.size w (w3.setCell ⟨w.heap.size, 0, none⟩ (.bool true)) := b3.out.setCell (by simp only; omega) _
        have hE3 := hB.out.set (.bool true)
        exact ⟨_, results_bool rfl _ _ w.heap.size (.bool true) rfl hE3.cell, rfl, hbE⟩
end Go.Proofs.YtijkdabmegbcjaaGreatDoor
