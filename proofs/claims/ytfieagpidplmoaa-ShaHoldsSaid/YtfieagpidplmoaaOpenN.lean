/- Opening arguments: arrays of arrays of integers. -/
import Derived.Test.YtfieagpidplmoaaOpen
namespace Go.Proofs.Ytfieagpidplmoaa
open Go.ChangeShapes Go.WideShapes Go.ChangeAt Go.RowKit

section
variable {H : Type} {enc : TypeId × Value → H} {P : Program} {w : World} {base : Nat} {spare : Nat → Bool} {held : Bool} {t s e : TypeId} {fuel : Nat} {cs : List Value} {x : DataW H × List MemPlace}

/-- An array of arrays of integers: cell by cell. -/
theorem trod_ints2 {m n : Nat} {q : IntKind} (ht : P.underlying t = some (.array m s)) (hs : P.underlying s = some (.array n e)) (he : P.underlying e = some (.int q)) (hc : P.cellsOf e = 1) (hcs : P.cellsOf s = n) (hct : P.cellsOf t = m * n)
    (h : DataW.trod enc P w base spare held fuel t cs = some x) : ∃ zs : List Int, zs.length = m * n ∧ cs = zs.map (Value.int q) ∧ ∀ z ∈ zs, (Lit.int q z).wf = true := by
  obtain ⟨xs, fu, _, _, hl, hx, hi⟩ := DataW.trod_array ht h
  have hl' : cs.length = m * n := hl.trans hct
  have hv : ∀ v ∈ cs, ∃ z, v = .int q z ∧ (Lit.int q z).wf = true := fun v hv => by
    obtain ⟨k, hlt, rfl⟩ := List.getElem_of_mem hv
    have hn : 0 < n := Nat.pos_of_ne_zero (by rintro rfl; omega)
    have hq : k / n < m := (Nat.div_lt_iff_lt_mul hn).2 (by omega)
    have h1 := hi (k / n) (by omega)
    rw [hcs, List.getElem?_eq_getElem (by omega)] at h1
    obtain ⟨zs, hzl, hze, hzw⟩ := trod_intsA hs he hc hcs h1
    have hm := Nat.div_add_mod k n
    have hr := Nat.mod_lt k hn
    have hz : k % n < zs.length := by omega
    have hg : (zs.map (Value.int q))[k % n]? = some cs[k] := by
      rw [← hze, List.getElem?_take_of_lt hr, List.getElem?_drop, show k / n * n + k % n = k by rw [Nat.mul_comm]; exact hm, List.getElem?_eq_getElem hlt]
    rw [List.getElem?_map, List.getElem?_eq_getElem hz] at hg
    simp only [Option.map_some, Option.some.injEq] at hg
    exact ⟨_, hg.symm, hzw _ (List.getElem_mem hz)⟩
  refine ⟨cs.map (fun | .int _ z => z | _ => 0), by simpa using hl', ?_, ?_⟩
  · rw [List.map_map]
    refine (List.map_id cs).symm.trans (List.map_congr_left fun v hm => ?_)
    obtain ⟨z, rfl, _⟩ := hv v hm
    rfl
  · intro z hz
    obtain ⟨v, hm, rfl⟩ := List.mem_map.1 hz
    obtain ⟨z', rfl, hw⟩ := hv v hm
    exact hw
end

theorem agg_of_trod2 {H : Type} {enc : TypeId × Value → H} {P : Program} {w : World} {base : Nat} {spare : Nat → Bool} {held : Bool} {t : TypeId} {v : Value} {d : DataW H} {p : List MemPlace} (h : DataW.Trod enc P w base spare held t v d p)
    {n : Nat} {e : TypeId} (ht : P.underlying t = some (.array n e)) (hn : P.cellsOf t ≠ 1) : ∃ cs : Array Value, v = .agg cs ∧ ∃ fuel x, DataW.trod enc P w base spare held fuel t cs.toList = some x := by
  obtain ⟨fuel, hf⟩ := h
  cases v with
  | agg cs => exact ⟨cs, rfl, fuel, _, hf⟩
  | _ =>
    obtain ⟨xs, fu, _, _, hl, _, _⟩ := DataW.trod_array ht hf
    exact absurd hl.symm (by simpa [Value.cells] using hn)
end Go.Proofs.Ytfieagpidplmoaa
