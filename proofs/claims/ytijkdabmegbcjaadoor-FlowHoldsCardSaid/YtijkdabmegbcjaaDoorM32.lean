/- FlowHolds: what is reached from where a block may go is reached from it. FlowHolds: where the ops of a block lie among all ops: plain laws. Opening arguments: arrays of bools, of integers, of slices; slices of integers as 'RowAt'. Opening a slice of integers, with its capacity. -/
import Derived.Test.YtijkdabmegbcjaaDoorM31
import Derived.Test.YtijkdabmegbcjaaDoorM12
import Derived.Test.YtijkdabmegbcjaaDoorM08
import Derived.ProofKit
import Derived.OpenShut
import Derived.ShutString
import Derived.ChangeOld
import Derived.Below
import Derived.Test.YtijkdabmegbcjaaDoorM00
set_option linter.all false
namespace Go.Proofs.YtijkdabmegbcjaaDoor
open Go.RowKit Go.Shelf

theorem reachZ_nat (cs : List Nat) (k : Nat) : reachZ cs k = reachN cs k := by unfold reachZ; rw [if_pos (by omega), Int.toNat_natCast]
theorem reachZ_len {cs : List Nat} (n : Int) : (reachZ cs n).length ≤ cs.length := by
  rw [reachZ_walk]
  exact sl_len (setL_sl _) fun y hy => by
    rw [mem_setL, List.mem_map] at hy
    obtain ⟨z, hz, rfl⟩ := hy
    exact walkZ_lt z hz
set_option maxRecDepth 100000 in
set_option maxHeartbeats 4000000 in
theorem within_any (cs : List Nat) (a : Option Addr) (c : Nat) (p : Option Addr) (q : Nat) (w : World) (h : CodeAt w a c cs) (hB : BlksAt w p q (blksN cs)) :
    Calls Tryd.prog 8 #[.slice a cs.length c, .slice p (blksN cs).length q] w fun e w' => e = .returned (.bool true) ∧ Below w.heap.size w w' := by
  have hcl := h.len
  have hbl := blksN_len cs
  have hrc := Lib.hid fun W (hW : Below w.heap.size w W) m => reach_any cs m a c W (h.below hW) (by omega)
  have hel := Lib.hid fun W (hW : Below w.heap.size w W) => (hB.below hW).elt
  have hmem := Lib.hid fun i (hi : i < (blksN cs).length) => List.getElem_mem hi
  clear h hB
  go_enter Tryd.func8, Tryd.ntmps8
  go_wp2
  go_loopw [5] (fun iv wx => ∃ i : Nat, iv = .int .i64 i ∧ i ≤ (blksN cs).length ∧ Hid (Below w.heap.size w wx)) (fun iv _ => (blksN cs).length - (intOf iv).toNat)
  case atStart => exact ⟨0, rfl, by omega, Lib.hid (xrefl w)⟩
  case round =>
    obtain ⟨i, rfl, hi, hb⟩ := hrel
    by_cases hlt : i < (blksN cs).length
    · have hltI : (i : Int) < (blksN cs).length := by omega
      by_cases h12 : i < 12
      · have h12I : (i : Int) < 12 := by omega
        obtain ⟨b, o, pn, qn, rfl, hr, hIn⟩ := hel.out wr hb.out i hlt
        have hbm := hmem.out i hlt
        have hself := reach_self hbm
        have hnl := next_len hbm
        have hc0 : wr.cell? ⟨b, o + i * 4, none⟩ = some (.int .i64 (blksN cs)[i].first) := by have := hr 0 _ rfl; rwa [Nat.add_zero] at this
        have hc2 : wr.cell? ⟨b, o + i * 4 + 2, none⟩ = some (.slice pn (blksN cs)[i].next.length qn) := hr 2 _ rfl
        have hnx : Hid (∀ x ∈ (blksN cs)[i].next, ∀ y ∈ reachN cs x, y ∈ reachN cs (blksN cs)[i].first) := Lib.hid fun x hx y hy => reach_next hbm hx hy
        have hRl : (reachN cs (blksN cs)[i].first).length ≤ 200 := by have := reachZ_len (cs := cs) (blksN cs)[i].first; rw [reachZ_nat] at this; omega
        have hr1 := hrc.out wr hb.out (blksN cs)[i].first
        rw [reachZ_nat] at hr1
        generalize (blksN cs)[i].first = F at *
        generalize (blksN cs)[i].next = X at *
        generalize reachN cs F = R at *
        have hin : inN R (F : Int) = true := by rw [inN_nat]; exact decide_eq_true hself
        replace hin := Lib.hid hin
        replace hr1 := Lib.hid hr1
        replace hIn := Lib.hid hIn
        clear hbm hself hr
        go_wp2_with (first
          | (go_at_call 13; refine hr1.out.mono ?_; rintro e w1 ⟨⟨v, rfl, hv⟩, hw1⟩; obtain ⟨a1, c1, rfl, hI1, -⟩ := hv.at; have hc02 := cbel hw1 hc0; have hc22 := cbel hw1 hc2; have hIn1 := Lib.hid (hIn.out.below hw1); replace hI1 := Lib.hid hI1; replace hw1 := Lib.hid (xtrans hb.out hw1); clear hv)
          | (go_at_call 19; refine (refIn_any R (F : Int) a1 c1 w1 hI1.out (by omega)).mono ?_; rintro e w2 ⟨rfl, rfl⟩; rw [hin.out]))
        go_loopw [7] (fun jv wx => ∃ j : Nat, jv = .int .i64 j ∧ j ≤ X.length ∧ Hid (Below w1.heap.size w1 wx)) (fun jv _ => X.length - (intOf jv).toNat)
        case atStart => exact ⟨0, rfl, by omega, Lib.hid (xrefl w1)⟩
        case round =>
          obtain ⟨j, rfl, hj, hbj⟩ := hrel
          have hcj := cbel hbj.out hc22
          by_cases hltj : j < X.length
          · have hltJ : (j : Int) < X.length := by omega
            by_cases h4 : j < 4
            · have h4I : (j : Int) < 4 := by omega
              obtain ⟨b2, o2, rfl, hcy⟩ := (hIn1.out.below hbj.out).get hltj
              have hbw := Lib.hid (xtrans hw1.out hbj.out)
              have hr2 := hrc.out wr hbw.out (X[j] : Int)
              rw [reachZ_nat] at hr2
              have hall : Hid (∀ y ∈ reachN cs X[j], y ∈ R) := Lib.hid fun y hy => hnx.out _ (List.getElem_mem hltj) y hy
              have hSl : (reachN cs X[j]).length ≤ 200 := by have := reachZ_len (cs := cs) (X[j] : Int); rw [reachZ_nat] at this; omega
              generalize X[j] = y at *
              generalize reachN cs y = T at *
              replace hr2 := Lib.hid hr2
              go_wp2_with (go_at_call 13; refine hr2.out.mono ?_; rintro e w3 ⟨⟨v, rfl, hv⟩, hw3⟩; obtain ⟨a3, c3, rfl, hI3, -⟩ := hv.at; replace hI3 := Lib.hid hI3; replace hw3 := Lib.hid (xtrans hbj.out hw3); clear hv)
              go_loopw [9] (fun kv wx => ∃ k : Nat, kv = .int .i64 k ∧ k ≤ T.length ∧ wx = w3) (fun kv _ => T.length - (intOf kv).toNat)
              case atStart => exact ⟨0, rfl, by omega, rfl⟩
              case round =>
                obtain ⟨k, rfl, hk, rfl⟩ := hrel
                by_cases hltk : k < T.length
                · have hltK : (k : Int) < T.length := by omega
                  obtain ⟨b4, o4, rfl, hcz⟩ := hI3.out.get hltk
                  have hin3 : Hid (inN R (T[k] : Int) = true) := Lib.hid (by rw [inN_nat]; exact decide_eq_true (hall.out _ (List.getElem_mem hltk)))
                  generalize T[k] = z at *
                  go_wp2_with (go_at_call 19; refine (refIn_any R (z : Int) a1 c1 wr (hI1.out.below hw3.out) (by omega)).mono ?_; rintro e w4 ⟨rfl, rfl⟩; rw [hin3.out])
                  exact ⟨⟨k + 1, by go_num, by omega, trivial⟩, by simp [intOf]; omega⟩
                · obtain rfl : k = T.length := by omega
                  clear hltk
                  go_wp2
                  exact ⟨⟨j + 1, rfl, by omega, hw3⟩, by simp [intOf]; omega⟩
            · have h4I : ¬ (j : Int) < 4 := by omega
              go_wp2
              exact ⟨⟨i + 1, rfl, by omega, Lib.hid (xtrans hw1.out hbj.out)⟩, by simp [intOf]; omega⟩
          · obtain rfl : j = X.length := by omega
            clear hltj
            go_wp2
            exact ⟨⟨i + 1, rfl, by omega, Lib.hid (xtrans hw1.out hbj.out)⟩, by simp [intOf]; omega⟩
      · have h12I : ¬ (i : Int) < 12 := by omega
        go_wp2
        go_ret
        exact ⟨rfl, hb.out⟩
    · obtain rfl : i = (blksN cs).length := by omega
      clear hlt
      go_wp2
      go_ret
      exact ⟨rfl, hb.out⟩
end Go.Proofs.YtijkdabmegbcjaaDoor
namespace Go.Proofs.YtijkdabmegbcjaaDoor

def offN (cs : List Nat) (i : Nat) : Nat := (((grps cs).take i).flatten).length
theorem offN_zero (cs : List Nat) : offN cs 0 = 0 := rfl
theorem offN_succ {cs : List Nat} {i : Nat} (hi : i < (grps cs).length) : offN cs (i + 1) = offN cs i + (grps cs)[i].length := by
  unfold offN
  rw [List.take_succ_eq_append_getElem hi, List.flatten_append, List.length_append]
  simp
theorem offN_all (cs : List Nat) : offN cs (grps cs).length = (opsL cs).length := by
  unfold offN
  rw [List.take_length, grps_join]
theorem off_split {cs : List Nat} {i : Nat} (hi : i < (grps cs).length) : opsL cs = ((grps cs).take i).flatten ++ ((grps cs)[i] ++ ((grps cs).drop (i + 1)).flatten) := by
  rw [← grps_join, ← List.flatten_cons, ← List.drop_eq_getElem_cons hi, ← List.flatten_append, List.take_append_drop]
theorem off_get {cs : List Nat} {i j : Nat} (hi : i < (grps cs).length) (hj : j < (grps cs)[i].length) : (opsL cs)[offN cs i + j]? = some (grps cs)[i][j] := by
  rw [off_split hi]
  unfold offN
  rw [List.getElem?_append_right (by omega), Nat.add_sub_cancel_left, List.getElem?_append_left hj, List.getElem?_eq_getElem hj]
theorem off_le {cs : List Nat} {i : Nat} (hi : i < (grps cs).length) : offN cs i + (grps cs)[i].length ≤ (opsL cs).length := by
  have := congrArg List.length (off_split hi)
  unfold offN
  rw [this]
  simp
theorem off_next {cs : List Nat} {i : Nat} (hi : i < (grps cs).length) {y : Nat} (hy : (opsL cs)[offN cs i + (grps cs)[i].length]? = some y) : lstN (grps cs)[i] < y := by
  have hne := grps_ne (List.getElem_mem hi)
  have hpos : 0 < (grps cs)[i].length := List.length_pos_iff.2 hne
  have h1 := off_get hi (j := (grps cs)[i].length - 1) (by omega)
  rw [lst_get hpos]
  obtain ⟨k1, e1⟩ := List.getElem?_eq_some_iff.1 h1
  obtain ⟨k2, e2⟩ := List.getElem?_eq_some_iff.1 hy
  rw [← e1, ← e2]
  exact (opsL_sl cs).get k2 (by omega)
theorem blks_get {cs : List Nat} {i : Nat} (hi : i < (grps cs).length) : (blksN cs)[i]'(by simpa [blksN] using hi) = blkN cs (grps cs)[i] := by
  simp only [blksN, List.getElem_map]
end Go.Proofs.YtijkdabmegbcjaaDoor
namespace Go.Proofs.YtijkdabmegbcjaaDoor
open Go.ChangeShapes Go.WideShapes Go.ChangeAt Go.RowKit
open Go.ChangeMaps (open_string shut_string)

/-- What became of the walk of a law: true, and nothing that was there has turned. -/
def Yes (w : World) (e : Ending) (w' : World) : Prop := e = .returned (.bool true) ∧ Below w.heap.size w w'

section
variable {H : Type} {enc : TypeId × Value → H} {P : Program} {w : World} {base : Nat} {spare : Nat → Bool} {held : Bool} {t e : TypeId} {fuel : Nat} {cs : List Value} {x : DataW H × List MemPlace}

/-- An array whose elements are of one cell each: cell by cell. -/
theorem trod_arr1 {n : Nat} (ht : P.underlying t = some (.array n e)) (hc : P.cellsOf e = 1) (hct : P.cellsOf t = n) (h : DataW.trod enc P w base spare held fuel t cs = some x) :
    cs.length = n ∧ ∀ i (hi : i < cs.length), ∃ m y, DataW.trod enc P w base spare held m e [cs[i]] = some y := by
  obtain ⟨xs, m, _, _, hl, hx, hi⟩ := DataW.trod_array ht h
  have hl' : cs.length = n := hl.trans hct
  refine ⟨hl', fun i hlt => ?_⟩
  have := hi i (by omega)
  rw [hc, Nat.mul_one, List.drop_eq_getElem_cons hlt, List.take_succ_cons, List.take_zero, List.getElem?_eq_getElem (by omega)] at this
  exact ⟨m, _, this⟩

theorem trod_bools {n : Nat} (ht : P.underlying t = some (.array n e)) (he : P.underlying e = some .bool) (hc : P.cellsOf e = 1) (hct : P.cellsOf t = n) (h : DataW.trod enc P w base spare held fuel t cs = some x) :
    ∃ bs : List Bool, bs.length = n ∧ cs = bs.map Value.bool := by
  obtain ⟨hl, hi⟩ := trod_arr1 ht hc hct h
  refine ⟨cs.map (fun | .bool b => b | _ => false), by simpa using hl, ?_⟩
  rw [List.map_map]
  refine (List.map_id cs).symm.trans (List.map_congr_left fun v hv => ?_)
  obtain ⟨i, hlt, rfl⟩ := List.getElem_of_mem hv
  obtain ⟨m, y, hy⟩ := hi i hlt
  obtain ⟨b, hb, _⟩ := DataW.trod_bool he hy
  simp only [List.cons.injEq, and_true] at hb
  simp [hb]

theorem trod_intsA {n : Nat} {q : IntKind} (ht : P.underlying t = some (.array n e)) (he : P.underlying e = some (.int q)) (hc : P.cellsOf e = 1) (hct : P.cellsOf t = n) (h : DataW.trod enc P w base spare held fuel t cs = some x) :
    ∃ zs : List Int, zs.length = n ∧ cs = zs.map (Value.int q) ∧ ∀ z ∈ zs, (Lit.int q z).wf = true := by
  obtain ⟨hl, hi⟩ := trod_arr1 ht hc hct h
  have hv : ∀ v ∈ cs, ∃ z, v = .int q z ∧ (Lit.int q z).wf = true := fun v hv => by
    obtain ⟨i, hlt, rfl⟩ := List.getElem_of_mem hv
    obtain ⟨m, y, hy⟩ := hi i hlt
    obtain ⟨z, hz, _, hw⟩ := DataW.trod_int he hy
    simp only [List.cons.injEq, and_true] at hz
    exact ⟨z, hz, hw⟩
  refine ⟨cs.map (fun | .int _ z => z | _ => 0), by simpa using hl, ?_, ?_⟩
  · rw [List.map_map]
    refine (List.map_id cs).symm.trans (List.map_congr_left fun v hm => ?_)
    obtain ⟨z, rfl, _⟩ := hv v hm
    rfl
  · intro z hz
    obtain ⟨v, hm, rfl⟩ := List.mem_map.1 hz
    obtain ⟨z', rfl, hw⟩ := hv v hm
    exact hw

/-- A slice of integers. -/
theorem trod_row {q : IntKind} {v : Value} (ht : P.underlying t = some (.slice e)) (he : P.underlying e = some (.int q)) (hc : P.cellsOf e = 1) (h : DataW.trod enc P w base spare held fuel t [v] = some x) :
    ∃ a c zs, v = .slice a zs.length c ∧ RowAt q w a zs ∧ (a = none → c = 0) ∧ zs.length ≤ 9223372036854775807 ∧ ∀ z ∈ zs, (Lit.int q z).wf = true := by
  rcases open_ints ht he hc h with ⟨hcs, _⟩ | ⟨a, len, cap, zs, hcs, _, hl, hm, hz, _, hcell, hw⟩
  · simp only [List.cons.injEq, and_true] at hcs
    exact ⟨none, 0, [], hcs, RowAt.nil, fun _ => rfl, by simp, by simp⟩
  · simp only [List.cons.injEq, and_true] at hcs
    have hlz : len ≤ zs.length := by split at hz <;> omega
    refine ⟨some a, cap, zs.take len, by rw [hcs, List.length_take, Nat.min_eq_left hlz], fun i hi => ?_, by simp, ?_, fun z hz => hw z (List.mem_of_mem_take hz)⟩
    · rw [List.length_take] at hi
      have hcl := hcell i (by omega)
      obtain ⟨b, o, s⟩ := a
      have h0 := hcell 0 (by omega)
      have hs : s = none := by simpa [Addr.add] using World.cell?_spot h0
      subst hs
      refine ⟨b, o, rfl, ?_⟩
      rw [Addr.add_lit] at hcl
      rw [hcl, List.getElem_take, List.getD_eq_getElem?_getD, List.getElem?_eq_getElem (by omega)]
      rfl
    · unfold maxLen at hm
      rw [List.length_take]; omega
end

/-- What a reading says of the cells, where the type has more than one cell. -/
theorem agg_of_trod {H : Type} {enc : TypeId × Value → H} {P : Program} {w : World} {base : Nat} {spare : Nat → Bool} {held : Bool} {t : TypeId} {v : Value} {d : DataW H} {p : List MemPlace} (h : DataW.Trod enc P w base spare held t v d p)
    {n : Nat} {e : TypeId} (ht : P.underlying t = some (.array n e)) (hc : P.cellsOf e = 1) (hct : P.cellsOf t = n) (hn : n ≠ 1) : ∃ cs : Array Value, v = .agg cs ∧ ∃ fuel x, DataW.trod enc P w base spare held fuel t cs.toList = some x := by
  obtain ⟨fuel, hf⟩ := h
  cases v with
  | agg cs => exact ⟨cs, rfl, fuel, _, hf⟩
  | _ => exact absurd (trod_arr1 ht hc hct hf).1 (by simpa [Value.cells] using fun h => hn h.symm)

end Go.Proofs.YtijkdabmegbcjaaDoor
namespace Go.Proofs.YtijkdabmegbcjaaDoor
open Go.ChangeShapes Go.WideShapes Go.ChangeAt Go.RowKit
variable {H : Type} {enc : TypeId × Value → H} {P : Program} {w : World} {base : Nat} {spare : Nat → Bool} {held : Bool} {t e : TypeId} {fuel : Nat} {cs : List Value} {x : DataW H × List MemPlace}

theorem trod_row2 {q : IntKind} {v : Value} (ht : P.underlying t = some (.slice e)) (he : P.underlying e = some (.int q)) (hc : P.cellsOf e = 1) (h : DataW.trod enc P w base spare held fuel t [v] = some x) :
    ∃ a c zs, v = .slice a zs.length c ∧ RowAt q w a zs ∧ (a = none → c = 0) ∧ (zs.length ≤ c ∧ c ≤ 9223372036854775807) ∧ ∀ z ∈ zs, (Lit.int q z).wf = true := by
  obtain ⟨a, c, zs, h1, h2, h3, h4, h5⟩ := trod_row ht he hc h
  refine ⟨a, c, zs, h1, h2, h3, ?_, h5⟩
  rcases open_ints ht he hc h with ⟨hcs, _⟩ | ⟨a', len, cap, zs', hcs, _, hl, hm, _⟩
  · simp only [List.cons.injEq, and_true] at hcs
    rw [h1] at hcs
    injection hcs with e1 e2 e3
    omega
  · simp only [List.cons.injEq, and_true] at hcs
    rw [h1] at hcs
    injection hcs with e1 e2 e3
    unfold maxLen at hm
    omega
end Go.Proofs.YtijkdabmegbcjaaDoor
