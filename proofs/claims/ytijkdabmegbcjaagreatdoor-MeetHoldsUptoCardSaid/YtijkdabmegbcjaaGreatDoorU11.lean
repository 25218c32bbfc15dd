/- Texts of this claim, merged; no condition. -/
import Derived.Test.YtijkdabmegbcjaaGreatDoorU10
import Derived.Test.YtijkdabmegbcjaaGreatDoorU06
import Derived.Test.YtijkdabmegbcjaaGreatDoorU00
set_option linter.all false
namespace Go.Proofs.YtijkdabmegbcjaaGreatDoor
open Go.RowKit

theorem OwnI.snoc {w w' : World} {v : Value} {l : List Nat} {x : Nat} (h : w'.ownsRow w.heap.size 3 1 v (l.length + 1) ((natI l).map (Value.int .i64) ++ [(x : Int)].map (Value.int .i64))) : OwnI w w' v (l ++ [x]) := by
  unfold OwnI
  rw [List.length_append, natI_app, List.map_append]
  exact h
set_option maxRecDepth 100000 in
set_option maxHeartbeats 2000000 in
theorem refWith_any (l : List Nat) (n : Nat) (a : Option Addr) (c : Nat) (w : World) (h : IntsAt w a c l) (hl : l.length ≤ 2097200) :
    Calls Tryz.prog 52 #[.slice a l.length c, .int .i64 n] w fun e w' => (∃ v, e = .returned v ∧ OwnI w w' v (insW n l)) ∧ Below w.heap.size w w' := by
  obtain ⟨i0, hi, hz0, hz1, hz2⟩ := info_parts info_int
  obtain ⟨f1, f2⟩ := tw_facts n l
  have hall := Lib.hid (withTo_all l n)
  have hKl : (l.takeWhile (fun y => decide (y < n))).length ≤ l.length := by
    have h := congrArg List.length (List.takeWhile_append_dropWhile (p := fun y => decide (y < n)) (l := l))
    rw [List.length_append] at h; omega
  have hcells : Hid (∀ i (hi : i < l.length) W, Below w.heap.size w W → ∃ b o, a = some ⟨b, o, none⟩ ∧ W.cell? ⟨b, o + i, none⟩ = some (.int .i64 (l[i] : Int))) := Lib.hid fun i hi W hW => (h.below hW).get hi
  clear h
  replace f1 := Lib.hid f1
  replace f2 := Lib.hid f2
  generalize (l.takeWhile (fun y => decide (y < n))).length = K at *
  go_enter Tryz.func52, Tryz.ntmps52
  go_wp2
  go_loopw [5, 6] (fun v i wx => ∃ (k : Nat), k ≤ K ∧ i = .int .i64 k ∧ Hid (OwnI w wx v (l.take k)) ∧ Hid (Below w.heap.size w wx)) (fun _ i _ => 2097400 - (intOf i).toNat)
  case atStart => exact ⟨0, by omega, rfl, Lib.hid (OwnI.nil w), Lib.hid (xrefl w)⟩
  case round =>
    obtain ⟨k, hk, rfl, hown, hb⟩ := hrel
    by_cases hlt : k < K
    · have hkl : k < l.length := by omega
      have hkI : (k : Int) < l.length := by omega
      obtain ⟨b, o, rfl, hc⟩ := hcells.out k hkl wr hb.out
      have hx := f1.out k hlt hkl
      have hxI : (l[k] : Int) < n := by omega
      have htk := Lib.hid (List.take_succ_eq_append_getElem hkl)
      have hlen : (l.take k).length ≤ 2097200 := by rw [List.length_take]; omega
      have hsb : w.heap.size ≤ (wr.alloc (.cells #[.int .i64 (l[k] : Int)] 3)).heap.size := by rw [World.size_alloc]; have := hb.out.size; omega
      generalize hpre : l.take k = pre at *
      generalize l[k] = x at *
      replace hpre := Lib.hid hpre
      go_wp2_with (at_builtin; refine wpList_append_row (wr.alloc (.cells #[.int .i64 (x : Int)] 3)) rfl _ _ 42 rfl w.heap.size 3 i0 (.int .i64 0) 8 Tryz.underlying42 hi hz0 hz1 hz2 rfl _ pre.length _ rfl (hown.out.alloc _) (some ⟨wr.heap.size, 0, none⟩) 1 .i64 [(x : Int)] rfl (by simp) (rowAt_one wr 3 (x : Int)) (by unfold maxLen; simp; omega) (by simp; omega) hsb ?_; intro v3 w3 ho3 hg3; have hb3 := (xalloc hb.out _).grown hg3 hsb (fun j hj => (hown.out.lt j hj).1); replace hb3 := Lib.hid hb3; replace ho3 := Lib.hid ho3; clear hg3)
      exact ⟨⟨k + 1, by omega, rfl, Lib.hid (by rw [htk.out]; exact OwnI.snoc ho3.out), hb3⟩, by simp [intOf]; omega⟩
    · obtain rfl : k = K := by omega
      clear hlt hk
      obtain ⟨a5, c5, rfl⟩ := own_slice hown.out
      have hw0 := withTo_zero l n k
      have hlen : (l.take k).length ≤ 2097200 := by rw [List.length_take]; omega
      have hlk : (l.take k).length = k := by rw [List.length_take]; omega
      have hsb : w.heap.size ≤ (wr.alloc (.cells #[.int .i64 (n : Int)] 3)).heap.size := by rw [World.size_alloc]; have := hb.out.size; omega
      have hout : (k = l.length ∧ ¬ (k : Int) < l.length) ∨ ∃ hkl : k < l.length, n ≤ l[k] := by
        by_cases e : k < l.length
        · exact .inr ⟨e, f2.out e⟩
        · exact .inl (by omega)
      have hstep := Lib.hid (fun i => withTo_step l n k i)
      have hwl := Lib.hid (withTo_len l n k)
      generalize hpre : l.take k = pre at *
      have hkI2 : (k : Int) ≤ l.length := by omega
      have hlkI : (pre.length : Int) = k := by omega
      replace hlk := Lib.hid hlk
      replace hw0 := Lib.hid hw0
      replace hpre := Lib.hid hpre
      rcases hout with ⟨he, heI⟩ | ⟨hkl, hge⟩
      · replace he := Lib.hid he
        go_wp2_with (at_builtin; refine wpList_append_row (wr.alloc (.cells #[.int .i64 (n : Int)] 3)) rfl _ _ 42 rfl w.heap.size 3 i0 (.int .i64 0) 8 Tryz.underlying42 hi hz0 hz1 hz2 rfl _ pre.length _ rfl (hown.out.alloc _) (some ⟨wr.heap.size, 0, none⟩) 1 .i64 [(n : Int)] rfl (by simp) (rowAt_one wr 3 (n : Int)) (by unfold maxLen; simp; omega) (by simp; omega) hsb ?_; intro v3 w3 ho3 hg3; have hb3 := (xalloc hb.out _).grown hg3 hsb (fun j hj => (hown.out.lt j hj).1); replace hb3 := Lib.hid hb3; replace ho3 := Lib.hid ho3; clear hg3)
        have hown0 : Hid (OwnI w w3 v3 (withTo l n k k)) := Lib.hid (by rw [hw0.out]; exact OwnI.snoc ho3.out)
        clear ho3 hw0 hown hb hpre
        go_loopw [5, 8] (fun v i wx => ∃ (j : Nat), k ≤ j ∧ j ≤ l.length ∧ i = .int .i64 j ∧ Hid (OwnI w wx v (withTo l n k j)) ∧ Hid (Below w.heap.size w wx)) (fun _ i _ => 2097400 - (intOf i).toNat)
        case atStart => exact ⟨k, by omega, by omega, rfl, hown0, hb3⟩
        case round =>
          clear hown0 hb3
          obtain ⟨j, hkj, hj, rfl, hown, hb⟩ := hrel
          by_cases hlt : j < l.length
          · exact absurd hlt (by omega)
          · obtain rfl : j = l.length := by omega
            have hown2 := hown.out
            rw [hall.out] at hown2
            replace hown2 := Lib.hid hown2
            clear hlt hown
            go_wp2
            go_ret
            exact ⟨⟨_, rfl, hown2.out⟩, hb.out⟩
      · have hklI : (k : Int) < l.length := by omega
        obtain ⟨b, o, rfl, hc⟩ := hcells.out k hkl wr hb.out
        have hgeI : ¬ (l[k] : Int) < n := by omega
        generalize (l[k] : Int) = z at *
        go_wp2_with (at_builtin; refine wpList_append_row (wr.alloc (.cells #[.int .i64 (n : Int)] 3)) rfl _ _ 42 rfl w.heap.size 3 i0 (.int .i64 0) 8 Tryz.underlying42 hi hz0 hz1 hz2 rfl _ pre.length _ rfl (hown.out.alloc _) (some ⟨wr.heap.size, 0, none⟩) 1 .i64 [(n : Int)] rfl (by simp) (rowAt_one wr 3 (n : Int)) (by unfold maxLen; simp; omega) (by simp; omega) hsb ?_; intro v3 w3 ho3 hg3; have hb3 := (xalloc hb.out _).grown hg3 hsb (fun j hj => (hown.out.lt j hj).1); replace hb3 := Lib.hid hb3; replace ho3 := Lib.hid ho3; clear hg3)
        have hown0 : Hid (OwnI w w3 v3 (withTo l n k k)) := Lib.hid (by rw [hw0.out]; exact OwnI.snoc ho3.out)
        clear ho3 hw0 hown hb hpre
        go_loopw [5, 8] (fun v i wx => ∃ (j : Nat), k ≤ j ∧ j ≤ l.length ∧ i = .int .i64 j ∧ Hid (OwnI w wx v (withTo l n k j)) ∧ Hid (Below w.heap.size w wx)) (fun _ i _ => 2097400 - (intOf i).toNat)
        case atStart => exact ⟨k, by omega, by omega, rfl, hown0, hb3⟩
        case round =>
          clear hown0 hb3
          obtain ⟨j, hkj, hj, rfl, hown, hb⟩ := hrel
          by_cases hlt : j < l.length
          · have hjI : (j : Int) < l.length := by omega
            obtain ⟨b, o, ea, hc⟩ := hcells.out j hlt wr hb.out
            cases ea
            have hs := hstep.out j hlt hkj
            have hlen2 := hwl.out j
            have hsb2 : w.heap.size ≤ (wr.alloc (.cells #[.int .i64 (l[j] : Int)] 3)).heap.size := by rw [World.size_alloc]; have := hb.out.size; omega
            generalize hP : withTo l n k j = P at *
            replace hP := Lib.hid hP
            by_cases e : l[j] = n
            · rw [if_neg (by simp [e]), List.append_nil] at hs
              have e2 : (l[j] : Int) = n := by omega
              rw [e2] at hc
              clear e e2
              replace hs := Lib.hid hs
              go_wp2
              exact ⟨⟨j + 1, by omega, by omega, rfl, by rw [hs.out]; exact hown, hb⟩, by simp [intOf]; omega⟩
            · rw [if_pos e] at hs
              have e2 : ¬ (l[j] : Int) = n := by omega
              generalize l[j] = x at *
              replace hs := Lib.hid hs
              clear e
              go_wp2_with (at_builtin; refine wpList_append_row (wr.alloc (.cells #[.int .i64 (x : Int)] 3)) rfl _ _ 42 rfl w.heap.size 3 i0 (.int .i64 0) 8 Tryz.underlying42 hi hz0 hz1 hz2 rfl _ P.length _ rfl (hown.out.alloc _) (some ⟨wr.heap.size, 0, none⟩) 1 .i64 [(x : Int)] rfl (by simp) (rowAt_one wr 3 (x : Int)) (by unfold maxLen; simp; omega) (by simp; omega) hsb2 ?_; intro v3 w3 ho3 hg3; have hb3 := (xalloc hb.out _).grown hg3 hsb2 (fun j hj => (hown.out.lt j hj).1); replace hb3 := Lib.hid hb3; replace ho3 := Lib.hid ho3; clear hg3)
              exact ⟨⟨j + 1, by omega, by omega, rfl, Lib.hid (by rw [hs.out]; exact OwnI.snoc ho3.out), hb3⟩, by simp [intOf]; omega⟩
          · obtain rfl : j = l.length := by omega
            have hown2 := hown.out
            rw [hall.out] at hown2
            replace hown2 := Lib.hid hown2
            clear hlt hown
            go_wp2
            go_ret
            exact ⟨⟨_, rfl, hown2.out⟩, hb.out⟩

/-- Does a block end with the op at x, the op at y being the next one? -/
def cutsT (cs : List Nat) (y : Option Nat) : Bool := match y with | none => true | some y => byN cs y == 91
def cutsN (cs : List Nat) (x : Nat) (y : Option Nat) : Bool := stopN (byN cs x) || cutsT cs y
def nxI (y : Option Nat) : Int := match y with | none => -1 | some y => y
set_option maxRecDepth 100000 in
theorem refCuts_anyL (cs : List Nat) (x : Nat) (y : Option Nat) (a : Option Addr) (c : Nat) (w : World) (h : CodeL w a c cs) (hx : x < cs.length) (hy : ∀ k, y = some k → k < cs.length) :
    Calls Tryz.prog 77 #[.slice a cs.length c, .int .i64 x, .int .i64 (nxI y)] w fun e w' => e = .returned (.bool (cutsN cs x y)) ∧ Below w.heap.size w w' := by
  have hcl := h.len
  obtain ⟨b, o, rfl, hc, h256⟩ := h.get hx
  have hxI : (x : Int) < cs.length := by omega
  have hends := Lib.hid fun W => refEnds_any (byN cs x) W h256
  have hcell : Hid (∀ W, Below w.heap.size w W → W.cell? ⟨b, o + x, none⟩ = some (.int .u8 (byN cs x))) := Lib.hid fun W hW => cbel hW hc
  have hdef : cutsN cs x y = ((endN (byN cs x) || byN cs x == 86 || byN cs x == 87) || cutsT cs y) := rfl
  rw [hdef]
  have hcells : Hid (∀ k, k < cs.length → ∀ W, Below w.heap.size w W → W.cell? ⟨b, o + k, none⟩ = some (.int .u8 (byN cs k))) := Lib.hid fun k hk W hW => by
    obtain ⟨b', o', e, hc, -⟩ := (h.below hW).get hk
    cases e; exact hc
  clear hdef h
  cases he : endN (byN cs x) with
  | true =>
    rw [he] at hends
    rw [Bool.true_or, Bool.true_or, Bool.true_or]
    generalize byN cs x = z at *
    generalize nxI y = q at *
    clear he hcells
    go_enter Tryz.func77, Tryz.ntmps77
    go_wp2_with (go_at_call 79; refine (hends.out _).mono ?_; rintro e w1 ⟨rfl, hb1⟩; have hc1 := hcell.out w1 hb1)
    go_ret
    exact ⟨rfl, hb1⟩
  | false =>
    rw [he] at hends
    rw [Bool.false_or]
    clear he
    generalize hz : byN cs x = z at *
    replace hz := Lib.hid hz
    by_cases e1 : z = 86
    · subst e1
      clear hcells
      generalize nxI y = q at *
      go_enter Tryz.func77, Tryz.ntmps77
      go_wp2_with (go_at_call 79; refine (hends.out _).mono ?_; rintro e w1 ⟨rfl, hb1⟩; have hc1 := hcell.out w1 hb1)
      go_ret
      exact ⟨rfl, hb1⟩
    · by_cases e2 : z = 87
      · subst e2
        clear hcells
        generalize nxI y = q at *
        go_enter Tryz.func77, Tryz.ntmps77
        go_wp2_with (go_at_call 79; refine (hends.out _).mono ?_; rintro e w1 ⟨rfl, hb1⟩; have hc1 := hcell.out w1 hb1)
        go_ret
        exact ⟨rfl, hb1⟩
      · have b1 : (z == 86) = false := by simpa using e1
        have b2 : (z == 87) = false := by simpa using e2
        have c1 : ¬ (z : Int) = 86 := by omega
        have c2 : ¬ (z : Int) = 87 := by omega
        rw [b1, b2, Bool.false_or, Bool.false_or]
        clear e1 e2 b1 b2
        cases y with
        | none =>
          clear hcells
          unfold nxI
          go_enter Tryz.func77, Tryz.ntmps77
          go_wp2_with (go_at_call 79; refine (hends.out _).mono ?_; rintro e w1 ⟨rfl, hb1⟩; have hc1 := hcell.out w1 hb1)
          go_ret
          refine ⟨?_, hb1⟩
          have d1 : ((z : Int) == 86) = false := by simpa using c1
          have d2 : ((z : Int) == 87) = false := by simpa using c2
          simp [d1, d2]
          rfl
        | some y =>
          have hyl := hy y rfl
          have hyI : (y : Int) < cs.length := by omega
          have hy2 := Lib.hid (hcells.out y hyl)
          have e3 : (byN cs y == 91) = (((byN cs y : Nat) : Int) == 91) := by
            rw [Bool.eq_iff_iff, beq_iff_eq, beq_iff_eq]; omega
          show Calls Tryz.prog 77 #[.slice (some ⟨b, o, none⟩) cs.length c, .int .i64 x, .int .i64 (y : Int)] w fun e w' => e = .returned (.bool (byN cs y == 91)) ∧ Below w.heap.size w w'
          rw [e3]
          generalize ((byN cs y : Nat) : Int) = u at *
          clear hcells e3 hy
          go_enter Tryz.func77, Tryz.ntmps77
          go_wp2_with (go_at_call 79; refine (hends.out _).mono ?_; rintro e w1 ⟨rfl, hb1⟩; have hc1 := hcell.out w1 hb1; have hc2 := hy2.out w1 hb1)
          go_ret
          refine ⟨?_, hb1⟩
          have d1 : ((z : Int) == 86) = false := by simpa using c1
          have d2 : ((z : Int) == 87) = false := by simpa using c2
          have d3 : decide ((y : Int) < 0) = false := by simp
          simp [d1, d2, d3]
theorem refBehind11_anyL (cs : List Nat) (x : Nat) (a : Option Addr) (c : Nat) (w : World) (h : CodeL w a c cs) (hx : x < cs.length) :
    Calls Tryz.prog 78 #[.slice a cs.length c, .int .i64 x] w fun e w' => e = .returned (.int .i64 (if nxN cs x < cs.length then ((nxN cs x : Nat) : Int) else -1)) ∧ Below w.heap.size w w' := by
  have hcl := h.len
  obtain ⟨b, o, rfl, hc, h256⟩ := h.get hx
  have hxI : (x : Int) < cs.length := by omega
  have hnx : Hid ((x : Int) + 1 + ((szN (byN cs x) : Nat) : Int) = ((nxN cs x : Nat) : Int)) := Lib.hid (by unfold nxN; omega)
  have hsz := szN_le (byN cs x)
  have hnl : nxN cs x ≤ 1048700 := by unfold nxN; omega
  have hinf := Lib.hid (refSize_any (byN cs x) w h256)
  generalize nxN cs x = nx at *
  generalize szN (byN cs x) = sz at *
  generalize byN cs x = z at *
  clear h
  by_cases hl : nx < cs.length
  · rw [if_pos hl]
    have hlI : ¬ (cs.length : Int) ≤ nx := by omega
    go_enter Tryz.func78, Tryz.ntmps78
    go_wp2_with (go_at_call 70; refine hinf.out.mono ?_; rintro e w1 ⟨⟨nm, i, o, g, q, rfl⟩, hb1⟩; have hnx := hnx.out)
    go_ret
    exact ⟨rfl, hb1⟩
  · rw [if_neg hl]
    have hlI : (cs.length : Int) ≤ nx := by omega
    go_enter Tryz.func78, Tryz.ntmps78
    go_wp2_with (go_at_call 70; refine hinf.out.mono ?_; rintro e w1 ⟨⟨nm, i, o, g, q, rfl⟩, hb1⟩; have hnx := hnx.out)
    go_ret
    exact ⟨rfl, hb1⟩
end Go.Proofs.YtijkdabmegbcjaaGreatDoor
namespace Go.Proofs.YtijkdabmegbcjaaGreatDoor
open Go.RowKit

def blkC (p : Option Addr) (q : Nat) (b : BlkN) : List Value := [.int .i64 b.first, .int .i64 b.last, .slice p b.next.length q, .bool b.exit]
def blkV (p : Option Addr) (q : Nat) (b : BlkN) : Value := .agg (blkC p q b).toArray
def blk0 : BlkN := ⟨0, 0, [], false⟩
/-- Blocks, as a slice. -/
structure BlksAt (w : World) (a : Option Addr) (c : Nat) (bs : List BlkN) : Prop where
  elt : ∀ i (h : i < bs.length), ∃ b o p q, a = some ⟨b, o, none⟩ ∧ w.rangeAt b (o + i * 4) (blkC p q bs[i]) ∧ IntsAt w p q bs[i].next
  nil : a = none → c = 0
theorem rangeAt_below {w w' : World} {b o : Nat} {cs : List Value} (h : w.rangeAt b o cs) (hb : Below w.heap.size w w') : w'.rangeAt b o cs := fun j v hj => cbel hb (h j v hj)
theorem range_blk {w : World} {b o : Nat} {p : Option Addr} {q : Nat} {x : BlkN} (h : w.rangeAt b o (blkC p q x)) : w.cell? ⟨b, o, none⟩ = some (.int .i64 x.first) ∧ w.cell? ⟨b, o + 1, none⟩ = some (.int .i64 x.last) ∧ w.cell? ⟨b, o + 2, none⟩ = some (.slice p x.next.length q) ∧ w.cell? ⟨b, o + 3, none⟩ = some (.bool x.exit) :=
  ⟨h 0 _ rfl, h 1 _ rfl, h 2 _ rfl, h 3 _ rfl⟩
def findZ (bs : List BlkN) (n : Int) : Option BlkN := bs.find? fun b => (b.first : Int) == n
theorem findZ_nat (bs : List BlkN) (n : Nat) : findZ bs n = findB bs n := by
  unfold findZ findB
  congr 1
  funext b
  rw [Bool.eq_iff_iff, beq_iff_eq, decide_eq_true_eq]; omega
def ofZ (bs : List BlkN) (n : Int) : Option BlkN := bs.find? fun b => decide ((b.first : Int) ≤ n) && decide (n ≤ (b.last : Int))
theorem find_some {α : Type} {l : List α} {f : α → Bool} {k : Nat} (hk : k < l.length) (h : f l[k] = true) (hn : ∀ j, (hj : j < l.length) → j < k → f l[j] = false) : l.find? f = some l[k] := by
  have e0 := List.find?_append (xs := l.take k) (ys := l.drop k) (p := f)
  rw [List.take_append_drop] at e0
  have e1 : (l.take k).find? f = none := by
    rw [List.find?_eq_none]
    intro x hx
    obtain ⟨j, hj, rfl⟩ := List.getElem_of_mem hx
    rw [List.getElem_take]
    rw [List.length_take] at hj
    simp [hn j (by omega) (by omega)]
  have e2 : (l.drop k).find? f = some l[k] := by
    rw [List.drop_eq_getElem_cons hk, List.find?_cons, h]
  rw [e0, e1, e2]
  rfl
theorem find_no {α : Type} {l : List α} {f : α → Bool} (hn : ∀ j, (hj : j < l.length) → f l[j] = false) : l.find? f = none := by
  rw [List.find?_eq_none]
  intro x hx
  obtain ⟨j, hj, rfl⟩ := List.getElem_of_mem hx
  simp [hn j hj]
def FindR (w : World) (r : Option BlkN) (e : Ending) (w' : World) : Prop := (∃ p q, e = .returned (.tuple #[blkV p q (r.getD blk0), .bool r.isSome]) ∧ IntsAt w' p q (r.getD blk0).next) ∧ Below w.heap.size w w'
theorem intsAt_nil (w : World) : IntsAt w none 0 [] := ⟨fun i hi => absurd hi (by simp [natI]), fun _ => rfl⟩
theorem struct_block : ∃ fs, Tryz.prog.underlying 51 = some (.struct fs) := ⟨_, Tryz.underlying51⟩
set_option maxRecDepth 100000 in
set_option maxHeartbeats 1000000 in
theorem refOf11_any (bs : List BlkN) (n : Int) (a : Option Addr) (c : Nat) (w : World) (h : BlksAt w a c bs) (hl : bs.length ≤ 1048700) :
    Calls Tryz.prog 49 #[.slice a bs.length c, .int .i64 n] w (FindR w (ofZ bs n)) := by
  have hB0 : Hid (BlkG (w.alloc (.cells #[.int .i64 0, .int .i64 0, .slice none 0 0, .bool false] 51)) w.heap.size 51 (blkC none 0 blk0)) := Lib.hid (BlkG.new w _ (blkC none 0 blk0))
  have hb0 : Hid (Below w.heap.size w (w.alloc (.cells #[.int .i64 0, .int .i64 0, .slice none 0 0, .bool false] 51))) := Lib.hid (xalloc (xrefl w) _)
  obtain ⟨fs, hu⟩ := struct_block
  have hyes : Hid (∀ k, (hk : k < bs.length) → ((bs[k].first : Int) ≤ n ∧ n ≤ (bs[k].last : Int)) → (∀ j, (hj : j < bs.length) → j < k → ¬ ((bs[j].first : Int) ≤ n ∧ n ≤ (bs[j].last : Int))) → ofZ bs n = some bs[k]) := Lib.hid fun k hk e hn => find_some hk (by simpa using e) fun j hj hjk => by simpa using hn j hj hjk
  have hno : Hid ((∀ j, (hj : j < bs.length) → ¬ ((bs[j].first : Int) ≤ n ∧ n ≤ (bs[j].last : Int))) → ofZ bs n = none) := Lib.hid fun hn => find_no fun j hj => by simpa using hn j hj
  have h2 := Lib.hid h
  clear h
  generalize ofZ bs n = r at *
  go_enter Tryz.func49, Tryz.ntmps49
  go_wp2
  go_loop [6] (fun i => ∃ k : Nat, k ≤ bs.length ∧ i = .int .i64 k ∧ Hid (∀ j, (h : j < bs.length) → j < k → ¬ ((bs[j].first : Int) ≤ n ∧ n ≤ (bs[j].last : Int)))) (fun i => bs.length - (intOf i).toNat)
  case atStart => exact ⟨0, by omega, rfl, Lib.hid fun j _ h => by omega⟩
  case round =>
    obtain ⟨k, hk, rfl, hs⟩ := hrel
    by_cases hlt : k < bs.length
    · have hltI : (k : Int) < bs.length := by omega
      obtain ⟨b, o, p, q, rfl, hr, hI⟩ := h2.out.elt k hlt
      replace hr := rangeAt_below hr hb0.out
      obtain ⟨hc, hd, -, -⟩ := range_blk hr
      by_cases e : ((bs[k].first : Int) ≤ n ∧ n ≤ (bs[k].last : Int))
      · have hrr := hyes.out k hlt e hs.out
        subst hrr
        obtain ⟨e1, e2⟩ := e
        replace hr := Lib.hid hr
        replace hI := Lib.hid hI
        go_wp2_with (first
          | (refine wpList_load_mid rfl 51 _ rfl b (o + k * 4) rfl (blkC p q bs[k]) _ hr.out hu rfl (by kernel_rfl) ?_)
          | (refine wpList_store_blkG rfl 51 _ _ rfl w.heap.size rfl 51 (blkC none 0 blk0) (blkC p q bs[k]) hB0.out rfl rfl (by kernel_rfl) rfl ?_; intro w2 hB2 ho2; replace hB2 := Lib.hid hB2; replace ho2 := Lib.hid ho2))
        refine bodyPost_ret (results_blkG2 (p := 4) rfl _ _ w.heap.size 51 _ _ rfl hB2.out hu rfl (by kernel_rfl)) rfl ?_
        have hb2 := ho2.out.below hb0.out hb0.out.size (by rintro i rfl; omega)
        exact ⟨⟨p, q, rfl, hI.out.below hb2⟩, hb2⟩
      · have hs2 : Hid (∀ j, (h : j < bs.length) → j < k + 1 → ¬ ((bs[j].first : Int) ≤ n ∧ n ≤ (bs[j].last : Int))) := Lib.hid fun j h hj => by
          by_cases e2 : j = k
          · subst e2; exact e
          · exact hs.out j h (by omega)
        clear hr hI
        by_cases e1 : (bs[k].first : Int) ≤ n
        · have e3 : ¬ n ≤ (bs[k].last : Int) := fun h => e ⟨e1, h⟩
          generalize (bs[k].first : Int) = y at *
          generalize (bs[k].last : Int) = y2 at *
          clear e
          go_wp2
          exact ⟨⟨k + 1, by omega, rfl, hs2⟩, by simp [intOf]; omega⟩
        · generalize (bs[k].first : Int) = y at *
          generalize (bs[k].last : Int) = y2 at *
          clear e
          go_wp2
          exact ⟨⟨k + 1, by omega, rfl, hs2⟩, by simp [intOf]; omega⟩
    · obtain rfl : k = bs.length := by omega
      have hrr := hno.out fun j h => hs.out j h h
      subst hrr
      clear hlt
      go_wp2_with (refine wpList_store_blkG rfl 51 _ _ rfl w.heap.size rfl 51 (blkC none 0 blk0) (blkC none 0 blk0) hB0.out rfl rfl (by kernel_rfl) rfl ?_; intro w2 hB2 ho2; replace hB2 := Lib.hid hB2; replace ho2 := Lib.hid ho2)
      refine bodyPost_ret (results_blkG2 (p := 4) rfl _ _ w.heap.size 51 _ _ rfl hB2.out hu rfl (by kernel_rfl)) rfl ⟨⟨none, 0, rfl, intsAt_nil _⟩, ?_⟩
      exact ho2.out.below hb0.out hb0.out.size (by rintro i rfl; omega)
end Go.Proofs.YtijkdabmegbcjaaGreatDoor
namespace Go.Proofs.YtijkdabmegbcjaaGreatDoor
open Go.RowKit

theorem run_append_own_blkV {P : Program} (w : World) (base : Nat) (t ty e : TypeId) (i : TypeInfo) (z : Value) (size bytes : Nat) (ht : P.underlying t = some (.slice e)) (hi : P.info? e = some i) (hz : i.zero = some z)
    (hsize : i.size = size) (hby : i.bytes = bytes) (hzs : z.cells.size = size) (hsz : 0 < size) (v : Value) (n : Nat) (xs : List Value) (hown : w.ownsRow base e size v n xs)
    (a : Addr) (m c : Nat) (news : List Value) (hl : news.length = m * size) (hnews : ∀ j u, news[j]? = some u → w.cell? (a.add j) = some u) (h1 : ∀ u ∈ news, u.oneCell' = true)
    (h63 : n + m ≤ maxLen) (hbytes : (n + m) * bytes ≤ 140737488355328) (hbase : base ≤ w.heap.size) :
    ∃ v' w', (Builtin.append_ #[t, t] ty #[v, .slice (some a) m c]).run P w = .ok v' w' ∧ w'.ownsRow base e size v' (n + m) (xs ++ news) ∧ w.grownBy w' v.ownBlock ∧
      (v'.ownBlock = v.ownBlock ∨ ∀ k, v'.ownBlock = some k → w.heap.size ≤ k) := by
  obtain ⟨v', w', hr, ho, hg, -⟩ := run_append_own (P := P) w base t ty e i z size bytes ht hi hz hsize hby hzs hsz v n xs hown a m c news hl hnews h1 h63 hbytes hbase
  refine ⟨v', w', hr, ho, hg, ?_⟩
  rcases hown.2 with ⟨rfl, rfl⟩ | ⟨g, cap, cur, rfl, hbg, hgg, hnc, hcm, hcs, htake⟩
  · obtain ⟨v2, w2, hr2, ho2, -, -⟩ := run_append_own (P := P) w w.heap.size t ty e i z size bytes ht hi hz hsize hby hzs hsz (.slice none 0 0) 0 [] (World.ownsRow_nil _ _ _ _) a m c news hl hnews h1 (by simpa using h63) (by simpa using hbytes) (Nat.le_refl _)
    rw [hr] at hr2
    obtain ⟨rfl, rfl⟩ : v' = v2 ∧ w' = w2 := by injection hr2; exact ⟨by assumption, by assumption⟩
    exact .inr fun k hk => (ho2.lt k hk).1
  · by_cases hroom : n + m ≤ cap
    · have hmul : (n + m) * size ≤ cap * size := Nat.mul_le_mul_right _ hroom
      rw [Nat.add_mul] at hmul
      have hcells : ∀ j, j < cur.size → w.cell? ⟨g, j, none⟩ = cur[j]? := fun j _ => by rw [cell_of_row w g j cur e (0, 0) hgg]
      have hr2 := run_append_room_cells (P := P) w t ty e i ht hi g 0 n cap a m c news (by rw [hsize, hl]) hnews h1 hroom (fun j hj => by
        have hlt : 0 + n * i.size + j < cur.size := by rw [hsize, hcs]; omega
        rw [hcells _ hlt, Array.getElem?_eq_getElem hlt]; rfl) (fun j hj => frozen_of_row w g _ cur e hgg)
      rw [hr] at hr2
      obtain ⟨rfl, rfl⟩ : v' = .slice (some ⟨g, 0, none⟩) (n + m) cap ∧ w' = _ := by injection hr2; exact ⟨by assumption, by assumption⟩
      exact .inl rfl
    · obtain ⟨v2, w2, hr2, ho2, -⟩ := run_append_arg_grows (P := P) w t ty e i z size bytes ht hi hz hsize hby hzs hsz ⟨g, 0, none⟩ n cap xs hown.1 (fun j u hj => hown.cells (g := g) rfl j u hj) a m c news hl hnews (by omega) h63 hbytes
      rw [hr] at hr2
      obtain ⟨rfl, rfl⟩ : v' = v2 ∧ w' = w2 := by injection hr2; exact ⟨by assumption, by assumption⟩
      exact .inr fun k hk => (ho2.lt k hk).1

theorem wpListIn_append_blkV {F : Fence} {N : Nat} {P : Program} (w : World) {ops : Array Oper} {rest : List Oper} {o : Oper} {ac : Act} {Q : Exit → Act → World → Prop} (hgd : o.guard = none) (s x : Operand) (t : TypeId)
    (hop : o.op = .call { callee := .builtin .append, args := #[s, x], argTypes := #[t, t] })
    (base : Nat) (e : TypeId) (i : TypeInfo) (z : Value) (size bytes : Nat) (ht : P.underlying t = some (.slice e)) (hi : P.info? e = some i) (hz : i.zero = some z)
    (hsize : i.size = size) (hby : i.bytes = bytes) (hzs : z.cells.size = size) (hsz : 0 < size) (v : Value) (n : Nat) (xs : List Value) (hs : ac.eval s = v) (hown : w.ownsRow base e size v n xs)
    (a : Addr) (m c : Nat) (news : List Value) (hx : ac.eval x = .slice (some a) m c) (hl : news.length = m * size) (hnews : ∀ j u, news[j]? = some u → w.cell? (a.add j) = some u) (h1 : ∀ u ∈ news, u.oneCell' = true)
    (h63 : n + m ≤ maxLen) (hbytes : (n + m) * bytes ≤ 140737488355328) (hbase : base ≤ w.heap.size)
    (hK : ∀ v' w', w'.ownsRow base e size v' (n + m) (xs ++ news) → w.grownBy w' v.ownBlock → (v'.ownBlock = v.ownBlock ∨ ∀ k, v'.ownBlock = some k → w.heap.size ≤ k) → wpListIn F N P ops Q rest (ac.put o.dst v') w') : wpListIn F N P ops Q (o :: rest) ac w := by
  refine wpListIn_plain hgd fun K hK' => ?_
  obtain ⟨v', w', hrun, r1, r2, r3⟩ := run_append_own_blkV (P := P) w base t o.type e i z size bytes ht hi hz hsize hby hzs hsz v n xs hown a m c news hl hnews h1 h63 hbytes hbase
  unfold Oper.wpIn
  refine ⟨?_, ?_⟩
  · simp [Oper.about, hop, resolve, Target.leads, Sem.run_pure]
  · rw [Oper.semAt_plain F _ _ (by rw [hop]; intro c hc'; cases hc')]
    simp [execOp, hop, resolve, invoke, builtin, hs, hx, hrun, Result.andThen]
    exact hK' _ _ (hK v' w' r1 r2 r3)
/-- The same, in a walk without a fence. -/
theorem wpList_append_blkV {P : Program} (w : World) {ops : Array Oper} {rest : List Oper} {o : Oper} {ac : Act} {Q : Exit → Act → World → Prop} (hgd : o.guard = none) (s x : Operand) (t : TypeId)
    (ho : o.op = .call { callee := .builtin .append, args := #[s, x], argTypes := #[t, t] })
    (base : Nat) (e : TypeId) (i : TypeInfo) (z : Value) (size bytes : Nat) (ht : P.underlying t = some (.slice e)) (hi : P.info? e = some i) (hz : i.zero = some z)
    (hsize : i.size = size) (hby : i.bytes = bytes) (hzs : z.cells.size = size) (hsz : 0 < size) (v : Value) (n : Nat) (xs : List Value) (hs : ac.eval s = v) (hown : w.ownsRow base e size v n xs)
    (a : Addr) (m c : Nat) (news : List Value) (hx : ac.eval x = .slice (some a) m c) (hl : news.length = m * size) (hnews : ∀ j u, news[j]? = some u → w.cell? (a.add j) = some u) (h1 : ∀ u ∈ news, u.oneCell' = true)
    (h63 : n + m ≤ maxLen) (hbytes : (n + m) * bytes ≤ 140737488355328) (hbase : base ≤ w.heap.size)
    (h : ∀ v' w', w'.ownsRow base e size v' (n + m) (xs ++ news) → w.grownBy w' v.ownBlock → (v'.ownBlock = v.ownBlock ∨ ∀ k, v'.ownBlock = some k → w.heap.size ≤ k) → wpList P ops Q rest (ac.put o.dst v') w') : wpList P ops Q (o :: rest) ac w := by
  obtain ⟨v', w', h1, h2, h3, h4⟩ := run_append_own_blkV (P := P) w base t o.type e i z size bytes ht hi hz hsize hby hzs hsz v n xs hown a m c news hl hnews h1 h63 hbytes hbase
  exact Lib.wpList_append_run w hgd s x t t ho _ _ hs hx v' w' h1 (h v' w' h2 h3 h4)

/-! Rows of structs: each element k cells. -/
theorem flat_len {α β : Type} (k : Nat) (g : α → List β) (hg : ∀ x, (g x).length = k) : ∀ l : List α, (l.flatMap g).length = l.length * k
  | [] => by simp
  | x :: l => by rw [List.flatMap_cons, List.length_append, hg, flat_len k g hg l, List.length_cons, Nat.add_mul]; omega
theorem flat_get {α β : Type} (k : Nat) (g : α → List β) (hg : ∀ x, (g x).length = k) : ∀ (l : List α) (i j : Nat) (h : i < l.length), j < k → (l.flatMap g)[i * k + j]? = (g l[i])[j]?
  | x :: l, 0, j, _, hj => by
    rw [List.flatMap_cons, Nat.zero_mul, Nat.zero_add, List.getElem?_append_left (by rw [hg]; exact hj)]; rfl
  | x :: l, i + 1, j, h, hj => by
    rw [List.flatMap_cons, List.getElem?_append_right (by rw [hg, Nat.add_mul]; omega), hg, show (i + 1) * k + j - k = i * k + j by rw [Nat.add_mul]; omega]
    exact flat_get k g hg l i j (by simpa using h) hj
end Go.Proofs.YtijkdabmegbcjaaGreatDoor
