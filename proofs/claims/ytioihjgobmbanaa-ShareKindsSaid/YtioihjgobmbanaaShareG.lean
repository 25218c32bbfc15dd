/- Layer 22: keeping code, ends, beginnings, with the document answers. -/
import Derived.Test.YtioihjgobmbanaaShareF
namespace Go.Proofs.Ytioihjgobmbanaa
open Go.RowKit

/-- May code be kept? -/
def keepOK (zs : List Int) : Bool := decide (zs.length ≤ 24576) && !(zs.head? == some 239)
def keepCost (zs : List Int) : Int := if keepOK zs then 200 * zs.length else 0

theorem idxOf_pos (x : Int) : ∀ (l : List Int) (i : Int), 0 < i → idxOf x l i ≠ 0
  | [], i, h => by simp [idxOf]
  | z :: l, i, h => by
    by_cases e : z = x
    · simp [idxOf, e]; omega
    · simp only [idxOf, e, if_false]; exact idxOf_pos x l (i + 1) (by omega)
theorem idxOf_zero (x : Int) (l : List Int) : (idxOf x l 0 == 0) = (l.head? == some x) := by
  cases l with
  | nil => simp [idxOf]
  | cons z l =>
    by_cases e : z = x
    · simp [idxOf, e]
    · have := idxOf_pos x l 1 (by omega)
      have e' : (z == x) = false := by simpa using e
      simp [idxOf, e, this, e']

theorem keep_any (a : Option Addr) (c : Nat) (zs : List Int) (w : World) (hl : zs.length ≤ 9223372036854775807) (hr : RowAt .u8 w a zs) :
    Calls Try.prog 16 #[.slice a zs.length c] w fun e w' => e = .returned (.tuple #[.int .u64 (keepCost zs), .bool (keepOK zs)]) ∧ w = w' := by
  have H := Lib.hid hr
  clear hr
  by_cases h1 : (zs.length : Int) > 24576
  · have e : keepOK zs = false := by simp [keepOK]; omega
    rw [show keepCost zs = 0 by simp [keepCost, e], e]
    go_enter Try.func16, Try.ntmps16
    go_wp2
    go_ret2
    exact ⟨rfl, rfl⟩
  · have hz := idxOf_zero 239 zs
    cases h2 : zs.head? == some 239
    · have e : keepOK zs = true := by simp [keepOK, h2]; omega
      rw [h2] at hz
      rw [show keepCost zs = 200 * zs.length by simp [keepCost, e], e]
      have hfin := Lib.hid (u64_id (200 * zs.length) (by omega))
      clear h2 e
      go_enter Try.func16, Try.ntmps16
      go_wp2_with (go_at_call 33; refine (index_any a c zs 239 _ hl H.out).mono ?_; rintro e w' ⟨rfl, rfl⟩)
      go_ret2
      exact ⟨by simp, rfl⟩
    · have e : keepOK zs = false := by simp [keepOK, h2]
      rw [h2] at hz
      rw [show keepCost zs = 0 by simp [keepCost, e], e]
      clear h2 e
      go_enter Try.func16, Try.ntmps16
      go_wp2_with (go_at_call 33; refine (index_any a c zs 239 _ hl H.out).mono ?_; rintro e w' ⟨rfl, rfl⟩)
      go_ret2
      exact ⟨rfl, rfl⟩

theorem refKeep_any (a : Option Addr) (c : Nat) (zs : List Int) (w : World) (hl : zs.length ≤ 9223372036854775807) (hr : RowAt .u8 w a zs) :
    Calls Try.prog 17 #[.slice a zs.length c] w fun e w' => e = .returned (.tuple #[.int .u64 (keepCost zs), .bool (keepOK zs)]) ∧ w = w' := by
  by_cases h1 : (zs.length : Int) > 24576
  · have e : keepOK zs = false := by simp [keepOK]; omega
    rw [show keepCost zs = 0 by simp [keepCost, e], e]
    clear hr
    go_enter Try.func17, Try.ntmps17
    go_wp2
    go_ret2
    exact ⟨rfl, rfl⟩
  · cases zs with
    | nil =>
      rw [show keepCost [] = 0 by rfl, show keepOK [] = true by rfl]
      clear hr
      go_enter Try.func17, Try.ntmps17
      go_wp2
      go_ret2
      exact ⟨rfl, rfl⟩
    | cons z l =>
      obtain ⟨b, o, rfl, hc⟩ := hr 0 (by simp)
      simp only [List.getElem_cons_zero, Nat.add_zero] at hc
      clear hr
      have hp : ((z :: l).length : Int) > 0 := by simp
      have e2 : keepOK (z :: l) = !(z == 239) := by simp at h1; simp [keepOK]; intro _; omega
      generalize hz : (z :: l) = zs at *
      clear hz
      cases h2 : (z == 239)
      · rw [h2] at e2
        rw [show keepCost zs = 200 * zs.length by simp [keepCost, e2], e2]
        have hfin := Lib.hid (u64_id (200 * zs.length) (by omega))
        clear e2
        go_enter Try.func17, Try.ntmps17
        go_wp2
        go_ret2
        exact ⟨by simp, rfl⟩
      · rw [h2] at e2
        rw [show keepCost zs = 0 by simp [keepCost, e2], e2]
        clear e2
        go_enter Try.func17, Try.ntmps17
        go_wp2
        go_ret2
        exact ⟨rfl, rfl⟩

def endCost (left dead far : Bool) : Int := (if far then 2600 else 0) + (if left && dead then 25000 else 0)

theorem end_any (l d f : Bool) (w : World) :
    Calls Try.prog 20 #[.bool l, .bool d, .bool f] w fun e w' => e = .returned (.int .u64 (endCost l d f)) ∧ Below w.heap.size w w' := by
  have hfin := Lib.hid (show sumPaid [(2600, f), (25000, l && d)] = endCost l d f by cases l <;> cases d <;> cases f <;> rfl)
  cases l <;> cases d
  · go_enter Try.func20, Try.ntmps20
    go_wp2_with (first
      | (go_at_call 25; refine (when_any _ _ _).mono ?_; rintro e w' ⟨rfl, rfl⟩)
      | (go_at_call 24; with_reducible refine (paid2 _ (2600, f) (25000, false) _ ?_ ?_).mono ?_; rotate_left 2; rintro e w' ⟨rfl, hb⟩))
    · go_ret
      exact ⟨by rw [← hfin.out]; rfl, xtrans (by repeat (first | exact xrefl _ | refine xalloc ?_ _)) hb⟩
    all_goals exact ⟨_, _, by simp [go_sem]; exact ⟨rfl, rfl⟩, by simp [go_sem], by simp [go_sem]⟩
  · go_enter Try.func20, Try.ntmps20
    go_wp2_with (first
      | (go_at_call 25; refine (when_any _ _ _).mono ?_; rintro e w' ⟨rfl, rfl⟩)
      | (go_at_call 24; with_reducible refine (paid2 _ (2600, f) (25000, false) _ ?_ ?_).mono ?_; rotate_left 2; rintro e w' ⟨rfl, hb⟩))
    · go_ret
      exact ⟨by rw [← hfin.out]; rfl, xtrans (by repeat (first | exact xrefl _ | refine xalloc ?_ _)) hb⟩
    all_goals exact ⟨_, _, by simp [go_sem]; exact ⟨rfl, rfl⟩, by simp [go_sem], by simp [go_sem]⟩
  · go_enter Try.func20, Try.ntmps20
    go_wp2_with (first
      | (go_at_call 25; refine (when_any _ _ _).mono ?_; rintro e w' ⟨rfl, rfl⟩)
      | (go_at_call 24; with_reducible refine (paid2 _ (2600, f) (25000, false) _ ?_ ?_).mono ?_; rotate_left 2; rintro e w' ⟨rfl, hb⟩))
    · go_ret
      exact ⟨by rw [← hfin.out]; rfl, xtrans (by repeat (first | exact xrefl _ | refine xalloc ?_ _)) hb⟩
    all_goals exact ⟨_, _, by simp [go_sem]; exact ⟨rfl, rfl⟩, by simp [go_sem], by simp [go_sem]⟩
  · go_enter Try.func20, Try.ntmps20
    go_wp2_with (first
      | (go_at_call 25; refine (when_any _ _ _).mono ?_; rintro e w' ⟨rfl, rfl⟩)
      | (go_at_call 24; with_reducible refine (paid2 _ (2600, f) (25000, true) _ ?_ ?_).mono ?_; rotate_left 2; rintro e w' ⟨rfl, hb⟩))
    · go_ret
      exact ⟨by rw [← hfin.out]; rfl, xtrans (by repeat (first | exact xrefl _ | refine xalloc ?_ _)) hb⟩
    all_goals exact ⟨_, _, by simp [go_sem]; exact ⟨rfl, rfl⟩, by simp [go_sem], by simp [go_sem]⟩

theorem refEnd_any (l d f : Bool) (w : World) :
    Calls Try.prog 21 #[.bool l, .bool d, .bool f] w fun e w' => e = .returned (.int .u64 (endCost l d f)) ∧ w = w' := by
  cases l <;> cases d <;> cases f
  all_goals
    go_enter Try.func21, Try.ntmps21
    go_wp2
    go_ret
    exact ⟨rfl, rfl⟩

/-- What a transaction costs ahead of all. -/
def beginErr (zs : List Int) (m : Bool) : Int := if m && decide (49152 < zs.length) then 3 else 0
def beginCost (zs : List Int) (m : Bool) : Int := if m then u64add (u64add (u64add 21000 (dataCost zs)) 32000) (priceOf 4 zs.length) else u64add 21000 (dataCost zs)
def beginVal (zs : List Int) (m : Bool) : Int := if beginErr zs m = 0 then beginCost zs m else 0

theorem beginSum_1 (d n : Int) : sumPaid [(21000, true), (d, true), (32000, true), (n, true)] = u64add (u64add (u64add 21000 d) 32000) n := by
  simp [sumPaid, payOf, show u64add 0 21000 = 21000 by rfl]
theorem beginSum_0 (d n : Int) : sumPaid [(21000, true), (d, true), (32000, false), (n, false)] = u64add 21000 d := by
  simp [sumPaid, payOf, show u64add 0 21000 = 21000 by rfl]

theorem begin_long (a : Option Addr) (c : Nat) (zs : List Int) (w : World) (h : 49152 < (zs.length : Int)) :
    Calls Try.prog 18 #[.slice a zs.length c, .bool true] w fun e w' => e = .returned (.tuple #[.int .u64 0, .int .i64 3]) ∧ Below w.heap.size w w' := by
  go_enter Try.func18, Try.ntmps18
  go_wp2_with (go_at_call 14; refine (make_long1 _ _ h).mono ?_; rintro e w' ⟨rfl, hb⟩)
  go_ret2
  exact ⟨rfl, hb⟩

theorem begin_0 (a : Option Addr) (c : Nat) (zs : List Int) (w : World) (hs : zs.length ≤ 140737488355328) (hr : RowAt .u8 w a zs) (hn : a = none → c = 0) :
    Calls Try.prog 18 #[.slice a zs.length c, .bool false] w fun e w' => e = .returned (.tuple #[.int .u64 (beginCost zs false), .int .i64 0]) ∧ Below w.heap.size w w' := by
  have H := Lib.hid hr
  have Hn := Lib.hid hn
  clear hr hn
  go_enter Try.func18, Try.ntmps18
  go_wp2_with (first
    | (go_at_call 25; refine (when_any _ _ _).mono ?_; rintro e w' ⟨rfl, rfl⟩)
    | (go_at_call 34; refine (data_any _ a c zs _ hs ?_ (H.out.below ?_) Hn.out).mono ?_; rotate_left 2; rintro e w1 ⟨rfl, hb1⟩)
    | (go_at_call 24; with_reducible refine (paid4 _ (21000, true) (dataCost zs, true) (32000, false) (0, false) _ ?_ ?_ ?_ ?_).mono ?_; rotate_left 4; rintro e w' ⟨rfl, hb⟩))
  · go_ret2
    exact ⟨by rw [beginSum_0]; rfl, xtrans (by repeat (first | exact xtrans (by repeat (first | exact xrefl _ | refine xalloc ?_ _)) hb1 | refine xalloc ?_ _)) hb⟩
  · refine ⟨_, _, by simp [go_sem]; exact ⟨rfl, rfl⟩, ?_, ?_⟩ <;> (repeat refine ca _ ?_) <;> exact cbel hb1 (by simp [go_sem])
  · exact ⟨_, _, by simp [go_sem]; exact ⟨rfl, rfl⟩, by simp [go_sem], by simp [go_sem]⟩
  · exact ⟨_, _, by simp [go_sem]; exact ⟨rfl, rfl⟩, by simp [go_sem], by simp [go_sem]⟩
  · exact ⟨_, _, by simp [go_sem]; exact ⟨rfl, rfl⟩, by simp [go_sem], by simp [go_sem]⟩
  · simp [go_sem]
  · exact xalloc (xalloc (xalloc (xrefl _) _) _) _

theorem begin_1 (a : Option Addr) (c : Nat) (zs : List Int) (w : World) (hs : (zs.length : Int) ≤ 49152) (hr : RowAt .u8 w a zs) (hn : a = none → c = 0) :
    Calls Try.prog 18 #[.slice a zs.length c, .bool true] w fun e w' => e = .returned (.tuple #[.int .u64 (beginCost zs true), .int .i64 0]) ∧ Below w.heap.size w w' := by
  have H := Lib.hid hr
  have Hn := Lib.hid hn
  clear hr hn
  go_enter Try.func18, Try.ntmps18
  go_wp2_with (first
    | (go_at_call 14; refine (make_ok1 zs.length _ ⟨by omega, hs⟩).mono ?_; rintro e w0 ⟨rfl, hb0⟩)
    | (go_at_call 25; refine (when_any _ _ _).mono ?_; rintro e w' ⟨rfl, rfl⟩)
    | (go_at_call 34; refine (data_any _ a c zs _ (by omega) ?_ (H.out.below ?_) Hn.out).mono ?_; rotate_left 2; rintro e w1 ⟨rfl, hb1⟩)
    | (go_at_call 24; with_reducible refine (paid4 _ (21000, true) (dataCost zs, true) (32000, true) (makeCost 1 zs.length, true) _ ?_ ?_ ?_ ?_).mono ?_; rotate_left 4; rintro e w' ⟨rfl, hb⟩))
  · go_ret2
    exact ⟨by rw [beginSum_1]; rfl, xtrans (by repeat (first | exact xtrans (by repeat (first | exact hb0 | refine xalloc ?_ _)) hb1 | refine xalloc ?_ _)) hb⟩
  · refine ⟨_, _, by simp [go_sem]; exact ⟨rfl, rfl⟩, ?_, ?_⟩ <;> (repeat refine ca _ ?_) <;> exact cbel hb1 (by simp [go_sem])
  · exact ⟨_, _, by simp [go_sem]; exact ⟨rfl, rfl⟩, by simp [go_sem], by simp [go_sem]⟩
  · exact ⟨_, _, by simp [go_sem]; exact ⟨rfl, rfl⟩, by simp [go_sem], by simp [go_sem]⟩
  · exact ⟨_, _, by simp [go_sem]; exact ⟨rfl, rfl⟩, by simp [go_sem], by simp [go_sem]⟩
  · simp [go_sem]
  · exact xalloc (xalloc (xalloc hb0 _) _) _

theorem refBegin_0 (a : Option Addr) (c : Nat) (zs : List Int) (w : World) (hs : zs.length ≤ 140737488355328) (hr : RowAt .u8 w a zs) :
    Calls Try.prog 19 #[.slice a zs.length c, .bool false] w fun e w' => e = .returned (.tuple #[.int .u64 (beginCost zs false), .int .i64 0]) ∧ w = w' := by
  have H := Lib.hid hr
  clear hr
  go_enter Try.func19, Try.ntmps19
  go_wp2_with (go_at_call 35; refine (refData_any a c zs _ (by omega) H.out).mono ?_; rintro e w1 ⟨rfl, rfl⟩)
  go_ret2
  exact ⟨rfl, rfl⟩

theorem refBegin_long (a : Option Addr) (c : Nat) (zs : List Int) (w : World) (hs : zs.length ≤ 140737488355328) (h : 49152 < (zs.length : Int)) (hr : RowAt .u8 w a zs) :
    Calls Try.prog 19 #[.slice a zs.length c, .bool true] w fun e w' => e = .returned (.tuple #[.int .u64 0, .int .i64 3]) ∧ w = w' := by
  have H := Lib.hid hr
  clear hr
  go_enter Try.func19, Try.ntmps19
  go_wp2_with (first
    | (go_at_call 35; refine (refData_any a c zs _ (by omega) H.out).mono ?_; rintro e w1 ⟨rfl, rfl⟩)
    | (go_at_call 15; refine (refMake_long1 _ _ h).mono ?_; rintro e w1 ⟨rfl, rfl⟩))
  go_ret2
  exact ⟨rfl, rfl⟩

theorem refBegin_1 (a : Option Addr) (c : Nat) (zs : List Int) (w : World) (hs : (zs.length : Int) ≤ 49152) (hr : RowAt .u8 w a zs) :
    Calls Try.prog 19 #[.slice a zs.length c, .bool true] w fun e w' => e = .returned (.tuple #[.int .u64 (beginCost zs true), .int .i64 0]) ∧ w = w' := by
  have H := Lib.hid hr
  clear hr
  go_enter Try.func19, Try.ntmps19
  go_wp2_with (first
    | (go_at_call 35; refine (refData_any a c zs _ (by omega) H.out).mono ?_; rintro e w1 ⟨rfl, rfl⟩)
    | (go_at_call 15; refine (refMake_ok1 _ _ ⟨by omega, hs⟩).mono ?_; rintro e w1 ⟨rfl, rfl⟩))
  go_ret2
  exact ⟨rfl, rfl⟩

end Go.Proofs.Ytioihjgobmbanaa
