/- Texts of this claim, merged; no condition. -/
import Derived.Test.YthpallkphamobaaGreatDoorF02
import Derived.Test.YthpallkphamobaaGreatDoorF05
import Derived.Deep.MidRow
import Derived.Test.YthpallkphamobaaGreatDoorF03
set_option linter.all false
namespace Go.Proofs.YthpallkphamobaaGreatDoor
open Go.RowKit Go.Shelf

/-- An address. -/
structure Adr (a : List Nat) : Prop where
  len : a.length = 20
  ok : ∀ b ∈ a, b < 256
theorem Adr.get {a : List Nat} (h : Adr a) {i : Nat} (hi : i < 20) : ∃ x : Nat, a[i]? = some x ∧ x < 256 ∧ (adrC a)[i]? = some (.int .u8 (x : Int)) := by
  have hi2 : i < a.length := by rw [h.len]; exact hi
  exact ⟨a[i], List.getElem?_eq_getElem hi2, h.ok _ (List.getElem_mem hi2), by simp [adrC, natI, hi2]⟩
theorem blk_cell {W : World} {b : Nat} {T : TypeId} {vs : List Value} (h : BlkG W b T vs) {i : Nat} {v : Value} (hv : vs[i]? = some v) : W.cell? ⟨b, i, none⟩ = some v := by
  obtain ⟨hl, rfl⟩ := List.getElem?_eq_some_iff.1 hv
  exact h.cell i hl
theorem ordA_drop {a b : List Nat} {i x y : Nat} (hx : a[i]? = some x) (hy : b[i]? = some y) : ordA (a.drop i) (b.drop i) = if x < y then -1 else if y < x then 1 else ordA (a.drop (i + 1)) (b.drop (i + 1)) := by
  obtain ⟨h1, rfl⟩ := List.getElem?_eq_some_iff.1 hx
  obtain ⟨h2, rfl⟩ := List.getElem?_eq_some_iff.1 hy
  rw [List.drop_eq_getElem_cons h1, List.drop_eq_getElem_cons h2, ordA]
theorem below_drewN {w : World} (k : Nat) : Below w.heap.size w (w.drewN k) := xdrewN (xrefl w) k
set_option maxRecDepth 100000 in
set_option maxHeartbeats 4000000 in
theorem refOrder_any (a b : List Nat) (w : World) (ha : Adr a) (hb : Adr b) :
    Calls Tryz.prog 22 #[adrV a, adrV b] w fun e w' => e = .returned (.int .i64 (ordA a b)) ∧ Below w.heap.size w w' := by
  have hbe : Below w.heap.size w ((w.alloc (.cells (adrC a).toArray 29)).alloc (.cells (adrC b).toArray 29)) := xalloc (xalloc (xrefl w) _) _
  have hA : BlkG ((w.alloc (.cells (adrC a).toArray 29)).alloc (.cells (adrC b).toArray 29)) w.heap.size 29 (adrC a) := (BlkG.new w _ _).below (xalloc (xrefl _) _)
  have hB : BlkG ((w.alloc (.cells (adrC a).toArray 29)).alloc (.cells (adrC b).toArray 29)) (w.heap.size + 1) 29 (adrC b) := by
    have := BlkG.new (w.alloc (.cells (adrC a).toArray 29)) 29 (adrC b)
    rwa [World.size_alloc] at this
  have hg := Lib.hid fun i (hi : i < 20) => ha.get hi
  have hg2 := Lib.hid fun i (hi : i < 20) => hb.get hi
  replace hbe := Lib.hid hbe
  have hst : Hid (ordA a b = ordA (a.drop 0) (b.drop 0)) := Lib.hid rfl
  have hend : Hid (ordA (a.drop 20) (b.drop 20) = 0) := Lib.hid (by rw [List.drop_eq_nil_of_le (by rw [ha.len]; exact Nat.le_refl _)]; rfl)
  have hstep := Lib.hid fun i x y (h1 : a[i]? = some x) (h2 : b[i]? = some y) => ordA_drop h1 h2
  unfold adrV
  generalize adrC a = A at *
  generalize adrC b = B at *
  clear ha hb
  go_enter Tryz.func22, Tryz.ntmps22
  go_wp2
  generalize (w.alloc (.cells A.toArray 29)).alloc (.cells B.toArray 29) = w2 at *
  replace hA := Lib.hid hA
  replace hB := Lib.hid hB
  go_loopw [5] (fun iv wr => ∃ i m : Nat, iv = .int .i64 i ∧ i ≤ 20 ∧ Hid (wr = w2.drewN m) ∧ Hid (ordA a b = ordA (a.drop i) (b.drop i))) (fun iv _ => 20 - (intOf iv).toNat)
  case atStart => exact ⟨0, 0, rfl, by omega, Lib.hid rfl, hst⟩
  case round =>
    clear hst
    obtain ⟨i, m, rfl, hi, hw, hs⟩ := hrel
    by_cases hlt : i < 20
    · have hltI : (i : Int) < 20 := by omega
      obtain ⟨x, hx, hx2, hxc⟩ := hg.out i hlt
      obtain ⟨y, hy, hy2, hyc⟩ := hg2.out i hlt
      have hq := hstep.out i x y hx hy
      have c1 := cbel (below_drewN m) (blk_cell hA.out hxc)
      have c2 := cbel (below_drewN m) (blk_cell hB.out hyc)
      rw [← hw.out] at c1 c2
      have hwi : IntKind.i64.wrap ((i : Int) + 1) = (i : Int) + 1 := by simp [IntKind.wrap, IntKind.bits, IntKind.signed]; omega
      clear hx hy hxc hyc
      by_cases h1 : x < y
      · have h1I : (x : Int) < y := by omega
        rw [if_pos h1] at hq
        replace hs := Lib.hid (hs.out.trans hq)
        clear hq
        go_wp2
        go_region
        go_wp2
        go_ret
        exact ⟨by rw [hs.out]; rfl, by rw [hw.out]; exact xtrans hbe.out (xdrew (below_drewN m))⟩
      · have h1I : ¬ (x : Int) < y := by omega
        rw [if_neg h1] at hq
        have c3 := cbel (below_drewN 1) c1
        have c4 := cbel (below_drewN 1) c2
        by_cases h2 : y < x
        · have h2I : (y : Int) < x := by omega
          rw [if_pos h2] at hq
          replace hs := Lib.hid (hs.out.trans hq)
          clear hq h1 h2
          go_wp2
          go_region
          go_wp2
          go_region
          go_wp2
          go_ret
          exact ⟨by rw [hs.out]; rfl, by rw [hw.out]; exact xtrans hbe.out (xdrew (xdrew (below_drewN m)))⟩
        · have h2I : ¬ (y : Int) < x := by omega
          rw [if_neg h2] at hq
          replace hs := Lib.hid (hs.out.trans hq)
          clear hq h1 h2
          go_wp2
          go_region
          go_wp2
          go_region
          go_wp2
          go_roundw
          case rel => exact ⟨i + 1, m + 2, by first | rfl | simp, by omega, Lib.hid (by rw [hw.out]; rfl), hs⟩
          case measure => simp [intOf]; omega
    · obtain rfl : i = 20 := by omega
      replace hs := Lib.hid (hs.out.trans hend.out)
      clear hlt
      go_wp2
      go_ret
      exact ⟨by rw [hs.out]; rfl, by rw [hw.out]; exact xtrans hbe.out (below_drewN m)⟩
end Go.Proofs.YthpallkphamobaaGreatDoor
namespace Go.Proofs.YthpallkphamobaaGreatDoor
open Go.RowKit

theorem run_load_midV {P : Program} {o : Oper} {ac : Act} {w : World} (ty : TypeId) (x : Operand) (ho : o.op = .load ty x) (b f : Nat) (hx : ac.eval x = .pointer (some ⟨b, f, none⟩)) (vs : List Value) (d : TypeDesc)
    (hr : w.rangeAt b f vs) (hu : P.underlying ty = some d) (hd : (match d with | .struct _ | .array _ _ => true | _ => false) = true) (hi : (P.info? ty).map (·.size) = some vs.length) : (execOp ac.eval o).run P w = .ok (.value (.agg vs.toArray)) w := by
  have e : (loadVar ty ⟨b, f, none⟩).run P w = .ok (.agg vs.toArray) w := by
    cases d <;> first | (simp at hd; done) | exact run_loadVar_mid w b f ty _ _ hr hu rfl (by simpa using hi)
  unfold execOp
  simp only [ho, hx, Instr.loadAt, Instr.sureAddr, Sem.run_bind, Sem.run_pure, Result.andThen_ok, e]
end Go.Proofs.YthpallkphamobaaGreatDoor
