/- The statement ShareHolds: for every input the law returns true, and each argument reads as it did. No condition. -/
import Derived.Test.YtioihjgobmbanaaShareH
import Derived.Test.YtioihjgobmbanaaOpen
namespace Go.Proofs.Ytioihjgobmbanaa.lawShareHolds
open Go.ChangeShapes Go.WideShapes Go.ChangeAt Go.RowKit
open Go.ChangeMaps (open_string shut_string)
set_option linter.unusedVariables false

theorem own : ownKnob Try.prog.godebug = none := by kernel_rfl
theorem laidOut : laidOutB Try.prog = true := by kernel_rfl

theorem arr2 (cs : Array Value) (h : cs.toList.length = 2) : ∃ y0 y1, cs = #[y0, y1] := by
  obtain ⟨l⟩ := cs
  match l, h with
  | [z0, z1], _ => exact ⟨z0, z1, rfl⟩

theorem int_bd {x : Int} (h : (Lit.int .i64 x).wf = true) : -9223372036854775808 ≤ x ∧ x ≤ 9223372036854775807 := by
  simp [Lit.wf, IntKind.min, IntKind.max, IntKind.signed, IntKind.bits] at h
  exact ⟨by omega, by omega⟩

set_option maxRecDepth 100000 in
theorem lifted (os : Os) (started : os.Started) (H : Type) (enc : TypeId × Value → H) :
    ReturnsInHanded {} Try.checked os 6 .any (Rows.shareHoldsSpec.pre6 enc Try.prog Try.f6 Rows.shareHoldsRow.domain false) (Rows.shareHoldsSpec.post enc Try.prog Try.f6 false true false false) := by
  refine returnsInHanded_of_change (C := Try.checked) own started (by kernel_rfl) Try.func6
    (ChangeSpec.witness6 (enc := enc) (C := Try.checked) false ⟨#[], #[.int .i64 0, .bool false, .agg #[.slice none 0 0, .slice none 0 0]], []⟩ 8 (by kernel_rfl) (by kernel_rfl) (by kernel_rfl) (by kernel_rfl)) ?_
  intro W base args ds gs before hval0 hW hcnd _
  have hval : ∀ (j : Nat) t v, Try.f6.params[j]? = some t → args[j]? = some v → Value.okWide Try.prog W .any base t v := hval0
  have hW' := hW
  obtain ⟨p, q, hA0, hV, rfl, hfz, hnd⟩ := hW
  have hA : DataW.TrodAll enc Try.prog W 0 (fun _ => true) true Try.f6.params.toList args.toList ds p := hA0
  rw [Try.params6] at hA hval
  obtain ⟨v0, vs0, d0, ds0, p0, q0, hargs, rfl, rfl, h0, r0⟩ := trodAll_cons hA
  obtain ⟨v1, vs1, d1, ds1, p1, q1, rfl, rfl, rfl, h1, r1⟩ := trodAll_cons r0
  obtain ⟨v2, vs2, d2, ds2, p2, q2, rfl, rfl, rfl, h2, r2⟩ := trodAll_cons r1
  obtain ⟨rfl, rfl, rfl⟩ := trodAll_nil r2
  obtain rfl : args = #[v0, v1, v2] := by cases args; simp_all
  obtain ⟨rfl, rfl⟩ := trodVars_none hV
  have k0 := h0
  have lt0 : ∀ x ∈ p0, x.block < W.heap.size := by obtain ⟨m, hm⟩ := k0; exact DataW.trod_lt m _ _ _ hm
  have k1 := h1
  have lt1 : ∀ x ∈ p1, x.block < W.heap.size := by obtain ⟨m, hm⟩ := k1; exact DataW.trod_lt m _ _ _ hm
  have k2 := h2
  have lt2 : ∀ x ∈ p2, x.block < W.heap.size := by obtain ⟨m, hm⟩ := k2; exact DataW.trod_lt m _ _ _ hm
  obtain ⟨x0, rfl, rfl, rfl, w0⟩ := open_int Try.underlying3 (hval 0 3 v0 rfl rfl) h0
  obtain ⟨x1, rfl, rfl, rfl⟩ := open_bool Try.underlying4 (hval 1 4 v1 rfl rfl) h1
  obtain ⟨cs2, rfl, fu2, xx2, hf2⟩ := agg_of_trod h2 Try.underlying46 (by kernel_rfl : Try.prog.cellsOf 35 = 1) (by kernel_rfl) (by decide)
  obtain ⟨hl2, he2⟩ := trod_arr1 Try.underlying46 (by kernel_rfl : Try.prog.cellsOf 35 = 1) (by kernel_rfl) hf2
  obtain ⟨y2_0, y2_1, rfl⟩ := arr2 cs2 hl2
  obtain ⟨fz2_0, xz2_0, hz2_0⟩ := he2 0 (by simp)
  simp only [List.getElem_cons_zero, List.getElem_cons_succ] at hz2_0
  obtain ⟨b2_0, c2_0, z2_0, rfl, r2_0, n2_0, m2_0, w2_0⟩ := trod_row Try.underlying35 Try.underlying5 (by kernel_rfl) hz2_0
  obtain ⟨fz2_1, xz2_1, hz2_1⟩ := he2 1 (by simp)
  simp only [List.getElem_cons_zero, List.getElem_cons_succ] at hz2_1
  obtain ⟨b2_1, c2_1, z2_1, rfl, r2_1, n2_1, m2_1, w2_1⟩ := trod_row Try.underlying35 Try.underlying5 (by kernel_rfl) hz2_1
  clear hA0 hval0
  refine (shareHolds_walk x0 x1 b2_0 c2_0 z2_0 b2_1 c2_1 z2_1 W (int_bd w0) m2_0 r2_0 n2_0 w2_0 m2_1 r2_1 n2_1 w2_1).mono fun e W' ⟨he, bel⟩ => ?_
  subst he
  exact ⟨_, rfl, _, _, _, [], _, [], hW', trodAll_mk1 (shut_bool Try.underlying4 _), (trodAll_cons_mk (Below.trod laidOut (by kernel_rfl) (of_decide_eq_true (by kernel_rfl)) k0 bel lt0) (trodAll_cons_mk (Below.trod laidOut (by kernel_rfl) (of_decide_eq_true (by kernel_rfl)) k1 bel lt1) (trodAll_cons_mk (Below.trod laidOut (by kernel_rfl) (of_decide_eq_true (by kernel_rfl)) k2 bel lt2) trodAll_mk0))), rfl, bel.frame _, fun h => by cases h⟩

theorem over : Rows.shareHoldsRow.holds Try.pinned (OpenSpec.ofChange Rows.shareHoldsSpec) :=
  OpenClaim.holds_of_wide 6 Try.f6 rfl rfl rfl rfl rfl rfl rfl ⟨rfl, rfl, rfl, rfl, rfl⟩ rfl rfl rfl rfl rfl (by kernel_rfl) Try.func6 (by kernel_rfl)
    (of_decide_eq_true (by kernel_rfl)) (by unfold Func.isWrapper; first | (rw [if_pos (by decide +kernel)]; kernel_rfl) | (rw [if_neg (by decide +kernel)]; exact ⟨rfl, rfl⟩))
    (fun os started H enc _ => lifted os started H enc)

/-- The statement. -/
theorem proved : Rows.ShareHoldsSaid := over
#print axioms proved
end Go.Proofs.Ytioihjgobmbanaa.lawShareHolds
