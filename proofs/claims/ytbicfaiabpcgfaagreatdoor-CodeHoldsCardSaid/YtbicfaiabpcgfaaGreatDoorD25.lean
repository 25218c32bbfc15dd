/- Texts of this claim, merged; no condition. -/
import Derived.Deep.MidRow
import Derived.Test.YtbicfaiabpcgfaaGreatDoorD02
import Derived.Test.YtbicfaiabpcgfaaGreatDoorD22
import Derived.Test.YtbicfaiabpcgfaaGreatDoorD24
import Derived.Test.YtbicfaiabpcgfaaGreatDoorD20
import Derived.Test.YtbicfaiabpcgfaaGreatDoorD09
import Derived.Test.YtbicfaiabpcgfaaGreatDoorD08
import Derived.Test.YtbicfaiabpcgfaaGreatDoorD13
import Derived.Test.YtbicfaiabpcgfaaGreatDoorD07
import Derived.Test.YtbicfaiabpcgfaaGreatDoorD03
set_option linter.all false
namespace Go.Proofs.YtbicfaiabpcgfaaGreatDoor
open Go.RowKit

theorem run_load_midV {P : Program} {o : Oper} {ac : Act} {w : World} (ty : TypeId) (x : Operand) (ho : o.op = .load ty x) (b f : Nat) (hx : ac.eval x = .pointer (some ⟨b, f, none⟩)) (vs : List Value) (d : TypeDesc)
    (hr : w.rangeAt b f vs) (hu : P.underlying ty = some d) (hd : (match d with | .struct _ | .array _ _ => true | _ => false) = true) (hi : (P.info? ty).map (·.size) = some vs.length) : (execOp ac.eval o).run P w = .ok (.value (.agg vs.toArray)) w := by
  have e : (loadVar ty ⟨b, f, none⟩).run P w = .ok (.agg vs.toArray) w := by
    cases d <;> first | (simp at hd; done) | exact run_loadVar_mid w b f ty _ _ hr hu rfl (by simpa using hi)
  unfold execOp
  simp only [ho, hx, Instr.loadAt, Instr.sureAddr, Sem.run_bind, Sem.run_pure, Result.andThen_ok, e]
end Go.Proofs.YtbicfaiabpcgfaaGreatDoor
namespace Go.Proofs.YtbicfaiabpcgfaaGreatDoor
open Go.RowKit Go.Shelf

theorem parse_any (s : List UInt8) (m0 : Int) (w : World) (hsl : s.length ≤ 4194304) (hm0 : w.cell? ⟨0, 0, none⟩ = some (.int .i64 m0)) :
    Calls Tryz.prog 16 #[.string ⟨s.toArray⟩] w fun e w' => (∃ v, e = .returned (.tuple #[v, .int .i64 (parseNo s : Nat)]) ∧ OwnU w w' v (parseL s)) ∧ Below w.heap.size w w' := by
  by_cases hl : s.length ≤ 65536
  · by_cases hs : s = []
    · subst hs; exact parse_nil w
    · exact parse_some s m0 w hs hl hm0
  · exact parse_long s w (by omega) hsl
theorem grows_ok {P : Program} {W W' : World} {v : Value} {r : Result Next} (h : r = .ok (.value v) W') (hb : Below W.heap.size W W') : growsUpon P W v r := by
  subst h; exact ⟨rfl, hb⟩
def codeW : List Nat := [96, 5, 91, 97, 91]
theorem codeW_info1 : infoN 1 = ⟨[65, 68, 68], 2, 1, 3, true, 0⟩ := by kernel_rfl
theorem codeW_info12 : infoN 12 = ⟨[], 0, 0, 0, false, 0⟩ := by kernel_rfl
theorem codeW_info145 : infoN 145 = ⟨[83, 87, 65, 80, 50], 3, 3, 3, true, 0⟩ := by kernel_rfl
theorem codeW_named : namedO [80, 85, 83, 72, 50] = some 97 := by kernel_rfl
theorem codeW_marks : marksL codeW = [2] := by kernel_rfl
theorem codeW_push : pushZ codeW 3 = some 23296 := by kernel_rfl
theorem codeW_text : textC codeW = [80, 85, 83, 72, 49, 32, 48, 120, 48, 53, 32, 74, 85, 77, 80, 68, 69, 83, 84, 32, 80, 85, 83, 72, 50, 32, 48, 120, 53, 98, 48, 48] := by kernel_rfl
theorem codeW_no : parseNo [80, 85, 83, 72, 49, 32, 48, 120, 48, 53, 32, 74, 85, 77, 80, 68, 69, 83, 84] = 0 := by kernel_rfl
theorem codeW_l : parseL [80, 85, 83, 72, 49, 32, 48, 120, 48, 53, 32, 74, 85, 77, 80, 68, 69, 83, 84] = [96, 5, 91] := by kernel_rfl
theorem codeW_no2 : parseNo [80, 85, 83, 72, 49, 32, 48, 53] = 200 := by kernel_rfl
theorem num_any (n : Nat) (w : World) : Calls Tryz.prog 19 #[.int .i64 n] w fun e w' => e = .returned (.int .i64 n) ∧ Below w.heap.size w w' := by
  go_enter Tryz.func19, Tryz.ntmps19
  go_wp2
  go_ret
  exact ⟨rfl, xrefl _⟩
theorem conv_zero (W : World) (p : Option Addr) (c : Nat) : (convert 32 9 (.slice p 0 c)).run Tryz.prog W = .ok (.string ⟨#[]⟩) W := by
  rw [run_convert_bytes_string W 32 9 5 _ 0 c Tryz.underlying32 Tryz.underlying5 Tryz.underlying9]
  cases p <;> simp [Conv.bytesToString, loadCells]
  all_goals rfl
theorem BlkG.range {w : World} {b : Nat} {T : TypeId} {vs : List Value} (h : BlkG w b T vs) : w.rangeAt b 0 vs := fun j v hj => by
  obtain ⟨hl, e⟩ := List.getElem?_eq_some_iff.1 hj
  rw [Nat.zero_add, h.cell j hl, e]
/-- A slice of bytes as a text. -/
theorem conv_row (W : World) (a : Option Addr) (c : Nat) (bs : List Nat) (h : RowAt .u8 W a (natI bs)) (hb : ∀ x ∈ bs, x < 256 := by decide) : (convert 32 9 (.slice a bs.length c)).run Tryz.prog W = .ok (.string ⟨(bs.map UInt8.ofNat).toArray⟩) W := by
  cases bs with
  | nil =>
    cases a with
    | none => exact conv_zero W _ _
    | some a => exact conv_zero W _ _
  | cons x r =>
    obtain ⟨b, o, rfl, -⟩ := id h 0 (by simp [natI])
    have hr := run_convert_bytes_back (P := Tryz.prog) W 32 9 5 ⟨b, o, none⟩ c ((x :: r).map UInt8.ofNat) Tryz.underlying32 Tryz.underlying5 Tryz.underlying9 (fun j hj => by
      have hj2 : j < (x :: r).length := by simpa using hj
      obtain ⟨b2, o2, e, hc⟩ := id h j (by simpa [natI] using hj2)
      cases e
      rw [Addr.add_lit]
      refine hc.trans ?_
      have := hb _ (List.getElem_mem hj2)
      simp only [List.getElem_map, natI]
      congr 2
      simp
      omega)
    rw [List.length_map] at hr
    exact hr
set_option maxRecDepth 100000 in
set_option maxHeartbeats 8000000 in
theorem works10_any (m0 : Int) (w : World) (hm0 : w.cell? ⟨0, 0, none⟩ = some (.int .i64 m0)) : Calls Tryz.prog 8 #[] w fun e w' => e = .returned (.bool true) ∧ Below w.heap.size w w' := by
  have hi1 : Hid (∀ W, Calls Tryz.prog 9 #[.int .u8 1] W fun e w' => e = .returned (.tuple #[.agg #[.string ⟨#[65, 68, 68]⟩, .int .i64 2, .int .i64 1, .int .u64 3, .bool true, .int .i64 0], .bool true]) ∧ Below W.heap.size W w') := Lib.hid fun W => by
    have h := info_any 1 W (by decide)
    rw [codeW_info1] at h
    exact h
  have hi12 : Hid (∀ W, Calls Tryz.prog 9 #[.int .u8 12] W fun e w' => e = .returned (.tuple #[.agg #[.string ⟨#[]⟩, .int .i64 0, .int .i64 0, .int .u64 0, .bool false, .int .i64 0], .bool false]) ∧ Below W.heap.size W w') := Lib.hid fun W => by
    have h := info_any 12 W (by decide)
    rw [codeW_info12] at h
    exact h
  have hi145 : Hid (∀ W, Calls Tryz.prog 9 #[.int .u8 145] W fun e w' => e = .returned (.tuple #[.agg #[.string ⟨#[83, 87, 65, 80, 50]⟩, .int .i64 3, .int .i64 3, .int .u64 3, .bool true, .int .i64 0], .bool true]) ∧ Below W.heap.size W w') := Lib.hid fun W => by
    have h := info_any 145 W (by decide)
    rw [codeW_info145] at h
    exact h
  have hnm : Hid (∀ W, Calls Tryz.prog 11 #[.string ⟨#[80, 85, 83, 72, 50]⟩] W fun e w' => e = .returned (.tuple #[.int .u8 97, .bool true]) ∧ Below W.heap.size W w') := Lib.hid fun W => by
    have h := named_any [80, 85, 83, 72, 50] W
    rw [codeW_named] at h
    exact h
  have hof : Hid (∀ W, Calls Tryz.prog 22 #[.int .u64 23296] W fun e w' => e = .returned (.agg #[.int .u64 23296, .int .u64 0, .int .u64 0, .int .u64 0]) ∧ Below W.heap.size W w') := Lib.hid fun W => by
    refine (refOf_any 23296 W (by decide)).mono ?_
    rintro e w' ⟨rfl, h⟩
    first | exact ⟨rfl, h⟩ | (subst h; exact ⟨rfl, xrefl _⟩)
  have hp1 : Hid (∀ W, Below w.heap.size w W → Calls Tryz.prog 16 #[.string ⟨#[80, 85, 83, 72, 49, 32, 48, 120, 48, 53, 32, 74, 85, 77, 80, 68, 69, 83, 84]⟩] W fun e w' => (∃ a c, e = .returned (.tuple #[.slice a 3 c, .int .i64 0]) ∧ RowAt .u8 w' a (natI [96, 5, 91])) ∧ Below W.heap.size W w') := Lib.hid fun W hb => by
    refine (parse_any [80, 85, 83, 72, 49, 32, 48, 120, 48, 53, 32, 74, 85, 77, 80, 68, 69, 83, 84] m0 W (by decide) (cbel hb hm0)).mono ?_
    rintro e w' ⟨⟨v, rfl, ho⟩, h⟩
    rw [codeW_l] at ho
    rw [codeW_no]
    obtain ⟨a, c, rfl, hr, -⟩ := ho.at
    exact ⟨⟨a, c, rfl, hr⟩, h⟩
  have hp2 : Hid (∀ W, Below w.heap.size w W → Calls Tryz.prog 16 #[.string ⟨#[80, 85, 83, 72, 49, 32, 48, 53]⟩] W fun e w' => (∃ v, e = .returned (.tuple #[v, .int .i64 200])) ∧ Below W.heap.size W w') := Lib.hid fun W hb => by
    refine (parse_any [80, 85, 83, 72, 49, 32, 48, 53] m0 W (by decide) (cbel hb hm0)).mono ?_
    rintro e w' ⟨⟨v, rfl, ho⟩, h⟩
    rw [codeW_no2]
    exact ⟨⟨v, rfl⟩, h⟩
  have hpu : Hid (∀ b W, CodeAt W (some ⟨b, 0, none⟩) 5 codeW → Calls Tryz.prog 21 #[.slice (some ⟨b, 0, none⟩) 5 5, .int .i64 3] W fun e w' => e = .returned (.tuple #[.agg #[.int .u64 23296, .int .u64 0, .int .u64 0, .int .u64 0], .bool true]) ∧ Below W.heap.size W w') := Lib.hid fun b W h => by
    have := push_any codeW 3 _ _ W h
    rw [codeW_push] at this
    exact this
  have hmk : Hid (∀ b W, CodeAt W (some ⟨b, 0, none⟩) 5 codeW → Calls Tryz.prog 20 #[.slice (some ⟨b, 0, none⟩) 5 5] W fun e w' => (∃ b o c, e = .returned (.slice (some ⟨b, o, none⟩) 1 c) ∧ w'.cell? ⟨b, o, none⟩ = some (.int .i64 2)) ∧ Below W.heap.size W w') := Lib.hid fun b W h => by
    refine (marks_any codeW _ _ W h).mono ?_
    rintro e w' ⟨⟨v, rfl, hM⟩, hb⟩
    rw [codeW_marks] at hM
    obtain ⟨aM, cM, rfl, hMr, -⟩ := hM.at
    obtain ⟨g, o, rfl, hc⟩ := id hMr.row 0 (by decide)
    exact ⟨⟨g, o, cM, rfl, hc⟩, hb⟩
  go_enter Tryz.func8, Tryz.ntmps8
  go_wp2_with (first
    | (go_at_call 9; (with_reducible refine (hi1.out _).mono ?_); rintro e w1 ⟨rfl, hb1⟩; have hA := BlkG.new w1 25 [.string ⟨#[65, 68, 68]⟩, .int .i64 2, .int .i64 1, .int .u64 3, .bool true, .int .i64 0]; have bA := hA.lt; replace hA := Lib.hid hA; replace hb1 := Lib.hid (xalloc hb1 (.cells #[.string ⟨#[65, 68, 68]⟩, .int .i64 2, .int .i64 1, .int .u64 3, .bool true, .int .i64 0] 25)))
    | (go_at_call 9; (with_reducible refine (hi12.out _).mono ?_); rintro e w2 ⟨rfl, hb2⟩; replace hA := Lib.hid ((hA.out.below hb2).below (xalloc (xrefl w2) (.cells #[.string ⟨#[]⟩, .int .i64 0, .int .i64 0, .int .u64 0, .bool false, .int .i64 0] 25))); replace hb1 := Lib.hid (xtrans hb1.out (xalloc hb2 (.cells #[.string ⟨#[]⟩, .int .i64 0, .int .i64 0, .int .u64 0, .bool false, .int .i64 0] 25))))
    | (go_at_call 11; refine (hnm.out _).mono ?_; rintro e w3 ⟨rfl, hb3⟩; replace hA := Lib.hid (hA.out.below hb3); replace hb1 := Lib.hid (xtrans hb1.out hb3))
    | (go_at_call 9; (with_reducible refine (hi145.out _).mono ?_); rintro e w4 ⟨rfl, hb4⟩; have hC := Lib.hid (BlkG.new w4 25 [.string ⟨#[83, 87, 65, 80, 50]⟩, .int .i64 3, .int .i64 3, .int .u64 3, .bool true, .int .i64 0]); replace hA := Lib.hid ((hA.out.below hb4).below (xalloc (xrefl w4) (.cells #[.string ⟨#[83, 87, 65, 80, 50]⟩, .int .i64 3, .int .i64 3, .int .u64 3, .bool true, .int .i64 0] 25))); replace hb1 := Lib.hid (xtrans hb1.out (xalloc hb4 (.cells #[.string ⟨#[83, 87, 65, 80, 50]⟩, .int .i64 3, .int .i64 3, .int .u64 3, .bool true, .int .i64 0] 25))))
    | (go_at_call 20; have hK := CodeAt.mk (rowAt_new (w4.alloc (.cells #[.string ⟨#[83, 87, 65, 80, 50]⟩, .int .i64 3, .int .i64 3, .int .u64 3, .bool true, .int .i64 0] 25)) 5 (natI codeW) (q := .u8)) (fun e => (by cases e)) (by decide) (by decide) (by decide : codeW.length ≤ 5 ∧ 5 ≤ 9223372036854775807); rw [World.size_alloc] at hK; have hx4 := xalloc (xrefl (w4.alloc (.cells #[.string ⟨#[83, 87, 65, 80, 50]⟩, .int .i64 3, .int .i64 3, .int .u64 3, .bool true, .int .i64 0] 25))) (.cells ((natI codeW).map (Value.int .u8)).toArray 5); refine (hmk.out _ _ hK).mono ?_; rintro e w5 ⟨⟨gM, oM, qM, rfl, cM⟩, hb5⟩; replace hA := Lib.hid ((hA.out.below hx4).below hb5); replace hC := Lib.hid ((hC.out.below hx4).below hb5); replace hK := Lib.hid (hK.below hb5); replace hb1 := Lib.hid (xtrans (xtrans hb1.out hx4) hb5); clear hx4; replace cM := Lib.hid cM)
    | (go_at_call 21; refine (hpu.out _ _ hK.out).mono ?_; rintro e w6 ⟨rfl, hb6⟩; have hx6 := xalloc (xrefl w6) (.cells #[.int .u64 23296, .int .u64 0, .int .u64 0, .int .u64 0] 50); have hW := Lib.hid (BlkG.new w6 50 [.int .u64 23296, .int .u64 0, .int .u64 0, .int .u64 0]); replace hA := Lib.hid ((hA.out.below hb6).below hx6); replace hC := Lib.hid ((hC.out.below hb6).below hx6); replace hK := Lib.hid ((hK.out.below hb6).below hx6); replace cM := Lib.hid (cbel hx6 (cbel hb6 cM.out)); replace hb1 := Lib.hid (xtrans (xtrans hb1.out hb6) hx6); clear hx6)
    | (go_at_call 16; (with_reducible refine (hp1.out _ hb1.out).mono ?_); rintro e w7 ⟨⟨aD, qD, rfl, hD⟩, hb7⟩; replace hA := Lib.hid (hA.out.below hb7); replace hC := Lib.hid (hC.out.below hb7); replace hK := Lib.hid (hK.out.below hb7); replace hW := Lib.hid (hW.out.below hb7); replace cM := Lib.hid (cbel hb7 cM.out); replace hb1 := Lib.hid (xtrans hb1.out hb7); replace hD := Lib.hid hD)
    | (go_at_call 16; (with_reducible refine (hp2.out _ hb1.out).mono ?_); rintro e w8 ⟨⟨vE, rfl⟩, hb8⟩; replace hA := Lib.hid (hA.out.below hb8); replace hC := Lib.hid (hC.out.below hb8); replace hK := Lib.hid (hK.out.below hb8); replace hW := Lib.hid (hW.out.below hb8); replace cM := Lib.hid (cbel hb8 cM.out); replace hb1 := Lib.hid (xtrans hb1.out hb8); replace hD := Lib.hid (hD.out.below hb8))
    | fail)
  have rA := hA.out.range
  have rC := hC.out.range
  have rW := hW.out.range
  have htx : Hid (∀ W, Below w8.heap.size w8 W → Calls Tryz.prog 15 #[.slice (some ⟨w4.heap.size + 1, 0, none⟩) 5 5] W fun e w' => e = .returned (.string ⟨#[80, 85, 83, 72, 49, 32, 48, 120, 48, 53, 32, 74, 85, 77, 80, 68, 69, 83, 84, 32, 80, 85, 83, 72, 50, 32, 48, 120, 53, 98, 48, 48]⟩) ∧ Below W.heap.size W w') := Lib.hid fun W hb => by
    have h := text_any codeW _ _ W (hK.out.below hb)
    rw [codeW_text] at h
    exact h
  have cM' := cM.out
  clear hA hC hW hK cM hp1 hp2 hpu hmk hi1 hi12 hi145 hnm
  replace rA := Lib.hid rA
  replace rC := Lib.hid rC
  replace rW := Lib.hid rW
  replace cM' := Lib.hid cM'
  refine' wp_region_growL 64 [fixd (.agg #[.string ⟨#[65, 68, 68]⟩, .int .i64 2, .int .i64 1, .int .u64 3, .bool true, .int .i64 0]), fixd (.agg #[.string ⟨#[65, 68, 68]⟩, .int .i64 2, .int .i64 1, .int .u64 3, .bool true, .int .i64 0]), fixd (.bool true), fixd (.bool true), fixd (.bool true), fixd (.bool true), fixd (.bool true), fixd (.bool false), fixd (.bool true), fixd (.bool true), fixd (.bool true), fixd (.int .u8 97), fixd (.bool true), fixd (.bool true), fixd (.bool true), fixd (.bool true), fixd (.bool true), fixd (.bool true), fixd (.agg #[.string ⟨#[83, 87, 65, 80, 50]⟩, .int .i64 3, .int .i64 3, .int .u64 3, .bool true, .int .i64 0]), fixd (.agg #[.string ⟨#[83, 87, 65, 80, 50]⟩, .int .i64 3, .int .i64 3, .int .u64 3, .bool true, .int .i64 0]), fixd (.bool true), fixd (.bool true), fixd (.bool true), fixd (.bool true), fixd (.bool true), fixd (.bool true), fixd (.slice (some ⟨w4.heap.size + 1, 0, none⟩) 5 5), fixd (.string ⟨#[80, 85, 83, 72, 49, 32, 48, 120, 48, 53, 32, 74, 85, 77, 80, 68, 69, 83, 84, 32, 80, 85, 83, 72, 50, 32, 48, 120, 53, 98, 48, 48]⟩), fixd (.bool true), fixd (.bool true), fixd (.bool true), fixd (.slice (some ⟨gM, oM, none⟩) 1 qM), fixd (.int .i64 1), fixd (.bool true), fixd (.bool true), fixd (.bool true), fixd (.slice (some ⟨gM, oM, none⟩) 1 qM), fixd (.pointer (some ⟨gM, oM, none⟩)), fixd (.int .i64 2), fixd (.bool true), fixd (.bool true), fixd (.bool true), fixd (.agg #[.int .u64 23296, .int .u64 0, .int .u64 0, .int .u64 0]), fixd (.agg #[.int .u64 23296, .int .u64 0, .int .u64 0, .int .u64 0]), fixd (.bool true), fixd (.bool true), fixd (.bool true), fixd (.bool true), fixd (.bool true), fixd (.bool true), fixd (.slice aD 3 qD), fixd (.string ⟨#[96, 5, 91]⟩), fixd (.bool true), fixd (.bool true), fixd (.bool true), fixd (.int .i64 0), fixd (.int .i64 0), fixd (.bool true), fixd (.bool true), fixd (.bool true), fixd (.int .i64 200), fixd (.int .i64 200), fixd (.bool true), fixd (.bool true)] (by kernel_rfl) (by kernel_rfl) ?_
  simp only [List.take_succ_cons, List.take_zero, List.drop_succ_cons, List.drop_zero]
  try simp only [Act.put, List.setIfInBounds_toArray, List.set_cons_succ, List.set_cons_zero, List.nil_append, List.cons_append]
  apply wpGrowV_fix (.agg #[.string ⟨#[65, 68, 68]⟩, .int .i64 2, .int .i64 1, .int .u64 3, .bool true, .int .i64 0]) rfl rfl
  · intro W hb hF
    rw [run_load_midV 25 _ rfl w1.heap.size 0 rfl [.string ⟨#[65, 68, 68]⟩, .int .i64 2, .int .i64 1, .int .u64 3, .bool true, .int .i64 0] _ (rangeAt_below rA.out hb) Tryz.underlying25 rfl (by kernel_rfl)]
    exact ⟨rfl, xrefl W⟩
  try simp only [Act.put, List.setIfInBounds_toArray, List.set_cons_succ, List.set_cons_zero, List.nil_append, List.cons_append]
  apply wpGrowV_fix (.agg #[.string ⟨#[65, 68, 68]⟩, .int .i64 2, .int .i64 1, .int .u64 3, .bool true, .int .i64 0]) rfl rfl
  · intro W hb hF
    exact grows_ok (by kernel_rfl) (xrefl W)
  try simp only [Act.put, List.setIfInBounds_toArray, List.set_cons_succ, List.set_cons_zero, List.nil_append, List.cons_append]
  apply wpGrowV_fix (.bool true) rfl rfl
  · intro W hb hF
    exact grows_ok (by kernel_rfl) (xrefl W)
  try simp only [Act.put, List.setIfInBounds_toArray, List.set_cons_succ, List.set_cons_zero, List.nil_append, List.cons_append]
  apply wpGrowV_fix (.bool true) rfl rfl
  · intro W hb hF
    exact grows_ok (by kernel_rfl) (xrefl W)
  try simp only [Act.put, List.setIfInBounds_toArray, List.set_cons_succ, List.set_cons_zero, List.nil_append, List.cons_append]
  apply wpGrowV_fix (.bool true) rfl rfl
  · intro W hb hF
    exact grows_ok (by kernel_rfl) (xrefl W)
  try simp only [Act.put, List.setIfInBounds_toArray, List.set_cons_succ, List.set_cons_zero, List.nil_append, List.cons_append]
  apply wpGrowV_fix (.bool true) rfl rfl
  · intro W hb hF
    exact grows_ok (by kernel_rfl) (xrefl W)
  try simp only [Act.put, List.setIfInBounds_toArray, List.set_cons_succ, List.set_cons_zero, List.nil_append, List.cons_append]
  apply wpGrowV_fix (.bool true) rfl rfl
  · intro W hb hF
    exact grows_ok (by kernel_rfl) (xrefl W)
  try simp only [Act.put, List.setIfInBounds_toArray, List.set_cons_succ, List.set_cons_zero, List.nil_append, List.cons_append]
  apply wpGrowV_fix (.bool false) rfl rfl
  · intro W hb hF
    exact grows_ok (by kernel_rfl) (xrefl W)
  try simp only [Act.put, List.setIfInBounds_toArray, List.set_cons_succ, List.set_cons_zero, List.nil_append, List.cons_append]
  apply wpGrowV_fix (.bool true) rfl rfl
  · intro W hb hF
    exact grows_ok (by kernel_rfl) (xrefl W)
  try simp only [Act.put, List.setIfInBounds_toArray, List.set_cons_succ, List.set_cons_zero, List.nil_append, List.cons_append]
  apply wpGrowV_fix (.bool true) rfl rfl
  · intro W hb hF
    exact grows_ok (by kernel_rfl) (xrefl W)
  try simp only [Act.put, List.setIfInBounds_toArray, List.set_cons_succ, List.set_cons_zero, List.nil_append, List.cons_append]
  apply wpGrowV_fix (.bool true) rfl rfl
  · intro W hb hF
    exact grows_ok (by kernel_rfl) (xrefl W)
  try simp only [Act.put, List.setIfInBounds_toArray, List.set_cons_succ, List.set_cons_zero, List.nil_append, List.cons_append]
  apply wpGrowV_fix (.int .u8 97) rfl rfl
  · intro W hb hF
    exact grows_ok (by kernel_rfl) (xrefl W)
  try simp only [Act.put, List.setIfInBounds_toArray, List.set_cons_succ, List.set_cons_zero, List.nil_append, List.cons_append]
  apply wpGrowV_fix (.bool true) rfl rfl
  · intro W hb hF
    exact grows_ok (by kernel_rfl) (xrefl W)
  try simp only [Act.put, List.setIfInBounds_toArray, List.set_cons_succ, List.set_cons_zero, List.nil_append, List.cons_append]
  apply wpGrowV_fix (.bool true) rfl rfl
  · intro W hb hF
    exact grows_ok (by kernel_rfl) (xrefl W)
  try simp only [Act.put, List.setIfInBounds_toArray, List.set_cons_succ, List.set_cons_zero, List.nil_append, List.cons_append]
  apply wpGrowV_fix (.bool true) rfl rfl
  · intro W hb hF
    exact grows_ok (by kernel_rfl) (xrefl W)
  try simp only [Act.put, List.setIfInBounds_toArray, List.set_cons_succ, List.set_cons_zero, List.nil_append, List.cons_append]
  apply wpGrowV_fix (.bool true) rfl rfl
  · intro W hb hF
    exact grows_ok (by kernel_rfl) (xrefl W)
  try simp only [Act.put, List.setIfInBounds_toArray, List.set_cons_succ, List.set_cons_zero, List.nil_append, List.cons_append]
  apply wpGrowV_fix (.bool true) rfl rfl
  · intro W hb hF
    exact grows_ok (by kernel_rfl) (xrefl W)
  try simp only [Act.put, List.setIfInBounds_toArray, List.set_cons_succ, List.set_cons_zero, List.nil_append, List.cons_append]
  apply wpGrowV_fix (.bool true) rfl rfl
  · intro W hb hF
    exact grows_ok (by kernel_rfl) (xrefl W)
  try simp only [Act.put, List.setIfInBounds_toArray, List.set_cons_succ, List.set_cons_zero, List.nil_append, List.cons_append]
  apply wpGrowV_fix (.agg #[.string ⟨#[83, 87, 65, 80, 50]⟩, .int .i64 3, .int .i64 3, .int .u64 3, .bool true, .int .i64 0]) rfl rfl
  · intro W hb hF
    rw [run_load_midV 25 _ rfl w4.heap.size 0 rfl [.string ⟨#[83, 87, 65, 80, 50]⟩, .int .i64 3, .int .i64 3, .int .u64 3, .bool true, .int .i64 0] _ (rangeAt_below rC.out hb) Tryz.underlying25 rfl (by kernel_rfl)]
    exact ⟨rfl, xrefl W⟩
  try simp only [Act.put, List.setIfInBounds_toArray, List.set_cons_succ, List.set_cons_zero, List.nil_append, List.cons_append]
  apply wpGrowV_fix (.agg #[.string ⟨#[83, 87, 65, 80, 50]⟩, .int .i64 3, .int .i64 3, .int .u64 3, .bool true, .int .i64 0]) rfl rfl
  · intro W hb hF
    exact grows_ok (by kernel_rfl) (xrefl W)
  try simp only [Act.put, List.setIfInBounds_toArray, List.set_cons_succ, List.set_cons_zero, List.nil_append, List.cons_append]
  apply wpGrowV_fix (.bool true) rfl rfl
  · intro W hb hF
    exact grows_ok (by kernel_rfl) (xrefl W)
  try simp only [Act.put, List.setIfInBounds_toArray, List.set_cons_succ, List.set_cons_zero, List.nil_append, List.cons_append]
  apply wpGrowV_fix (.bool true) rfl rfl
  · intro W hb hF
    exact grows_ok (by kernel_rfl) (xrefl W)
  try simp only [Act.put, List.setIfInBounds_toArray, List.set_cons_succ, List.set_cons_zero, List.nil_append, List.cons_append]
  apply wpGrowV_fix (.bool true) rfl rfl
  · intro W hb hF
    exact grows_ok (by kernel_rfl) (xrefl W)
  try simp only [Act.put, List.setIfInBounds_toArray, List.set_cons_succ, List.set_cons_zero, List.nil_append, List.cons_append]
  apply wpGrowV_fix (.bool true) rfl rfl
  · intro W hb hF
    exact grows_ok (by kernel_rfl) (xrefl W)
  try simp only [Act.put, List.setIfInBounds_toArray, List.set_cons_succ, List.set_cons_zero, List.nil_append, List.cons_append]
  apply wpGrowV_fix (.bool true) rfl rfl
  · intro W hb hF
    exact grows_ok (by kernel_rfl) (xrefl W)
  try simp only [Act.put, List.setIfInBounds_toArray, List.set_cons_succ, List.set_cons_zero, List.nil_append, List.cons_append]
  apply wpGrowV_fix (.bool true) rfl rfl
  · intro W hb hF
    exact grows_ok (by kernel_rfl) (xrefl W)
  try simp only [Act.put, List.setIfInBounds_toArray, List.set_cons_succ, List.set_cons_zero, List.nil_append, List.cons_append]
  apply wpGrowV_fix (.slice (some ⟨w4.heap.size + 1, 0, none⟩) 5 5) rfl rfl
  · intro W hb hF
    exact grows_ok (by kernel_rfl) (xrefl W)
  try simp only [Act.put, List.setIfInBounds_toArray, List.set_cons_succ, List.set_cons_zero, List.nil_append, List.cons_append]
  apply wpGrowV_fix (.string ⟨#[80, 85, 83, 72, 49, 32, 48, 120, 48, 53, 32, 74, 85, 77, 80, 68, 69, 83, 84, 32, 80, 85, 83, 72, 50, 32, 48, 120, 53, 98, 48, 48]⟩) rfl rfl
  · intro W hb hF
    go_simp
    go_at_call 15
    refine (htx.out W hb).mono ?_
    rintro e w' ⟨rfl, hb'⟩
    exact ⟨rfl, hb'⟩
  try simp only [Act.put, List.setIfInBounds_toArray, List.set_cons_succ, List.set_cons_zero, List.nil_append, List.cons_append]
  apply wpGrowV_fix (.bool true) rfl rfl
  · intro W hb hF
    exact grows_ok (by kernel_rfl) (xrefl W)
  try simp only [Act.put, List.setIfInBounds_toArray, List.set_cons_succ, List.set_cons_zero, List.nil_append, List.cons_append]
  apply wpGrowV_fix (.bool true) rfl rfl
  · intro W hb hF
    exact grows_ok (by kernel_rfl) (xrefl W)
  try simp only [Act.put, List.setIfInBounds_toArray, List.set_cons_succ, List.set_cons_zero, List.nil_append, List.cons_append]
  apply wpGrowV_fix (.bool true) rfl rfl
  · intro W hb hF
    exact grows_ok (by kernel_rfl) (xrefl W)
  try simp only [Act.put, List.setIfInBounds_toArray, List.set_cons_succ, List.set_cons_zero, List.nil_append, List.cons_append]
  apply wpGrowV_fix (.slice (some ⟨gM, oM, none⟩) 1 qM) rfl rfl
  · intro W hb hF
    exact grows_ok (by kernel_rfl) (xrefl W)
  try simp only [Act.put, List.setIfInBounds_toArray, List.set_cons_succ, List.set_cons_zero, List.nil_append, List.cons_append]
  apply wpGrowV_fix (.int .i64 1) rfl rfl
  · intro W hb hF
    go_simp
    first | exact xrefl W | exact ⟨rfl, xrefl W⟩
  try simp only [Act.put, List.setIfInBounds_toArray, List.set_cons_succ, List.set_cons_zero, List.nil_append, List.cons_append]
  apply wpGrowV_fix (.bool true) rfl rfl
  · intro W hb hF
    exact grows_ok (by kernel_rfl) (xrefl W)
  try simp only [Act.put, List.setIfInBounds_toArray, List.set_cons_succ, List.set_cons_zero, List.nil_append, List.cons_append]
  apply wpGrowV_fix (.bool true) rfl rfl
  · intro W hb hF
    exact grows_ok (by kernel_rfl) (xrefl W)
  try simp only [Act.put, List.setIfInBounds_toArray, List.set_cons_succ, List.set_cons_zero, List.nil_append, List.cons_append]
  apply wpGrowV_fix (.bool true) rfl rfl
  · intro W hb hF
    exact grows_ok (by kernel_rfl) (xrefl W)
  try simp only [Act.put, List.setIfInBounds_toArray, List.set_cons_succ, List.set_cons_zero, List.nil_append, List.cons_append]
  apply wpGrowV_fix (.slice (some ⟨gM, oM, none⟩) 1 qM) rfl rfl
  · intro W hb hF
    exact grows_ok (by kernel_rfl) (xrefl W)
  try simp only [Act.put, List.setIfInBounds_toArray, List.set_cons_succ, List.set_cons_zero, List.nil_append, List.cons_append]
  apply wpGrowV_fix (.pointer (some ⟨gM, oM, none⟩)) rfl rfl
  · intro W hb hF
    go_simp
    first | exact xrefl W | exact ⟨rfl, xrefl W⟩
  try simp only [Act.put, List.setIfInBounds_toArray, List.set_cons_succ, List.set_cons_zero, List.nil_append, List.cons_append]
  apply wpGrowV_fix (.int .i64 2) rfl rfl
  · intro W hb hF
    have c := cbel hb cM'.out
    go_simp
    exact xrefl W
  try simp only [Act.put, List.setIfInBounds_toArray, List.set_cons_succ, List.set_cons_zero, List.nil_append, List.cons_append]
  apply wpGrowV_fix (.bool true) rfl rfl
  · intro W hb hF
    exact grows_ok (by kernel_rfl) (xrefl W)
  try simp only [Act.put, List.setIfInBounds_toArray, List.set_cons_succ, List.set_cons_zero, List.nil_append, List.cons_append]
  apply wpGrowV_fix (.bool true) rfl rfl
  · intro W hb hF
    exact grows_ok (by kernel_rfl) (xrefl W)
  try simp only [Act.put, List.setIfInBounds_toArray, List.set_cons_succ, List.set_cons_zero, List.nil_append, List.cons_append]
  apply wpGrowV_fix (.bool true) rfl rfl
  · intro W hb hF
    exact grows_ok (by kernel_rfl) (xrefl W)
  try simp only [Act.put, List.setIfInBounds_toArray, List.set_cons_succ, List.set_cons_zero, List.nil_append, List.cons_append]
  apply wpGrowV_fix (.agg #[.int .u64 23296, .int .u64 0, .int .u64 0, .int .u64 0]) rfl rfl
  · intro W hb hF
    rw [run_load_midV 50 _ rfl w6.heap.size 0 rfl [.int .u64 23296, .int .u64 0, .int .u64 0, .int .u64 0] _ (rangeAt_below rW.out hb) Tryz.underlying50 rfl (by kernel_rfl)]
    exact ⟨rfl, xrefl W⟩
  try simp only [Act.put, List.setIfInBounds_toArray, List.set_cons_succ, List.set_cons_zero, List.nil_append, List.cons_append]
  apply wpGrowV_fix (.agg #[.int .u64 23296, .int .u64 0, .int .u64 0, .int .u64 0]) rfl rfl
  · intro W hb hF
    go_simp
    go_at_call 22
    refine (hof.out W).mono ?_
    rintro e w' ⟨rfl, hb'⟩
    exact ⟨rfl, hb'⟩
  try simp only [Act.put, List.setIfInBounds_toArray, List.set_cons_succ, List.set_cons_zero, List.nil_append, List.cons_append]
  apply wpGrowV_fix (.bool true) rfl rfl
  · intro W hb hF
    rw [run_eql_at 50 _ (.tmp 91) (.tmp 92) rfl 23 4 .u64 .u64 [23296, 0, 0, 0] [23296, 0, 0, 0] rfl rfl Tryz.underlying50 Tryz.underlying23 (by kernel_rfl) (by kernel_rfl) (by kernel_rfl) rfl rfl, decide_eq_true rfl]
    exact ⟨rfl, xrefl W⟩
  try simp only [Act.put, List.setIfInBounds_toArray, List.set_cons_succ, List.set_cons_zero, List.nil_append, List.cons_append]
  apply wpGrowV_fix (.bool true) rfl rfl
  · intro W hb hF
    exact grows_ok (by kernel_rfl) (xrefl W)
  try simp only [Act.put, List.setIfInBounds_toArray, List.set_cons_succ, List.set_cons_zero, List.nil_append, List.cons_append]
  apply wpGrowV_fix (.bool true) rfl rfl
  · intro W hb hF
    exact grows_ok (by kernel_rfl) (xrefl W)
  try simp only [Act.put, List.setIfInBounds_toArray, List.set_cons_succ, List.set_cons_zero, List.nil_append, List.cons_append]
  apply wpGrowV_fix (.bool true) rfl rfl
  · intro W hb hF
    exact grows_ok (by kernel_rfl) (xrefl W)
  try simp only [Act.put, List.setIfInBounds_toArray, List.set_cons_succ, List.set_cons_zero, List.nil_append, List.cons_append]
  apply wpGrowV_fix (.bool true) rfl rfl
  · intro W hb hF
    exact grows_ok (by kernel_rfl) (xrefl W)
  try simp only [Act.put, List.setIfInBounds_toArray, List.set_cons_succ, List.set_cons_zero, List.nil_append, List.cons_append]
  apply wpGrowV_fix (.bool true) rfl rfl
  · intro W hb hF
    exact grows_ok (by kernel_rfl) (xrefl W)
  try simp only [Act.put, List.setIfInBounds_toArray, List.set_cons_succ, List.set_cons_zero, List.nil_append, List.cons_append]
  apply wpGrowV_fix (.slice aD 3 qD) rfl rfl
  · intro W hb hF
    exact grows_ok (by kernel_rfl) (xrefl W)
  try simp only [Act.put, List.setIfInBounds_toArray, List.set_cons_succ, List.set_cons_zero, List.nil_append, List.cons_append]
  apply wpGrowV_fix (.string ⟨#[96, 5, 91]⟩) rfl rfl
  · intro W hb hF
    have c : (convert 32 9 (.slice aD 3 qD)).run Tryz.prog W = .ok (.string ⟨#[96, 5, 91]⟩) W := conv_row W aD qD [96, 5, 91] (hD.out.below hb)
    go_simp
    exact xrefl W
  try simp only [Act.put, List.setIfInBounds_toArray, List.set_cons_succ, List.set_cons_zero, List.nil_append, List.cons_append]
  apply wpGrowV_fix (.bool true) rfl rfl
  · intro W hb hF
    exact grows_ok (by kernel_rfl) (xrefl W)
  try simp only [Act.put, List.setIfInBounds_toArray, List.set_cons_succ, List.set_cons_zero, List.nil_append, List.cons_append]
  apply wpGrowV_fix (.bool true) rfl rfl
  · intro W hb hF
    exact grows_ok (by kernel_rfl) (xrefl W)
  try simp only [Act.put, List.setIfInBounds_toArray, List.set_cons_succ, List.set_cons_zero, List.nil_append, List.cons_append]
  apply wpGrowV_fix (.bool true) rfl rfl
  · intro W hb hF
    exact grows_ok (by kernel_rfl) (xrefl W)
  try simp only [Act.put, List.setIfInBounds_toArray, List.set_cons_succ, List.set_cons_zero, List.nil_append, List.cons_append]
  apply wpGrowV_fix (.int .i64 0) rfl rfl
  · intro W hb hF
    exact grows_ok (by kernel_rfl) (xrefl W)
  try simp only [Act.put, List.setIfInBounds_toArray, List.set_cons_succ, List.set_cons_zero, List.nil_append, List.cons_append]
  apply wpGrowV_fix (.int .i64 0) rfl rfl
  · intro W hb hF
    go_simp
    go_at_call 19
    refine (num_any 0 W).mono ?_
    rintro e w' ⟨rfl, hb'⟩
    exact ⟨rfl, hb'⟩
  try simp only [Act.put, List.setIfInBounds_toArray, List.set_cons_succ, List.set_cons_zero, List.nil_append, List.cons_append]
  apply wpGrowV_fix (.bool true) rfl rfl
  · intro W hb hF
    exact grows_ok (by kernel_rfl) (xrefl W)
  try simp only [Act.put, List.setIfInBounds_toArray, List.set_cons_succ, List.set_cons_zero, List.nil_append, List.cons_append]
  apply wpGrowV_fix (.bool true) rfl rfl
  · intro W hb hF
    exact grows_ok (by kernel_rfl) (xrefl W)
  try simp only [Act.put, List.setIfInBounds_toArray, List.set_cons_succ, List.set_cons_zero, List.nil_append, List.cons_append]
  apply wpGrowV_fix (.bool true) rfl rfl
  · intro W hb hF
    exact grows_ok (by kernel_rfl) (xrefl W)
  try simp only [Act.put, List.setIfInBounds_toArray, List.set_cons_succ, List.set_cons_zero, List.nil_append, List.cons_append]
  apply wpGrowV_fix (.int .i64 200) rfl rfl
  · intro W hb hF
    exact grows_ok (by kernel_rfl) (xrefl W)
  try simp only [Act.put, List.setIfInBounds_toArray, List.set_cons_succ, List.set_cons_zero, List.nil_append, List.cons_append]
  apply wpGrowV_fix (.int .i64 200) rfl rfl
  · intro W hb hF
    go_simp
    go_at_call 19
    refine (num_any 200 W).mono ?_
    rintro e w' ⟨rfl, hb'⟩
    exact ⟨rfl, hb'⟩
  try simp only [Act.put, List.setIfInBounds_toArray, List.set_cons_succ, List.set_cons_zero, List.nil_append, List.cons_append]
  apply wpGrowV_fix (.bool true) rfl rfl
  · intro W hb hF
    exact grows_ok (by kernel_rfl) (xrefl W)
  try simp only [Act.put, List.setIfInBounds_toArray, List.set_cons_succ, List.set_cons_zero, List.nil_append, List.cons_append]
  apply wpGrowV_fix (.bool true) rfl rfl
  · intro W hb hF
    exact grows_ok (by kernel_rfl) (xrefl W)
  try simp only [Act.put, List.setIfInBounds_toArray, List.set_cons_succ, List.set_cons_zero, List.nil_append, List.cons_append]
  intro W hbW _
  go_wp2
  go_ret
  exact ⟨rfl, xtrans hb1.out hbW⟩
end Go.Proofs.YtbicfaiabpcgfaaGreatDoor
