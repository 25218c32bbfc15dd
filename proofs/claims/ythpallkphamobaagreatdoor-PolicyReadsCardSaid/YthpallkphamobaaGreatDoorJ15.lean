/- Texts of this claim, merged; no condition. -/
import Derived.Test.YthpallkphamobaaGreatDoorShelf
import Derived.Lib.AppendIntMem
import Derived.Tactics2
import Derived.Test.YthpallkphamobaaGreatDoorJ00
import Derived.Lib.Builder
import Derived.Shelf.Strings.Builder1
import Derived.WalkKit
import Derived.Test.YthpallkphamobaaGreatDoorJ01
import Derived.Test.YthpallkphamobaaGreatDoorJ14
import Derived.Deep.QuietTactic
import Derived.BigQuiet
import Derived.Deep.Cut
import Derived.Test.YthpallkphamobaaGreatDoorJ03
set_option linter.all false
namespace Go.Proofs.YthpallkphamobaaGreatDoor
open Go.RowKit Go.Shelf Go.Sort Go.Lib

set_option maxRecDepth 100000 in
set_option maxHeartbeats 4000000 in
theorem fmtI_any (u : Nat) (hu : u < 4294967296) (w : World) (htab : Lib.TabIs Tryz.prog w "internal/strconv.uint64pow10" .u64 Lib.pow10Tab) :
    Calls Tryz.prog 129 #[.int .u64 u, .int .i64 10] w fun e w' => e = .returned (.string ⟨(Lib.decDigits u).toArray⟩) ∧ Below w.heap.size w w' := by
  by_cases hs : u < 100
  · have hsm := Tryz.internal_strconv_small u hs
    have hsI : (u : Int) < 100 := by omega
    go_enter Tryz.func129, Tryz.ntmps129
    go_wp2_with (go_at_call 141; refine (hsm _).mono ?_; rintro e w' ⟨rfl, rfl⟩)
    go_ret
    exact ⟨rfl, xrefl _⟩
  · have hsI : ¬ (u : Int) < 100 := by omega
    have hu1 : 1 ≤ u := by omega
    have hu64 : u < 18446744073709551616 := by omega
    have hnd20 : Lib.nDigits u ≤ 20 := by have := Lib.numDigits_eq u hu1 hu64; split at this <;> omega
    have hb3 : Lib.nDigits u ≤ 24 := by omega
    have hal : Tryz.prog.arrayLen 188 = 24 := by kernel_rfl
    have hel : (sizeOf (Tryz.prog.elem 188)).run Tryz.prog = fun w => .ok 1 w := by funext w; kernel_rfl
    have hsl1 : ∀ W, (Instr.sliceAt 188 (.pointer (some ⟨w.heap.size, 0, none⟩)) none (some (.int .i64 (Lib.nDigits u : Int))) none).run Tryz.prog W = .ok (.slice (some ⟨w.heap.size, 0, none⟩) (Lib.nDigits u) 24) W := fun W => by
      rw [run_sliceAt_array_h W 188 ⟨w.heap.size, 0, none⟩ (by kernel_rfl) .i64 (Lib.nDigits u : Int) (by omega) (by rw [hal]; omega), hel, hal]
      simp [slicedAt, Result.andThen_ok, Lib.add_plain]
    have hH0 := Lib.holds_zero0 w 188 (Lib.nDigits u) (by omega)
    have hfmt := Tryz.internal_strconv_formatBase10 w.heap.size 0 24 u (Array.replicate (Lib.nDigits u) 0) (w.alloc (.cells Lib.zeros24 188)) hH0 (by rw [Array.size_replicate]; exact Lib.lt_pow_nDigits u) hu64 (by rw [Array.size_replicate]; omega)
    rw [Array.size_replicate] at hfmt
    have hnd := Tryz.internal_strconv_numDigits u hu1 hu64 _ (Lib.tabIs_alloc htab (.cells Lib.zeros24 188))
    have HH0 := Lib.hid hH0
    replace hfmt := Lib.hid hfmt
    replace hnd := Lib.hid hnd
    clear hH0 hal hel htab
    go_enter Tryz.func129, Tryz.ntmps129
    go_wp2_with (go_at_call 142; refine hnd.out.mono ?_; rintro e w' ⟨rfl, rfl⟩)
    go_at_call 143
    refine hfmt.out.mono ?_
    rintro e w' ⟨rfl, k, v', dk, rfl, hF⟩
    have hcv : (convert 93 9 (.slice (some ⟨w.heap.size, 0, none⟩) (Lib.nDigits u) 24)).run Tryz.prog ((putRow (fun (b : UInt8) => Value.int .u8 (b.toNat : Int)) (w.alloc (.cells Lib.zeros24 188)) w.heap.size 0 dk).drewN k) = .ok (.string ⟨(Lib.decDigits u).toArray⟩) ((putRow (fun (b : UInt8) => Value.int .u8 (b.toNat : Int)) (w.alloc (.cells Lib.zeros24 188)) w.heap.size 0 dk).drewN k) := by
      have h := run_convert_bytes_back (P := Tryz.prog) ((putRow (fun (b : UInt8) => Value.int .u8 (b.toNat : Int)) (w.alloc (.cells Lib.zeros24 188)) w.heap.size 0 dk).drewN k) 93 9 5 ⟨w.heap.size, 0, none⟩ 24 (Lib.decDigits u) Tryz.underlying93 Tryz.underlying5 Tryz.underlying9 (fun j hj => by
        rw [Lib.row_is_numeral hF j hj, Lib.add_plain, World.cell?_drewN]
        exact cell?_putRow (fun (b : UInt8) => Value.int .u8 (b.toNat : Int)) _ w.heap.size 0 _ dk HH0.out (by rw [hF.size, Array.size_replicate]) j (by rw [hF.size]; rw [Lib.decDigits_length] at hj; exact hj))
      rw [Lib.decDigits_length] at h
      exact h
    have hbw : Below w.heap.size w ((putRow (fun (b : UInt8) => Value.int .u8 (b.toNat : Int)) (w.alloc (.cells Lib.zeros24 188)) w.heap.size 0 dk).drewN k) := by
      obtain ⟨os, eo⟩ := Lib.fin_at w (.cells Lib.zeros24 188) dk k 0
      rw [eo]
      exact Lib.below_grow _ w (Nat.le_refl _) k os
    generalize (putRow (fun (b : UInt8) => Value.int .u8 (b.toNat : Int)) (w.alloc (.cells Lib.zeros24 188)) w.heap.size 0 dk).drewN k = w5 at *
    go_wp2
    go_ret
    exact ⟨rfl, hbw⟩
theorem fmt_any (u : Nat) (hu : u < 4294967296) (w : World) (htab : Lib.TabIs Tryz.prog w "internal/strconv.uint64pow10" .u64 Lib.pow10Tab) :
    Calls Tryz.prog 106 #[.int .u64 u, .int .i64 10] w fun e w' => e = .returned (.string ⟨(Lib.decDigits u).toArray⟩) ∧ Below w.heap.size w w' := by
  have h := Lib.hid (fmtI_any u hu w htab)
  clear htab
  go_enter Tryz.func106, Tryz.ntmps106
  go_wp2_with (go_at_call 129; refine h.out.mono ?_; rintro e w' ⟨rfl, hb⟩)
  go_ret
  exact ⟨rfl, hb⟩
end Go.Proofs.YthpallkphamobaaGreatDoor
namespace Go.Proofs.YthpallkphamobaaGreatDoor
open Go.RowKit Go.Shelf

abbrev BldAt (B b : Nat) (p : Value) (bs : List Value) (w : World) : Prop := Lib.BuilderAt 95 5 B b p bs w
abbrev Bld (B b : Nat) (bs : List Value) (w : World) : Prop := Lib.IsBuilder 95 5 B b bs w
theorem bld_size : ∃ j, Tryz.prog.info? 95 = some j ∧ j.size = 2 := by
  have : (Tryz.prog.info? 95).map (·.size) = some 2 := by kernel_rfl
  cases hq : Tryz.prog.info? 95 with
  | none => rw [hq] at this; cases this
  | some j => rw [hq] at this; exact ⟨j, rfl, by simpa using this⟩
set_option maxHeartbeats 2000000 in
set_option maxRecDepth 100000 in
theorem bldCheck_used (b : Nat) (w : World) (h0 : w.cell? ⟨b, 0, none⟩ = some (.pointer (some ⟨b, 0, none⟩))) :
    Calls Tryz.prog 92 #[.pointer (some ⟨b, 0, none⟩)] w fun e w' => e = .returned (.tuple #[]) ∧ w' = w := by
  obtain ⟨j, hj, _⟩ := bld_size
  go_enter Tryz.func92, Tryz.ntmps92
  go_wp2
  rw [Lib.run_neq_ptr_same w _ Tryz.underlying92 hj]
  go_wp2
  go_end0
  exact ⟨rfl, rfl⟩
set_option maxHeartbeats 2000000 in
set_option maxRecDepth 100000 in
theorem bldCheck_fresh (b : Nat) (w : World) (h0 : w.cell? ⟨b, 0, none⟩ = some (.pointer none)) (hsh : w.shape? b = some (95, 2)) (hfz : w.frozen? ⟨b, 0, none⟩ = false) :
    Calls Tryz.prog 92 #[.pointer (some ⟨b, 0, none⟩)] w fun e w' => e = .returned (.tuple #[]) ∧ w' = w.setCell ⟨b, 0, none⟩ (.pointer (some ⟨b, 0, none⟩)) := by
  obtain ⟨j, hj, hjs⟩ := bld_size
  have h1 := fun (W : World) (hW : W.shape? b = some (95, 2)) => Lib.run_to_unsafe (P := Tryz.prog) W ⟨b, 0, none⟩ Tryz.underlying92 Tryz.underlying170 hj (by rw [hjs]; decide) hW (Nat.zero_lt_succ 1)
  have h2 := fun (W : World) (hW : W.shape? b = some (95, 2)) => Lib.run_from_unsafe (P := Tryz.prog) W ⟨b, 0, none⟩ Tryz.underlying170 Tryz.underlying92 hj hW (by kernel_rfl)
  go_enter Tryz.func92, Tryz.ntmps92
  go_wp2
  rw [run_callFunc_extern Tryz.func116 (by kernel_rfl) (by kernel_rfl) (by kernel_rfl) (e := Extern.AbiNoEscape.same) (by kernel_rfl)]
  rw [Lib.run_noEscape]
  simp only [Result.andThen]
  rw [Oper.upon_value]
  go_wp2
  go_end0
  exact ⟨rfl, rfl⟩
theorem bldCheck_any (B b : Nat) (bs : List Value) (w : World) (h : Bld B b bs w) :
    Calls Tryz.prog 92 #[.pointer (some ⟨b, 0, none⟩)] w fun e w' => e = .returned (.tuple #[]) ∧ BldAt B b (.pointer (some ⟨b, 0, none⟩)) bs w' ∧ Below B w w' := by
  rcases h with h | h
  · refine (bldCheck_fresh b w h.cell0 h.shape h.frozen0).mono ?_
    rintro e w' ⟨rfl, rfl⟩
    exact ⟨rfl, h.used _, (Below.refl B w).setCell (p := ⟨b, 0, none⟩) h.1 _⟩
  · refine (bldCheck_used b w h.cell0).mono ?_
    rintro e w' ⟨rfl, rfl⟩
    exact ⟨rfl, h, Below.refl B _⟩
theorem bld_infoB : (Tryz.prog.info? 5).map (fun i => (i.zero, i.size, i.bytes)) = some (some (.int .u8 0), 1, 1) := by kernel_rfl
/-- What is known of a builder that has been looked at. -/
theorem BldAt.open {B b : Nat} {p : Value} {bs : List Value} {w : World} (h : BldAt B b p bs w) : ∃ v, w.heap[b]? = some (.cells #[p, v] 95 (0, 0)) ∧ w.ownsRow B 5 1 v bs.length bs ∧ v.ownBlock ≠ some b ∧ B ≤ b := ⟨h.2.choose, h.2.choose_spec.1, h.2.choose_spec.2.1, h.2.choose_spec.2.2, h.1⟩
set_option maxHeartbeats 4000000 in
set_option maxRecDepth 100000 in
theorem bldByte_any (B b : Nat) (bs : List Value) (c : Int) (w : World) (h : Bld B b bs w) (hlen : bs.length + 1 ≤ 140737488355328) (hBw : B ≤ w.heap.size) :
    Calls Tryz.prog 51 #[.pointer (some ⟨b, 0, none⟩), .int .u8 c] w fun e w' => e = .returned .nilIface ∧ BldAt B b (.pointer (some ⟨b, 0, none⟩)) (bs ++ [.int .u8 c]) w' ∧ Below B w w' := by
  obtain ⟨i0, hi, hz0, hz1, hz2⟩ := info_parts bld_infoB
  have hck := Lib.hid (bldCheck_any B b bs w h)
  clear h
  go_enter Tryz.func51, Tryz.ntmps51
  go_wp2_with (go_at_call 92; refine hck.out.mono ?_)
  rintro e w1 ⟨rfl, h1, hb1⟩
  obtain ⟨v, hbk, hown, hne, hB⟩ := h1.open
  have c1 : w1.cell? ⟨b, 1, none⟩ = some v := by rw [Lib.cell_of_heap hbk]; rfl
  go_wp2_with (at_builtin; refine wpList_append_own _ rfl _ _ 93 rfl B 5 i0 (.int .u8 0) 1 1 Tryz.underlying93 hi hz0 hz1 hz2 rfl (by decide) _ _ _ rfl (hown.alloc _) ⟨w1.heap.size, 0, none⟩ 1 1 [.int .u8 c] rfl rfl ?c1 ?c2 ?c3 ?c4 ?c5 ?_)
  case c1 =>
    intro j u hj
    match j, hj with
    | 0, hj => simp at hj; subst hj; simp [Addr.add]
  case c2 => intro u hu; simp at hu; subst hu; rfl
  case c3 => unfold maxLen; omega
  case c4 => omega
  case c5 => have := hb1.size; simp; omega
  intro v' w2 hown' hgrow _
  have hlt : b < w1.heap.size := h1.lt
  have hb2 : w2.heap[b]? = some (.cells #[.pointer (some ⟨b, 0, none⟩), v] 95 (0, 0)) := by
    rw [hgrow.block b (by simp; omega) (fun e => hne e.symm), Lib.alloc_old w1 _ b hlt]
    exact hbk
  have d1 : w2.cell? ⟨b, 1, none⟩ = some v := by rw [Lib.cell_of_heap hb2]; rfl
  have f1 : w2.frozen? ⟨b, 1, none⟩ = false := Lib.frozen_of_heap hb2 1
  obtain ⟨g, cap, rfl⟩ : ∃ g cap, v' = .slice (some ⟨g, 0, none⟩) (bs.length + 1) cap := by
    rcases hown'.2 with ⟨_, h0⟩ | ⟨g, cap, cur, hv, _⟩
    · omega
    · exact ⟨g, cap, hv⟩
  go_wp2
  go_ret
  refine ⟨rfl, ?_, ?_⟩
  · exact Lib.BuilderAt.put (T := 95) (e := 5) hB hb2 (bs' := bs ++ [.int .u8 c]) (by simpa using hown') (by decide)
  · exact ((hb1.alloc (by have := hb1.size; omega) _).grown hgrow (by have := hb1.size; simp; omega) (fun k hk => (hown.lt k hk).1)).setCell (p := ⟨b, 1, none⟩) hB _
set_option maxHeartbeats 4000000 in
set_option maxRecDepth 100000 in
theorem bldStr_any (B b : Nat) (bs : List Value) (s : ByteArray) (w : World) (h : Bld B b bs w) (hlen : bs.length + s.size ≤ 140737488355328) (hBw : B ≤ w.heap.size) :
    Calls Tryz.prog 50 #[.pointer (some ⟨b, 0, none⟩), .string s] w fun e w' => e = .returned (.tuple #[.int .i64 s.size, .nilIface]) ∧ BldAt B b (.pointer (some ⟨b, 0, none⟩)) (bs ++ Lib.strCells s) w' ∧ Below B w w' := by
  obtain ⟨i0, hi, hz0, hz1, hz2⟩ := info_parts bld_infoB
  have hck := Lib.hid (bldCheck_any B b bs w h)
  clear h
  go_enter Tryz.func50, Tryz.ntmps50
  go_wp2_with (go_at_call 92; refine hck.out.mono ?_)
  rintro e w1 ⟨rfl, h1, hb1⟩
  obtain ⟨v, hbk, hown, hne, hB⟩ := h1.open
  have c1 : w1.cell? ⟨b, 1, none⟩ = some v := by rw [Lib.cell_of_heap hbk]; rfl
  go_wp2_with (at_builtin; refine Lib.wpList_append_own_string _ rfl _ _ 93 9 rfl B 5 i0 Tryz.underlying93 Tryz.underlying9 hi hz0 hz1 hz2 _ _ _ rfl hown s rfl ?c3 ?c4 ?c5 ?_)
  case c3 => unfold maxLen; omega
  case c4 => omega
  case c5 => have := hb1.size; omega
  intro v' w2 hown' hgrow _
  have hb2 : w2.heap[b]? = some (.cells #[.pointer (some ⟨b, 0, none⟩), v] 95 (0, 0)) := by
    rw [hgrow.block b h1.lt (fun e => hne e.symm)]
    exact hbk
  have d1 : w2.cell? ⟨b, 1, none⟩ = some v := by rw [Lib.cell_of_heap hb2]; rfl
  have f1 : w2.frozen? ⟨b, 1, none⟩ = false := Lib.frozen_of_heap hb2 1
  obtain ⟨ao, n', cap, rfl⟩ : ∃ ao n' cap, v' = .slice ao n' cap := by
    rcases hown'.2 with ⟨hv, _⟩ | ⟨g, cap, cur, hv, _⟩
    · exact ⟨none, 0, 0, hv⟩
    · exact ⟨_, _, _, hv⟩
  go_wp2
  go_ret2
  refine ⟨rfl, ?_, ?_⟩
  · exact Lib.BuilderAt.put (T := 95) (e := 5) hB hb2 (bs' := bs ++ Lib.strCells s) (by rw [List.length_append, Lib.strCells_length]; exact hown') (by decide)
  · exact (hb1.grown hgrow (by have := hb1.size; omega) (fun k hk => (hown.lt k hk).1)).setCell (p := ⟨b, 1, none⟩) hB _
end Go.Proofs.YthpallkphamobaaGreatDoor
namespace Go.Proofs.YthpallkphamobaaGreatDoor
open Go.RowKit Go.Shelf

theorem bits15 : ∀ c : Fin 256, bits .and .u8 (c.1 : Int) 15 = ((c.1 % 16 : Nat) : Int) := by decide +kernel
theorem run_dig : ∀ (d : Nat), d < 16 → ∀ W : World, (Instr.index 9 (.string ⟨#[48, 49, 50, 51, 52, 53, 54, 55, 56, 57, 97, 98, 99, 100, 101, 102]⟩) (.int .u8 d)).run Tryz.prog W = .ok (.int .u8 ((hexc d).toNat : Nat)) W
  | 0, _, _ => by kernel_rfl
  | 1, _, _ => by kernel_rfl
  | 2, _, _ => by kernel_rfl
  | 3, _, _ => by kernel_rfl
  | 4, _, _ => by kernel_rfl
  | 5, _, _ => by kernel_rfl
  | 6, _, _ => by kernel_rfl
  | 7, _, _ => by kernel_rfl
  | 8, _, _ => by kernel_rfl
  | 9, _, _ => by kernel_rfl
  | 10, _, _ => by kernel_rfl
  | 11, _, _ => by kernel_rfl
  | 12, _, _ => by kernel_rfl
  | 13, _, _ => by kernel_rfl
  | 14, _, _ => by kernel_rfl
  | 15, _, _ => by kernel_rfl
  | n + 16, h, _ => absurd h (by omega)
theorem run_adr (a : List Nat) (ha : a.length = 20) : ∀ (i : Nat) (h : i < 20) (W : World), (Instr.index 29 (adrV a) (.int .i64 i)).run Tryz.prog W = .ok (.int .u8 (a.getD i 0 : Nat)) W := by
  obtain ⟨b0, b1, b2, b3, b4, b5, b6, b7, b8, b9, b10, b11, b12, b13, b14, b15, b16, b17, b18, b19, rfl⟩ := list20 a ha
  clear ha
  exact fun
  | 0, _, _ => by kernel_rfl
  | 1, _, _ => by kernel_rfl
  | 2, _, _ => by kernel_rfl
  | 3, _, _ => by kernel_rfl
  | 4, _, _ => by kernel_rfl
  | 5, _, _ => by kernel_rfl
  | 6, _, _ => by kernel_rfl
  | 7, _, _ => by kernel_rfl
  | 8, _, _ => by kernel_rfl
  | 9, _, _ => by kernel_rfl
  | 10, _, _ => by kernel_rfl
  | 11, _, _ => by kernel_rfl
  | 12, _, _ => by kernel_rfl
  | 13, _, _ => by kernel_rfl
  | 14, _, _ => by kernel_rfl
  | 15, _, _ => by kernel_rfl
  | 16, _, _ => by kernel_rfl
  | 17, _, _ => by kernel_rfl
  | 18, _, _ => by kernel_rfl
  | 19, _, _ => by kernel_rfl
  | n + 20, h, _ => absurd h (by omega)
set_option maxRecDepth 100000 in
set_option maxHeartbeats 4000000 in
theorem name_any (a : List Nat) (ha : Adr a) (w : World) :
    Calls Tryz.prog 20 #[adrV a] w fun e w' => e = .returned (.string ⟨(hexN a).toArray⟩) ∧ Below w.heap.size w w' := by
  have hbA : Below w.heap.size w (w.alloc (.cells (adrC a).toArray 29)) := xalloc (xrefl w) _
  have hAr := Lib.hid (BlkG.range (BlkG.new w 29 (adrC a)))
  have hA20 : (adrC a).length = 20 := by rw [adrC_len, ha.len]
  have hix := Lib.hid (run_adr a ha.len)
  have hB0 : Bld (w.heap.size + 1) (w.heap.size + 1) [] ((w.alloc (.cells (adrC a).toArray 29)).alloc (.cells #[.pointer none, .slice none 0 0] 95)) := by
    have : Bld _ _ [] _ := Lib.fresh_isBuilder 95 5 (w.alloc (.cells (adrC a).toArray 29))
    rwa [World.size_alloc] at this
  have hb0 : Below (w.heap.size + 1) (w.alloc (.cells (adrC a).toArray 29)) ((w.alloc (.cells (adrC a).toArray 29)).alloc (.cells #[.pointer none, .slice none 0 0] 95)) := by
    have := xalloc (xrefl (w.alloc (.cells (adrC a).toArray 29))) (.cells #[.pointer none, .slice none 0 0] 95)
    rwa [World.size_alloc] at this
  have hh := Lib.hid (bldStr_any (w.heap.size + 1) (w.heap.size + 1) [] ⟨#[48, 120]⟩ _ hB0 (by simp; decide) (by simp))
  have hbA2 := Lib.hid hbA
  replace hb0 := Lib.hid hb0
  replace ha := Lib.hid ha
  unfold adrV
  clear hB0 hbA hix
  go_enter Tryz.func20, Tryz.ntmps20
  go_wp2_with (first
    | (refine wpList_load_mid rfl 29 _ rfl w.heap.size 0 rfl (adrC a) _ hA1.out Tryz.underlying29 rfl (by rw [hA20]; kernel_rfl) ?_)
    | (go_at_call 50; refine hh.out.mono ?_; rintro e w1 ⟨rfl, hB1, hb1⟩; replace hB1 := Lib.hid hB1; replace hb1 := hb0.out.trans hb1; have hA1 := Lib.hid (fun j v hj => cbel (Below.mono hb1 (by rw [World.size_alloc]; exact Nat.le_refl _)) (hAr.out j v hj)); replace hb1 := Lib.hid hb1; clear hh hb0))
  go_loopw [8] (fun iv wx => ∃ i : Nat, i ≤ 20 ∧ iv = .int .i64 i ∧ Hid (BldAt (w.heap.size + 1) (w.heap.size + 1) (.pointer (some ⟨w.heap.size + 1, 0, none⟩)) (Lib.byteCells (48 :: 120 :: hexL (natI (a.take i)))) wx) ∧ Hid (Below (w.heap.size + 1) (w.alloc (.cells (adrC a).toArray 29)) wx)) (fun iv _ => 20 - (intOf iv).toNat)
  case atStart => exact ⟨0, by omega, rfl, Lib.hid hB1.out, hb1⟩
  case round =>
    clear hB1 hb1
    obtain ⟨i, hi, rfl, hB, hb⟩ := hrel
    have hws := hb.out.size
    rw [World.size_alloc] at hws
    by_cases hlt : i < 20
    · have hltI : (i : Int) < 20 := by omega
      have hlt2 : i < a.length := by rw [ha.out.len]; exact hlt
      have hi1 := run_adr a ha.out.len i hlt
      have hcl := ha.out.ok a[i] (List.getElem_mem hlt2)
      have hge : a.getD i 0 = a[i] := by simp [hlt2]
      rw [hge] at hi1
      unfold adrV at hi1
      have htk : hexL (natI (a.take (i + 1))) = hexL (natI (a.take i)) ++ [hexc (a[i] / 16), hexc (a[i] % 16)] := by
        rw [List.take_succ_eq_append_getElem hlt2, hexL_app, hexL_cons, hexL_nil]
      clear hge
      generalize a[i] = c at *
      have h15 := bits15 ⟨c, hcl⟩
      simp only at h15
      obtain ⟨d, hd⟩ : ∃ d : Nat, d = c / 16 := ⟨_, rfl⟩
      obtain ⟨e, he⟩ : ∃ e : Nat, e = c % 16 := ⟨_, rfl⟩
      have hdI : (c : Int) / 16 = (d : Int) := by omega
      have hd16 := run_dig d (by omega)
      have he16 := run_dig e (by omega)
      rw [← he] at h15
      rw [← hd, ← he] at htk
      have hlen : (hexL (natI (a.take i))).length ≤ 2000 := by rw [hexL_len, natI_len, List.length_take]; omega
      generalize hexL (natI (a.take i)) = H at *
      generalize hexc d = hx at *
      generalize hexc e = hy at *
      have hw1 := Lib.hid (bldByte_any (w.heap.size + 1) (w.heap.size + 1) _ (hx.toNat : Nat) wr (.inr hB.out) (by simp [Lib.byteCells]; omega) hws)
      have hd255 : (d : Int) < 256 := by omega
      have he255 : (e : Int) < 256 := by omega
      clear hd he hcl hlt2
      replace htk := Lib.hid htk
      go_wp2_with (first
        | (go_at_call 51; (with_reducible refine hw1.out.mono ?_); rintro e2 w2 ⟨rfl, hB2, hb2⟩; have hq2 := hb.out.trans hb2; have hw2 := Lib.hid (bldByte_any (w.heap.size + 1) (w.heap.size + 1) _ (hy.toNat : Nat) w2 (.inr hB2) (by simp [Lib.byteCells]; omega) (Nat.le_trans hws hb2.size)); replace hq2 := Lib.hid hq2; clear hw1)
        | (go_at_call 51; (with_reducible refine hw2.out.mono ?_); rintro e3 w3 ⟨rfl, hB3, hb3⟩; have hq3 := Lib.hid (hq2.out.trans hb3); replace hB3 := Lib.hid hB3; clear hw2))
      go_roundw
      case rel => exact ⟨i + 1, by omega, by go_num, Lib.hid (by rw [htk.out]; simpa [Lib.byteCells] using hB3.out), hq3⟩
      case measure => simp [intOf] <;> omega
    · obtain rfl : i = 20 := by omega
      have hfin : Hid (Bld (w.heap.size + 1) (w.heap.size + 1) (Lib.byteCells (hexN a)) wr) := Lib.hid (by
        have := hB.out
        rw [List.take_of_length_le (by rw [ha.out.len]; exact Nat.le_refl _)] at this
        exact .inr this)
      have hst := Lib.hid (Tryz.Builder_String (w.heap.size + 1) (w.heap.size + 1) (hexN a) wr hfin.out (by unfold hexN; simp))
      clear hlt hB hfin
      go_wp2_with (go_at_call 52; refine hst.out.mono ?_; rintro e2 w2 ⟨rfl, hb2⟩)
      go_ret
      exact ⟨rfl, xtrans hbA2.out (Below.mono (hb.out.trans hb2) (by rw [World.size_alloc]; exact Nat.le_refl _))⟩
end Go.Proofs.YthpallkphamobaaGreatDoor
namespace Go.Proofs.YthpallkphamobaaGreatDoor
open Go.RowKit

theorem hex_cut (d : Nat) (hd : d < 16) (W : World) : (Instr.slice 9 (.string { data := #[48, 49, 50, 51, 52, 53, 54, 55, 56, 57, 97, 98, 99, 100, 101, 102] }) (some (.int .u8 (d : Int))) (some (.int .u8 ((d : Int) + 1))) none).run Tryz.prog W = .ok (.string (({ data := #[48, 49, 50, 51, 52, 53, 54, 55, 56, 57, 97, 98, 99, 100, 101, 102] } : ByteArray).extract d (d + 1))) W := by
  have h := run_slice_string (P := Tryz.prog) W 9 { data := #[48, 49, 50, 51, 52, 53, 54, 55, 56, 57, 97, 98, 99, 100, 101, 102] } .u8 .u8 (d : Int) ((d : Int) + 1) Tryz.underlying9 (by omega) (by omega) (by show (d : Int) + 1 ≤ ((16 : Nat) : Int); omega)
  rw [h]
  congr 4
end Go.Proofs.YthpallkphamobaaGreatDoor
namespace Go.Proofs.YthpallkphamobaaGreatDoor
open Go.RowKit Go.Shelf

set_option maxRecDepth 100000 in
set_option maxHeartbeats 4000000 in
theorem refName_any (a : List Nat) (ha : Adr a) (w : World) :
    Calls Tryz.prog 23 #[adrV a] w fun e w' => e = .returned (.string ⟨(hexN a).toArray⟩) ∧ Below w.heap.size w w' := by
  have hbA : Below w.heap.size w (w.alloc (.cells (adrC a).toArray 29)) := xalloc (xrefl w) _
  have hAr := Lib.hid (BlkG.new w 29 (adrC a))
  replace hbA := Lib.hid hbA
  replace ha := Lib.hid ha
  unfold adrV
  go_enter Tryz.func23, Tryz.ntmps23
  go_wp2
  go_loopw [3, 4] (fun s i wx => ∃ k : Nat, k ≤ 20 ∧ i = .int .i64 k ∧ s = .string ⟨([48, 120] ++ hexL (natI (a.take k))).toArray⟩ ∧ Hid (Below (w.alloc (.cells (adrC a).toArray 29)).heap.size (w.alloc (.cells (adrC a).toArray 29)) wx)) (fun _ i _ => 20 - (intOf i).toNat)
  case atStart => exact ⟨0, by omega, rfl, rfl, Lib.hid (xrefl _)⟩
  case round =>
    obtain ⟨k, hk, rfl, rfl, hb⟩ := hrel
    by_cases hlt : k < 20
    · have hk3 : k < a.length := by rw [ha.out.len]; exact hlt
      obtain ⟨n0, hn0, hn256, hn1⟩ := ha.out.get hlt
      have hc := cbel hb.out (blk_cell hAr.out hn1)
      have htk : hexL (natI (a.take (k + 1))) = hexL (natI (a.take k)) ++ [hexc (n0 / 16), hexc (n0 % 16)] := by
        rw [List.getElem?_eq_getElem hk3] at hn0
        cases hn0
        rw [List.take_succ_eq_append_getElem hk3, hexL_app, hexL_cons, hexL_nil]
      clear hn0 hn1
      obtain ⟨x, hx⟩ : ∃ x, x = n0 / 16 := ⟨_, rfl⟩
      obtain ⟨y, hy⟩ : ∃ y, y = n0 % 16 := ⟨_, rfl⟩
      have hx16 : x < 16 := by omega
      have hy16 : y < 16 := by omega
      rw [← hx, ← hy] at htk
      replace htk := Lib.hid htk
      have hlen : (hexL (natI (a.take k))).length ≤ 2000000 := by rw [hexL_len, natI_len, List.length_take]; omega
      generalize hexL (natI (a.take k)) = t at *
      have e1 : (n0 : Int) / 16 = (x : Int) := by omega
      have e2 : (n0 : Int) % 16 = (y : Int) := by omega
      have q1 : IntKind.u8.wrap ((x : Int) + 1) = (x : Int) + 1 := by rw [IntKind.wrap_u8]; omega
      have q2 : IntKind.u8.wrap ((y : Int) + 1) = (y : Int) + 1 := by rw [IntKind.wrap_u8]; omega
      have q7 : IntKind.u8.wrap (x : Int) = (x : Int) := by rw [IntKind.wrap_u8]; omega
      have q8 : IntKind.u8.wrap (y : Int) = (y : Int) := by rw [IntKind.wrap_u8]; omega
      have q3 : (x : Int) + 1 ≤ 16 := by omega
      have q4 : (y : Int) + 1 ≤ 16 := by omega
      have q5 : ((x : Int) + 1).toNat = x + 1 := by omega
      have q6 : ((y : Int) + 1).toNat = y + 1 := by omega
      have r1 := hex_cut x hx16
      have r2 := hex_cut y hy16
      have hk2 : (k : Int) < 20 := by omega
      clear hx hy hk3
      go_upto_region 5 with fail
      go_quiet (fail)
      have hst := Lib.hid (((congrArg (· ++ _) (hex_step (48 :: 120 :: t) x hx16)).trans (hex_step _ y hy16)))
      clear r1 r2 q1 q2 q3 q4 q5 q6 q7 q8 e1 e2
      go_wp2
      refine ⟨⟨k + 1, by omega, rfl, ?_, Lib.hid (xdrewN hb.out nq)⟩, by simp [intOf]; omega⟩
      rw [htk.out]
      exact (congrArg Value.string hst.out).trans (by simp)
    · obtain rfl : k = 20 := by omega
      have hH : [48, 120] ++ hexL (natI (a.take 20)) = hexN a := by rw [List.take_of_length_le (by rw [ha.out.len]; exact Nat.le_refl _)]; rfl
      rw [hH]
      clear hlt hH
      generalize hH : hexN a = H
      replace hH := Lib.hid hH
      go_wp2
      go_ret
      exact ⟨by rw [hH.out]; rfl, xtrans hbA.out hb.out⟩
end Go.Proofs.YthpallkphamobaaGreatDoor
