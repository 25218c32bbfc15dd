/- Texts of this claim, merged; no condition. -/
import Derived.Test.YthpallkphamobaaGreatDoorShelf
import Derived.Lib.AppendIntMem
import Derived.Tactics2
import Derived.Test.YthpallkphamobaaGreatDoorF00
import Derived.Deep.QuietTactic
import Derived.BigQuiet
import Derived.Deep.Cut
import Derived.Test.YthpallkphamobaaGreatDoorF01
import Derived.Test.YthpallkphamobaaGreatDoorF03
import Derived.Lib.Builder
import Derived.Shelf.Strings.Builder1
import Derived.WalkKit
import Derived.Test.YthpallkphamobaaGreatDoorF12
import Derived.Shelf.Strings.SlTrimAscii
set_option linter.all false
namespace Go.Proofs.YthpallkphamobaaGreatDoor
open Go.RowKit Go.Shelf Go.Sort Go.Lib

set_option maxRecDepth 100000 in
set_option maxHeartbeats 4000000 in
theorem fmtI_any (u : Nat) (hu : u < 4294967296) (w : World) (htab : Lib.TabIs Tryz.prog w "internal/strconv.uint64pow10" .u64 Lib.pow10Tab) :
    Calls Tryz.prog 129 #[.int .u64 u, .int .i64 10] w fun e w' => e = .returned (.string ⟨(Lib.decDigits u).toArray⟩) ∧ Below w.heap.size w w' := by
  by_cases hs : u < 100
  · have hsm := Tryz.internal_strconv_small u hs
    have hsI : (u : Int) < 100 := by omega
    go_enter Tryz.func129, Tryz.ntmps129
    go_wp2_with (go_at_call 141; refine (hsm _).mono ?_; rintro e w' ⟨rfl, rfl⟩)
    go_ret
    exact ⟨rfl, xrefl _⟩
  · have hsI : ¬ (u : Int) < 100 := by omega
    have hu1 : 1 ≤ u := by omega
    have hu64 : u < 18446744073709551616 := by omega
    have hnd20 : Lib.nDigits u ≤ 20 := by have := Lib.numDigits_eq u hu1 hu64; split at this <;> omega
    have hb3 : Lib.nDigits u ≤ 24 := by omega
    have hal : Tryz.prog.arrayLen 188 = 24 := by kernel_rfl
    have hel : (sizeOf (Tryz.prog.elem 188)).run Tryz.prog = fun w => .ok 1 w := by funext w; kernel_rfl
    have hsl1 : ∀ W, (Instr.sliceAt 188 (.pointer (some ⟨w.heap.size, 0, none⟩)) none (some (.int .i64 (Lib.nDigits u : Int))) none).run Tryz.prog W = .ok (.slice (some ⟨w.heap.size, 0, none⟩) (Lib.nDigits u) 24) W := fun W => by
      rw [run_sliceAt_array_h W 188 ⟨w.heap.size, 0, none⟩ (by kernel_rfl) .i64 (Lib.nDigits u : Int) (by omega) (by rw [hal]; omega), hel, hal]
      simp [slicedAt, Result.andThen_ok, Lib.add_plain]
    have hH0 := Lib.holds_zero0 w 188 (Lib.nDigits u) (by omega)
    have hfmt := Tryz.internal_strconv_formatBase10 w.heap.size 0 24 u (Array.replicate (Lib.nDigits u) 0) (w.alloc (.cells Lib.zeros24 188)) hH0 (by rw [Array.size_replicate]; exact Lib.lt_pow_nDigits u) hu64 (by rw [Array.size_replicate]; omega)
    rw [Array.size_replicate] at hfmt
    have hnd := Tryz.internal_strconv_numDigits u hu1 hu64 _ (Lib.tabIs_alloc htab (.cells Lib.zeros24 188))
    have HH0 := Lib.hid hH0
    replace hfmt := Lib.hid hfmt
    replace hnd := Lib.hid hnd
    clear hH0 hal hel htab
    go_enter Tryz.func129, Tryz.ntmps129
    go_wp2_with (go_at_call 142; refine hnd.out.mono ?_; rintro e w' ⟨rfl, rfl⟩)
    go_at_call 143
    refine hfmt.out.mono ?_
    rintro e w' ⟨rfl, k, v', dk, rfl, hF⟩
    have hcv : (convert 93 9 (.slice (some ⟨w.heap.size, 0, none⟩) (Lib.nDigits u) 24)).run Tryz.prog ((putRow (fun (b : UInt8) => Value.int .u8 (b.toNat : Int)) (w.alloc (.cells Lib.zeros24 188)) w.heap.size 0 dk).drewN k) = .ok (.string ⟨(Lib.decDigits u).toArray⟩) ((putRow (fun (b : UInt8) => Value.int .u8 (b.toNat : Int)) (w.alloc (.cells Lib.zeros24 188)) w.heap.size 0 dk).drewN k) := by
      have h := run_convert_bytes_back (P := Tryz.prog) ((putRow (fun (b : UInt8) => Value.int .u8 (b.toNat : Int)) (w.alloc (.cells Lib.zeros24 188)) w.heap.size 0 dk).drewN k) 93 9 5 ⟨w.heap.size, 0, none⟩ 24 (Lib.decDigits u) Tryz.underlying93 Tryz.underlying5 Tryz.underlying9 (fun j hj => by
        rw [Lib.row_is_numeral hF j hj, Lib.add_plain, World.cell?_drewN]
        exact cell?_putRow (fun (b : UInt8) => Value.int .u8 (b.toNat : Int)) _ w.heap.size 0 _ dk HH0.out (by rw [hF.size, Array.size_replicate]) j (by rw [hF.size]; rw [Lib.decDigits_length] at hj; exact hj))
      rw [Lib.decDigits_length] at h
      exact h
    have hbw : Below w.heap.size w ((putRow (fun (b : UInt8) => Value.int .u8 (b.toNat : Int)) (w.alloc (.cells Lib.zeros24 188)) w.heap.size 0 dk).drewN k) := by
      obtain ⟨os, eo⟩ := Lib.fin_at w (.cells Lib.zeros24 188) dk k 0
      rw [eo]
      exact Lib.below_grow _ w (Nat.le_refl _) k os
    generalize (putRow (fun (b : UInt8) => Value.int .u8 (b.toNat : Int)) (w.alloc (.cells Lib.zeros24 188)) w.heap.size 0 dk).drewN k = w5 at *
    go_wp2
    go_ret
    exact ⟨rfl, hbw⟩
theorem fmt_any (u : Nat) (hu : u < 4294967296) (w : World) (htab : Lib.TabIs Tryz.prog w "internal/strconv.uint64pow10" .u64 Lib.pow10Tab) :
    Calls Tryz.prog 106 #[.int .u64 u, .int .i64 10] w fun e w' => e = .returned (.string ⟨(Lib.decDigits u).toArray⟩) ∧ Below w.heap.size w w' := by
  have h := Lib.hid (fmtI_any u hu w htab)
  clear htab
  go_enter Tryz.func106, Tryz.ntmps106
  go_wp2_with (go_at_call 129; refine h.out.mono ?_; rintro e w' ⟨rfl, hb⟩)
  go_ret
  exact ⟨rfl, hb⟩
end Go.Proofs.YthpallkphamobaaGreatDoor
namespace Go.Proofs.YthpallkphamobaaGreatDoor
open Go.RowKit

theorem hex_cut (d : Nat) (hd : d < 16) (W : World) : (Instr.slice 9 (.string { data := #[48, 49, 50, 51, 52, 53, 54, 55, 56, 57, 97, 98, 99, 100, 101, 102] }) (some (.int .u8 (d : Int))) (some (.int .u8 ((d : Int) + 1))) none).run Tryz.prog W = .ok (.string (({ data := #[48, 49, 50, 51, 52, 53, 54, 55, 56, 57, 97, 98, 99, 100, 101, 102] } : ByteArray).extract d (d + 1))) W := by
  have h := run_slice_string (P := Tryz.prog) W 9 { data := #[48, 49, 50, 51, 52, 53, 54, 55, 56, 57, 97, 98, 99, 100, 101, 102] } .u8 .u8 (d : Int) ((d : Int) + 1) Tryz.underlying9 (by omega) (by omega) (by show (d : Int) + 1 ≤ ((16 : Nat) : Int); omega)
  rw [h]
  congr 4
end Go.Proofs.YthpallkphamobaaGreatDoor
namespace Go.Proofs.YthpallkphamobaaGreatDoor
open Go.RowKit Go.Shelf

set_option maxRecDepth 100000 in
set_option maxHeartbeats 4000000 in
theorem refName_any (a : List Nat) (ha : Adr a) (w : World) :
    Calls Tryz.prog 23 #[adrV a] w fun e w' => e = .returned (.string ⟨(hexN a).toArray⟩) ∧ Below w.heap.size w w' := by
  have hbA : Below w.heap.size w (w.alloc (.cells (adrC a).toArray 29)) := xalloc (xrefl w) _
  have hAr := Lib.hid (BlkG.new w 29 (adrC a))
  replace hbA := Lib.hid hbA
  replace ha := Lib.hid ha
  unfold adrV
  go_enter Tryz.func23, Tryz.ntmps23
  go_wp2
  go_loopw [3, 4] (fun s i wx => ∃ k : Nat, k ≤ 20 ∧ i = .int .i64 k ∧ s = .string ⟨([48, 120] ++ hexL (natI (a.take k))).toArray⟩ ∧ Hid (Below (w.alloc (.cells (adrC a).toArray 29)).heap.size (w.alloc (.cells (adrC a).toArray 29)) wx)) (fun _ i _ => 20 - (intOf i).toNat)
  case atStart => exact ⟨0, by omega, rfl, rfl, Lib.hid (xrefl _)⟩
  case round =>
    obtain ⟨k, hk, rfl, rfl, hb⟩ := hrel
    by_cases hlt : k < 20
    · have hk3 : k < a.length := by rw [ha.out.len]; exact hlt
      obtain ⟨n0, hn0, hn256, hn1⟩ := ha.out.get hlt
      have hc := cbel hb.out (blk_cell hAr.out hn1)
      have htk : hexL (natI (a.take (k + 1))) = hexL (natI (a.take k)) ++ [hexc (n0 / 16), hexc (n0 % 16)] := by
        rw [List.getElem?_eq_getElem hk3] at hn0
        cases hn0
        rw [List.take_succ_eq_append_getElem hk3, hexL_app, hexL_cons, hexL_nil]
      clear hn0 hn1
      obtain ⟨x, hx⟩ : ∃ x, x = n0 / 16 := ⟨_, rfl⟩
      obtain ⟨y, hy⟩ : ∃ y, y = n0 % 16 := ⟨_, rfl⟩
      have hx16 : x < 16 := by omega
      have hy16 : y < 16 := by omega
      rw [← hx, ← hy] at htk
      replace htk := Lib.hid htk
      have hlen : (hexL (natI (a.take k))).length ≤ 2000000 := by rw [hexL_len, natI_len, List.length_take]; omega
      generalize hexL (natI (a.take k)) = t at *
      have e1 : (n0 : Int) / 16 = (x : Int) := by omega
      have e2 : (n0 : Int) % 16 = (y : Int) := by omega
      have q1 : IntKind.u8.wrap ((x : Int) + 1) = (x : Int) + 1 := by rw [IntKind.wrap_u8]; omega
      have q2 : IntKind.u8.wrap ((y : Int) + 1) = (y : Int) + 1 := by rw [IntKind.wrap_u8]; omega
      have q7 : IntKind.u8.wrap (x : Int) = (x : Int) := by rw [IntKind.wrap_u8]; omega
      have q8 : IntKind.u8.wrap (y : Int) = (y : Int) := by rw [IntKind.wrap_u8]; omega
      have q3 : (x : Int) + 1 ≤ 16 := by omega
      have q4 : (y : Int) + 1 ≤ 16 := by omega
      have q5 : ((x : Int) + 1).toNat = x + 1 := by omega
      have q6 : ((y : Int) + 1).toNat = y + 1 := by omega
      have r1 := hex_cut x hx16
      have r2 := hex_cut y hy16
      have hk2 : (k : Int) < 20 := by omega
      clear hx hy hk3
      go_upto_region 5 with fail
      go_quiet (fail)
      have hst := Lib.hid (((congrArg (· ++ _) (hex_step (48 :: 120 :: t) x hx16)).trans (hex_step _ y hy16)))
      clear r1 r2 q1 q2 q3 q4 q5 q6 q7 q8 e1 e2
      go_wp2
      refine ⟨⟨k + 1, by omega, rfl, ?_, Lib.hid (xdrewN hb.out nq)⟩, by simp [intOf]; omega⟩
      rw [htk.out]
      exact (congrArg Value.string hst.out).trans (by simp)
    · obtain rfl : k = 20 := by omega
      have hH : [48, 120] ++ hexL (natI (a.take 20)) = hexN a := by rw [List.take_of_length_le (by rw [ha.out.len]; exact Nat.le_refl _)]; rfl
      rw [hH]
      clear hlt hH
      generalize hH : hexN a = H
      replace hH := Lib.hid hH
      go_wp2
      go_ret
      exact ⟨by rw [hH.out]; rfl, xtrans hbA.out hb.out⟩
end Go.Proofs.YthpallkphamobaaGreatDoor
namespace Go.Proofs.YthpallkphamobaaGreatDoor
open Go.RowKit Go.Shelf

def digI (c : Nat) : Int := match digO (UInt8.ofNat c) with | some d => (d : Int) | none => -1
theorem run_at_str (l : List UInt8) (j : Nat) (h : j < l.length) (W : World) : (Instr.index 9 (.string ⟨l.toArray⟩) (.int .i64 j)).run Tryz.prog W = .ok (.int .u8 (l[j].toNat : Nat)) W := by
  rw [run_index_string W 9 ⟨l.toArray⟩ .i64 j Tryz.underlying9]
  have hs : (⟨l.toArray⟩ : ByteArray).size = l.length := by show l.toArray.size = _; simp
  rw [dif_pos ⟨by omega, by rw [hs]; omega⟩]
  rfl
theorem digI_some {c : UInt8} {d : Nat} (h : digO c = some d) : digI c.toNat = d := by unfold digI; rw [show UInt8.ofNat c.toNat = c by simp, h]
theorem dig_lt {c : UInt8} {d : Nat} (h : digO c = some d) : d < 16 := (dig_some h).1
def digS : List UInt8 := [48, 49, 50, 51, 52, 53, 54, 55, 56, 57, 97, 98, 99, 100, 101, 102]
theorem dig_in' : ∀ n : Fin 256, (digO (UInt8.ofNat n.1)).isSome = digS.contains (UInt8.ofNat n.1) := by decide +kernel
theorem dig_idx' : ∀ n : Fin 256, Lib.indexByte digS (UInt8.ofNat n.1) = digI n.1 := by decide +kernel
theorem dig_in (c : UInt8) : (digO c).isSome = digS.contains c := by
  have := dig_in' ⟨c.toNat, UInt8.toNat_lt c⟩
  simpa using this
theorem dig_idx (c : UInt8) : Lib.indexByte digS c = digI c.toNat := by
  have := dig_idx' ⟨c.toNat, UInt8.toNat_lt c⟩
  simpa using this
theorem drop_all {α : Type} (p : α → Bool) : ∀ l : List α, l.dropWhile p = [] ↔ ∀ x ∈ l, p x = true
  | [] => by simp
  | a :: l => by
    rw [List.dropWhile_cons]
    cases h : p a with
    | true => simp only [if_true, drop_all p l]; simp [h]
    | false => simp [h]
theorem drop_head {α : Type} (p : α → Bool) : ∀ l : List α, (∀ x ∈ l.dropWhile p, p x = true) → l.dropWhile p = []
  | [], _ => rfl
  | a :: l, h => by
    rw [List.dropWhile_cons] at h ⊢
    cases ha : p a with
    | true =>
      rw [ha] at h
      simp only [if_true] at h ⊢
      exact drop_head p l h
    | false =>
      rw [ha] at h
      exact absurd (h a (by simp)) (by rw [ha]; decide)
theorem trim_all (l cs : List UInt8) : Lib.trimS l cs = [] ↔ ∀ x ∈ l, cs.contains x = true := by
  unfold Lib.trimS Lib.trimLeftS Lib.trimRightS
  rw [drop_all]
  constructor
  · intro h
    have h2 := drop_head (fun x => cs.contains x) l.reverse fun x hx => h x (by simpa using hx)
    rw [drop_all] at h2
    exact fun x hx => h2 x (by simpa using hx)
  · intro h
    have h2 : l.reverse.dropWhile (fun x => cs.contains x) = [] := (drop_all _ _).2 fun x hx => h x (by simpa using hx)
    rw [h2]
    simp
theorem unhexP_get : ∀ {l : List UInt8} {us : List Nat}, unhexP l = some us → ∀ i (h : i < us.length), ∃ (a b : UInt8) (x y : Nat), l[2 * i]? = some a ∧ l[2 * i + 1]? = some b ∧ digO a = some x ∧ digO b = some y ∧ us[i] = 16 * x + y
  | [], us, h, i, hi => by cases h; simp at hi
  | [_], us, h, i, hi => by cases h
  | a :: b :: l, us, h, i, hi => by
    rw [unhexP] at h
    cases h1 : digO a with
    | none => rw [h1] at h; cases h
    | some x => cases h2 : digO b with
      | none => rw [h1, h2] at h; cases h
      | some y => cases h3 : unhexP l with
        | none => rw [h1, h2, h3] at h; cases h
        | some r =>
          rw [h1, h2, h3] at h
          cases h
          cases i with
          | zero => exact ⟨a, b, x, y, rfl, rfl, h1, h2, rfl⟩
          | succ i =>
            obtain ⟨a', b', x', y', e1, e2, e3, e4, e5⟩ := unhexP_get h3 i (by simpa using hi)
            refine ⟨a', b', x', y', ?_, ?_, e3, e4, by simpa using e5⟩
            · rw [show 2 * (i + 1) = 2 * i + 1 + 1 by omega]; simpa using e1
            · rw [show 2 * (i + 1) + 1 = 2 * i + 1 + 1 + 1 by omega]; simpa using e2
theorem unhexP_all : ∀ (m : Nat) (l : List UInt8), l.length = 2 * m → (∀ x ∈ l, digS.contains x = true) → ∃ us, unhexP l = some us ∧ us.length = m
  | 0, l, h, _ => by
    have : l = [] := List.length_eq_zero_iff.1 (by omega)
    subst this
    exact ⟨[], rfl, rfl⟩
  | m + 1, a :: b :: l, h, ha => by
    obtain ⟨us, h1, h2⟩ := unhexP_all m l (by simp at h; omega) fun x hx => ha x (by simp [hx])
    have e1 := ha a (by simp)
    have e2 := ha b (by simp)
    rw [← dig_in] at e1 e2
    obtain ⟨x, hx⟩ := Option.isSome_iff_exists.1 e1
    obtain ⟨y, hy⟩ := Option.isSome_iff_exists.1 e2
    exact ⟨_, by rw [unhexP, hx, hy, h1], by simp [h2]⟩
  | m + 1, [], h, _ => by simp at h
  | m + 1, [_], h, _ => by simp at h; omega
theorem unhexP_dig {l : List UInt8} {us : List Nat} (h : unhexP l = some us) : ∀ x ∈ l, digS.contains x = true := by
  intro c hc
  obtain ⟨h1, h2, h3⟩ := unhexP_some h
  obtain ⟨j, hj, rfl⟩ := List.getElem_of_mem hc
  obtain ⟨a, b, x, y, e1, e2, e3, e4, -⟩ := unhexP_get h (j / 2) (by omega)
  rw [← dig_in]
  rcases Nat.mod_two_eq_zero_or_one j with h0 | h0
  · rw [show 2 * (j / 2) = j by omega, List.getElem?_eq_getElem hj] at e1
    rw [Option.some.inj e1, e3]; rfl
  · rw [show 2 * (j / 2) + 1 = j by omega, List.getElem?_eq_getElem hj] at e2
    rw [Option.some.inj e2, e4]; rfl
/-- So many bytes of a word. -/
def bytesO (x : List UInt8) (m : Nat) : Option (List Nat) := match unhexN x with
  | none => none
  | some us => if us.length = m then some us else none
/-- The program's three conditions. -/
theorem bytes_iff (x : List UInt8) (m : Nat) (us : List Nat) : bytesO x m = some us ↔ ∃ l, x = 48 :: 120 :: l ∧ l.length = 2 * m ∧ (∀ c ∈ l, digS.contains c = true) ∧ unhexP l = some us := by
  constructor
  · intro h
    unfold bytesO unhexN at h
    split at h
    · cases h
    · rename_i us' hu
      split at hu
      · rename_i l
        split at h
        · rename_i hm
          cases h
          have := (unhexP_some hu).2.2
          exact ⟨l, rfl, by omega, unhexP_dig hu, hu⟩
        · cases h
      · cases hu
  · rintro ⟨l, rfl, h1, h2, h3⟩
    have := (unhexP_some h3).2.2
    unfold bytesO
    show (match unhexP l with | none => none | some us => if us.length = m then some us else none) = some us
    rw [h3]
    dsimp only
    rw [if_pos (by omega)]
theorem bytes_none {x : List UInt8} {m : Nat} (h : bytesO x m = none) {l : List UInt8} (e : x = 48 :: 120 :: l) (hl : l.length = 2 * m) : ¬ ∀ c ∈ l, digS.contains c = true := fun ha => by
  obtain ⟨us, h1, h2⟩ := unhexP_all m l hl ha
  have := (bytes_iff x m us).2 ⟨l, e, hl, ha, h1⟩
  rw [h] at this; cases this
theorem trim_any (l : List UInt8) (w : World) (hl : l.length ≤ 4194304) : Calls Tryz.prog 47 #[.string ⟨l.toArray⟩, .string ⟨#[48, 49, 50, 51, 52, 53, 54, 55, 56, 57, 97, 98, 99, 100, 101, 102]⟩] w fun e w' => e = .returned (.string ⟨(Lib.trimS l digS).toArray⟩) ∧ Below w.heap.size w w' :=
  Any.strings_Trim_laid Tryz.lays160 (by kernel_rfl) ⟨l.toArray⟩ ⟨digS.toArray⟩ w (by show l.toArray.size ≤ _; simp; omega) (by decide) (ascii_of_all (by decide))
theorem or_fin : ∀ x y : Fin 16, IntKind.u8.wrap (bits .or .i64 (IntKind.i64.wrap ((x.1 : Int) * 16)) (y.1 : Int)) = ((16 * x.1 + y.1 : Nat) : Int) := by decide +kernel
theorem cut_any (x : List UInt8) (w : World) : Calls Tryz.prog 46 #[.string ⟨x.toArray⟩, .string ⟨#[48, 120]⟩] w fun e w' => e = .returned (.tuple #[.string ⟨(Lib.trimPrefix x [48, 120]).toArray⟩, .bool (Lib.hasPrefix x [48, 120])]) ∧ w = w' :=
  (Tryz.strings_CutPrefix ⟨x.toArray⟩ ⟨#[48, 120]⟩ w).mono fun e w' h => ⟨h.1, h.2.symm⟩
theorem idx_any (c : UInt8) (w : World) : Calls Tryz.prog 48 #[.string ⟨#[48, 49, 50, 51, 52, 53, 54, 55, 56, 57, 97, 98, 99, 100, 101, 102]⟩, .int .u8 (c.toNat : Nat)] w fun e w' => e = .returned (.int .i64 (digI c.toNat)) ∧ w = w' := by
  refine (Tryz.strings_IndexByte ⟨digS.toArray⟩ (c.toNat : Nat) w).mono fun e w' h => ⟨?_, h.2.symm⟩
  rw [h.1]
  have e1 : ((c.toNat : Nat) : Int).toNat.toUInt8 = c := by simp
  rw [e1]
  exact congrArg (fun i => Ending.returned (Value.int .i64 i)) (dig_idx c)
theorem pre_yes {x : List UInt8} (h : Lib.hasPrefix x [48, 120] = true) : ∃ l, x = 48 :: 120 :: l ∧ Lib.trimPrefix x [48, 120] = l := by
  match x, h with
  | a :: b :: l, h =>
    have h' := h
    simp [Lib.hasPrefix] at h'
    obtain ⟨rfl, rfl⟩ := h'
    exact ⟨l, rfl, by unfold Lib.trimPrefix; rw [if_pos h]; rfl⟩
  | [], h => simp [Lib.hasPrefix] at h
  | [_], h => simp [Lib.hasPrefix] at h
end Go.Proofs.YthpallkphamobaaGreatDoor
namespace Go.Proofs.YthpallkphamobaaGreatDoor
open Go.RowKit Go.Shelf

def zAdr : List Nat := [0, 0, 0, 0, 0, 0, 0, 0, 0, 0, 0, 0, 0, 0, 0, 0, 0, 0, 0, 0]
def zAdrC : List Value := [.int .u8 0, .int .u8 0, .int .u8 0, .int .u8 0, .int .u8 0, .int .u8 0, .int .u8 0, .int .u8 0, .int .u8 0, .int .u8 0, .int .u8 0, .int .u8 0, .int .u8 0, .int .u8 0, .int .u8 0, .int .u8 0, .int .u8 0, .int .u8 0, .int .u8 0, .int .u8 0]
theorem zAdrC_eq : adrC zAdr = zAdrC := rfl
theorem addrF_bytes (s : List UInt8) : addrF s = bytesO s 20 := by
  unfold addrF bytesO
  cases unhexN s <;> rfl
set_option maxRecDepth 100000 in
set_option maxHeartbeats 8000000 in
theorem address_fail (x : List UInt8) (w : World) (hx : x.length ≤ 4194304) (h : addrF x = none) :
    Calls Tryz.prog 18 #[.string ⟨x.toArray⟩] w fun e w' => e = .returned (.tuple #[.agg zAdrC.toArray, .int .i64 190]) ∧ Below w.heap.size w w' := by
  have hB : BlkG (w.alloc (.cells zAdrC.toArray 29)) w.heap.size 29 zAdrC := BlkG.new w _ _
  have hb0 : Below w.heap.size w (w.alloc (.cells zAdrC.toArray 29)) := xalloc (xrefl w) _
  unfold zAdrC at hB hb0 ⊢
  have hct := Lib.hid fun W => cut_any x W
  rw [addrF_bytes] at h
  replace hB := Lib.hid hB
  replace hb0 := Lib.hid hb0
  cases hp : Lib.hasPrefix x [48, 120] with
  | false =>
    rw [hp] at hct
    clear h hp hx
    go_enter Tryz.func18, Tryz.ntmps18
    go_upto_region 1 with fail
    generalize w.alloc (.cells #[.int .u8 0, .int .u8 0, .int .u8 0, .int .u8 0, .int .u8 0, .int .u8 0, .int .u8 0, .int .u8 0, .int .u8 0, .int .u8 0, .int .u8 0, .int .u8 0, .int .u8 0, .int .u8 0, .int .u8 0, .int .u8 0, .int .u8 0, .int .u8 0, .int .u8 0, .int .u8 0] 29) = w0 at *
    go_wp2_with (first
      | (go_at_call 46; refine (hct.out _).mono ?_; rintro e w2 ⟨rfl, rfl⟩)
      | (refine wpList_load_mid rfl 29 _ rfl w.heap.size 0 rfl [.int .u8 0, .int .u8 0, .int .u8 0, .int .u8 0, .int .u8 0, .int .u8 0, .int .u8 0, .int .u8 0, .int .u8 0, .int .u8 0, .int .u8 0, .int .u8 0, .int .u8 0, .int .u8 0, .int .u8 0, .int .u8 0, .int .u8 0, .int .u8 0, .int .u8 0, .int .u8 0] _ (BlkG.range hB.out) Tryz.underlying29 rfl (by kernel_rfl) ?_)
      | (refine wpList_store_blkG rfl 29 _ _ rfl w.heap.size rfl 29 [.int .u8 0, .int .u8 0, .int .u8 0, .int .u8 0, .int .u8 0, .int .u8 0, .int .u8 0, .int .u8 0, .int .u8 0, .int .u8 0, .int .u8 0, .int .u8 0, .int .u8 0, .int .u8 0, .int .u8 0, .int .u8 0, .int .u8 0, .int .u8 0, .int .u8 0, .int .u8 0] [.int .u8 0, .int .u8 0, .int .u8 0, .int .u8 0, .int .u8 0, .int .u8 0, .int .u8 0, .int .u8 0, .int .u8 0, .int .u8 0, .int .u8 0, .int .u8 0, .int .u8 0, .int .u8 0, .int .u8 0, .int .u8 0, .int .u8 0, .int .u8 0, .int .u8 0, .int .u8 0] hB.out rfl rfl (by kernel_rfl) (by decide) ?_; intro w3 hB3 ho3; have hb3 := Lib.hid (ho3.below hb0.out (Below.size hb0.out) (by rintro k rfl; exact Nat.le_refl _)); replace hB3 := Lib.hid hB3; clear ho3)
    )
    exact bodyPost_ret (results_blkG2 (p := 2) rfl _ _ w.heap.size 29 _ _ rfl hB3.out Tryz.underlying29 rfl (by kernel_rfl)) rfl ⟨rfl, hb3.out⟩
  | true =>
    rw [hp] at hct
    obtain ⟨l, rfl, hl⟩ := pre_yes hp
    rw [hl] at hct
    have hsz : (⟨l.toArray⟩ : ByteArray).size = l.length := by show l.toArray.size = _; simp
    by_cases h40 : l.length = 40
    · have hno := bytes_none h rfl h40
      have hne : Lib.trimS l digS ≠ [] := fun e => hno ((trim_all l digS).1 e)
      have htr := Lib.hid fun W => trim_any l W (by omega)
      generalize Lib.trimS l digS = t at *
      have hte : t.isEmpty = false := by cases t with
        | nil => exact absurd rfl hne
        | cons _ _ => rfl
      have h40I : (l.length : Int) = 40 := by omega
      clear h hp hx hno hne h40 hl
      go_enter Tryz.func18, Tryz.ntmps18
      go_upto_region 1 with fail
      generalize w.alloc (.cells #[.int .u8 0, .int .u8 0, .int .u8 0, .int .u8 0, .int .u8 0, .int .u8 0, .int .u8 0, .int .u8 0, .int .u8 0, .int .u8 0, .int .u8 0, .int .u8 0, .int .u8 0, .int .u8 0, .int .u8 0, .int .u8 0, .int .u8 0, .int .u8 0, .int .u8 0, .int .u8 0] 29) = w0 at *
      go_wp2_with (first
      | (go_at_call 46; refine (hct.out _).mono ?_; rintro e w2 ⟨rfl, rfl⟩)
      | (go_at_call 47; refine (htr.out _).mono ?_; rintro e w2 ⟨rfl, hb2⟩; have hB2 := Lib.hid (hB.out.below hb2); replace hb2 := Lib.hid (xtrans hb0.out hb2))
      | (refine wpList_load_mid rfl 29 _ rfl w.heap.size 0 rfl [.int .u8 0, .int .u8 0, .int .u8 0, .int .u8 0, .int .u8 0, .int .u8 0, .int .u8 0, .int .u8 0, .int .u8 0, .int .u8 0, .int .u8 0, .int .u8 0, .int .u8 0, .int .u8 0, .int .u8 0, .int .u8 0, .int .u8 0, .int .u8 0, .int .u8 0, .int .u8 0] _ (BlkG.range hB2.out) Tryz.underlying29 rfl (by kernel_rfl) ?_)
      | (refine wpList_store_blkG rfl 29 _ _ rfl w.heap.size rfl 29 [.int .u8 0, .int .u8 0, .int .u8 0, .int .u8 0, .int .u8 0, .int .u8 0, .int .u8 0, .int .u8 0, .int .u8 0, .int .u8 0, .int .u8 0, .int .u8 0, .int .u8 0, .int .u8 0, .int .u8 0, .int .u8 0, .int .u8 0, .int .u8 0, .int .u8 0, .int .u8 0] [.int .u8 0, .int .u8 0, .int .u8 0, .int .u8 0, .int .u8 0, .int .u8 0, .int .u8 0, .int .u8 0, .int .u8 0, .int .u8 0, .int .u8 0, .int .u8 0, .int .u8 0, .int .u8 0, .int .u8 0, .int .u8 0, .int .u8 0, .int .u8 0, .int .u8 0, .int .u8 0] hB2.out rfl rfl (by kernel_rfl) (by decide) ?_; intro w3 hB3 ho3; have hb3 := Lib.hid (ho3.below hb2.out (Below.size hb2.out) (by rintro k rfl; exact Nat.le_refl _)); replace hB3 := Lib.hid hB3; clear ho3)
      )
      exact bodyPost_ret (results_blkG2 (p := 2) rfl _ _ w.heap.size 29 _ _ rfl hB3.out Tryz.underlying29 rfl (by kernel_rfl)) rfl ⟨rfl, hb3.out⟩
    · have h40I : ¬ (l.length : Int) = 40 := by omega
      clear h hp hx h40 hl
      go_enter Tryz.func18, Tryz.ntmps18
      go_upto_region 1 with fail
      generalize w.alloc (.cells #[.int .u8 0, .int .u8 0, .int .u8 0, .int .u8 0, .int .u8 0, .int .u8 0, .int .u8 0, .int .u8 0, .int .u8 0, .int .u8 0, .int .u8 0, .int .u8 0, .int .u8 0, .int .u8 0, .int .u8 0, .int .u8 0, .int .u8 0, .int .u8 0, .int .u8 0, .int .u8 0] 29) = w0 at *
      go_wp2_with (first
      | (go_at_call 46; refine (hct.out _).mono ?_; rintro e w2 ⟨rfl, rfl⟩)
      | (refine wpList_load_mid rfl 29 _ rfl w.heap.size 0 rfl [.int .u8 0, .int .u8 0, .int .u8 0, .int .u8 0, .int .u8 0, .int .u8 0, .int .u8 0, .int .u8 0, .int .u8 0, .int .u8 0, .int .u8 0, .int .u8 0, .int .u8 0, .int .u8 0, .int .u8 0, .int .u8 0, .int .u8 0, .int .u8 0, .int .u8 0, .int .u8 0] _ (BlkG.range hB.out) Tryz.underlying29 rfl (by kernel_rfl) ?_)
      | (refine wpList_store_blkG rfl 29 _ _ rfl w.heap.size rfl 29 [.int .u8 0, .int .u8 0, .int .u8 0, .int .u8 0, .int .u8 0, .int .u8 0, .int .u8 0, .int .u8 0, .int .u8 0, .int .u8 0, .int .u8 0, .int .u8 0, .int .u8 0, .int .u8 0, .int .u8 0, .int .u8 0, .int .u8 0, .int .u8 0, .int .u8 0, .int .u8 0] [.int .u8 0, .int .u8 0, .int .u8 0, .int .u8 0, .int .u8 0, .int .u8 0, .int .u8 0, .int .u8 0, .int .u8 0, .int .u8 0, .int .u8 0, .int .u8 0, .int .u8 0, .int .u8 0, .int .u8 0, .int .u8 0, .int .u8 0, .int .u8 0, .int .u8 0, .int .u8 0] hB.out rfl rfl (by kernel_rfl) (by decide) ?_; intro w3 hB3 ho3; have hb3 := Lib.hid (ho3.below hb0.out (Below.size hb0.out) (by rintro k rfl; exact Nat.le_refl _)); replace hB3 := Lib.hid hB3; clear ho3)
      )
      exact bodyPost_ret (results_blkG2 (p := 2) rfl _ _ w.heap.size 29 _ _ rfl hB3.out Tryz.underlying29 rfl (by kernel_rfl)) rfl ⟨rfl, hb3.out⟩
end Go.Proofs.YthpallkphamobaaGreatDoor
