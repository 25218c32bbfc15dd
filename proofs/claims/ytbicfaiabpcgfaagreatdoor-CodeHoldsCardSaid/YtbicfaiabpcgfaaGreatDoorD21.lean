/- Texts of this claim, merged; no condition. -/
import Derived.Tactics2
import Derived.Defers
import Derived.Recover
import Derived.RowKit3
import Derived.Test.YtbicfaiabpcgfaaGreatDoorD20
import Derived.Shelf.Strings.SlTrimAscii
import Derived.Test.YtbicfaiabpcgfaaGreatDoorD02
import Derived.Test.YtbicfaiabpcgfaaGreatDoorD11
set_option linter.all false
namespace Go.Proofs.YtbicfaiabpcgfaaGreatDoor
open Go.RowKit Go.Shelf

/-- What is given up with. -/
def errP (n : Nat) : List PanicEntry := [{ v := .iface 40 (.int .i64 n), recovered := false }]
def errD (n : Nat) : List PanicEntry := (errP n).map fun e => { e with recovered := true }
theorem mustC_true (n : Nat) (w : World) : Calls Tryz.prog 40 #[.bool true, .int .i64 n] w fun e w' => e = .returned (.tuple #[]) ∧ w = w' := by
  go_enter Tryz.func40, Tryz.ntmps40
  go_wp2
  go_end0
  exact ⟨rfl, rfl⟩
theorem mustC_false (n : Nat) (w : World) : Calls Tryz.prog 40 #[.bool false, .int .i64 n] w fun e w' => e = .panicked (errP n) ∧ w = w' := by
  go_enter Tryz.func40, Tryz.ntmps40
  go_wp2
  exact ⟨rfl, rfl, rfl⟩
theorem clear_any (po : Addr) (v : Value) (w : World) (hc : w.cell? po = some v) (hz : w.frozen? po = false) :
    Calls Tryz.prog 39 #[.pointer (some po)] w fun e w' => e = .returned (.tuple #[]) ∧ w.setCell po (.slice none 0 0) = w' := by
  go_enter Tryz.func39, Tryz.ntmps39
  go_wp2
  go_end0
  exact ⟨rfl, rfl⟩
set_option maxRecDepth 100000 in
set_option maxHeartbeats 4000000 in
theorem caught_panicking (pe po : Addr) (n : Nat) (v1 v2 : Value) (w : World) (hc : w.cell? pe = some v1) (hz : w.frozen? pe = false) (hc2 : (w.setCell pe (.int .i64 n)).cell? po = some v2) (hz2 : (w.setCell pe (.int .i64 n)).frozen? po = false) :
    CallsD Tryz.prog 38 #[.pointer (some pe), .func (.func 39) #[] #[.pointer (some po)]] (.panicking (errP n)) w fun e u' w' =>
      e = .returned (.tuple #[]) ∧ u' = .panicking (errD n) ∧ (w.setCell pe (.int .i64 n)).setCell po (.slice none 0 0) = w' := by
  have hta : ∀ w, (Instr.typeAssert (.iface 40 (.int .i64 n)) 20 40 false).run Tryz.prog w = .ok (.int .i64 n) w := fun _ => by kernel_rfl
  have hcl := Lib.hid (clear_any po v2 _ hc2 hz2)
  clear hc2 hz2
  refine callsD_of_wpS Tryz.func38 rfl fun c₀ cs hu => ?_
  apply wpS_seq
  apply wpS_region
  simp [wpOpsS, go_sem, recoverD, hu, Tryz.ntmps38, Exit.thenS, errP]
  refine wpS_of_wp ?_
  go_wp2_with (go_at_call 39; refine hcl.out.mono ?_; rintro e w2 ⟨rfl, rfl⟩)
  simp [bodyPostS, results, Tryz.results38, errD, errP]
set_option maxRecDepth 100000 in
set_option maxHeartbeats 4000000 in
theorem caught_idle (pe po : Addr) (w : World) :
    CallsD Tryz.prog 38 #[.pointer (some pe), .func (.func 39) #[] #[.pointer (some po)]] .returning w fun e u' w' => e = .returned (.tuple #[]) ∧ u' = .returning ∧ w' = w := by
  refine callsD_of_wpS Tryz.func38 rfl fun c₀ cs hu => ?_
  apply wpS_seq
  apply wpS_region
  simp [wpOpsS, go_sem, recoverD, hu, Tryz.ntmps38, Exit.thenS]
  refine wpS_of_wp ?_
  go_wp2
  cases c₀
  simp_all [bodyPostS, results, Tryz.results38]
end Go.Proofs.YtbicfaiabpcgfaaGreatDoor
namespace Go.Proofs.YtbicfaiabpcgfaaGreatDoor
open Go.RowKit Go.Shelf

/-- The words left, in a block of one cell. -/
def WordsAt (w : World) (bk : Nat) (T : TypeId) (ws : List (List UInt8)) : Prop := ∃ a c, Box w bk (.slice a ws.length c) T ∧ ws.length ≤ c ∧ c ≤ 1000000 ∧ RowV w a (ws.map sV) ∧ ∀ x, a = some x → x.block < bk
theorem row_off {w : World} {bk : Nat} {T : TypeId} {u : Value} {a : Option Addr} {ws : List (List UInt8)} (h : Box w bk u T) (hu : ∀ l, u ≠ .string l) (hr : RowV w a (ws.map sV)) {w' : World} (ho : Only (· = bk) w w') : RowV w' a (ws.map sV) := fun i hi => by
  obtain ⟨b, o, e, hc⟩ := hr i hi
  refine ⟨b, o, e, ho.cell hc fun hb => ?_⟩
  simp only at hb
  subst hb
  unfold Box at h
  unfold World.cell? at hc
  simp only [h] at hc
  rcases Nat.eq_zero_or_pos (o + i) with h0 | h0
  · rw [h0] at hc
    simp [sV] at hc
    exact hu _ hc
  · rw [Array.getElem?_eq_none (by simp; omega)] at hc; cases hc
set_option maxRecDepth 100000 in
set_option maxHeartbeats 4000000 in
theorem take_none (bk : Nat) (T : TypeId) (w : World) (h : WordsAt w bk T []) : Calls Tryz.prog 43 #[.pointer (some ⟨bk, 0, none⟩)] w fun e w' => e = .panicked (errP 200) ∧ w = w' := by
  obtain ⟨a, c, hx, h1, h2, hr, -⟩ := h
  have hcx := hx.cell
  simp only [List.length_nil] at hcx
  have hm := Lib.hid fun W => mustC_false 200 W
  go_enter Tryz.func43, Tryz.ntmps43
  go_wp2_with (go_at_call 40; refine (hm.out _).mono ?_; rintro e w2 ⟨rfl, rfl⟩)
  exact ⟨rfl, rfl, rfl⟩
set_option maxRecDepth 100000 in
set_option maxHeartbeats 4000000 in
theorem take_one (bk : Nat) (T : TypeId) (x : List UInt8) (r : List (List UInt8)) (w : World) (h : WordsAt w bk T (x :: r)) : Calls Tryz.prog 43 #[.pointer (some ⟨bk, 0, none⟩)] w fun e w' => e = .returned (.string ⟨x.toArray⟩) ∧ WordsAt w' bk T r ∧ Only (· = bk) w w' := by
  obtain ⟨a, c, hx, h1, h2, hr, hlo⟩ := h
  obtain ⟨b, o, rfl, hc⟩ := hr 0 (by simp)
  have hc0 : w.cell? ⟨b, o, none⟩ = some (.string ⟨x.toArray⟩) := hc
  have hcx := hx.cell
  have hfx := hx.free
  rw [List.length_cons] at hcx h1 hx
  have hr2 : RowV w (some ⟨b, o + 1, none⟩) (r.map sV) := fun i hi => by
    obtain ⟨b', o', e, hc⟩ := hr (i + 1) (by simpa using hi)
    cases e
    exact ⟨b, o + 1, rfl, by rw [show o + 1 + i = o + (i + 1) by omega, hc]; simp⟩
  have hlo2 : b < bk := hlo _ rfl
  clear hlo
  have hm := Lib.hid fun W => mustC_true 200 W
  have hl0 : (0 : Int) < (r.length : Int) + 1 := by omega
  replace hr2 := Lib.hid hr2
  clear hc hr
  replace hx := Lib.hid hx
  generalize hn : r.length = n at *
  by_cases hc1 : c = 1
  · subst hc1
    obtain rfl : n = 0 := by omega
    have hr0 : r = [] := List.length_eq_zero_iff.1 hn
    subst hr0
    go_enter Tryz.func43, Tryz.ntmps43
    go_wp2_with (go_at_call 40; refine (hm.out _).mono ?_; rintro e w2 ⟨rfl, rfl⟩)
    go_ret
    exact ⟨rfl, ⟨_, _, hx.out.set _, by simp, by omega, fun i hi => absurd hi (by simp), fun x e => by cases e; exact hlo2⟩, (Only.refl (· = bk) w).setCell _ _ rfl⟩
  · have hc2 : ¬ (c : Int) = 1 := by omega
    have hc3 : (1 : Int) < c := by omega
    have hno : ∀ l, (Value.slice (some ⟨b, o, none⟩) (n + 1) c) ≠ .string l := fun l e => by cases e
    go_enter Tryz.func43, Tryz.ntmps43
    go_wp2_with (go_at_call 40; refine (hm.out _).mono ?_; rintro e w2 ⟨rfl, rfl⟩)
    go_ret
    have ho := (Only.refl (· = bk) w).setCell ⟨bk, 0, none⟩ (.slice (some ⟨b, o + 1, none⟩) n (c - 1)) rfl
    refine ⟨rfl, ⟨some ⟨b, o + 1, none⟩, c - 1, ?_, ?_, ?_, row_off hx.out hno hr2.out ho, fun x e => by cases e; exact hlo2⟩, ho⟩
    · rw [hn]; exact hx.out.set _
    · omega
    · omega
end Go.Proofs.YtbicfaiabpcgfaaGreatDoor
namespace Go.Proofs.YtbicfaiabpcgfaaGreatDoor
open Go.RowKit Go.Shelf

def digS : List UInt8 := [48, 49, 50, 51, 52, 53, 54, 55, 56, 57, 97, 98, 99, 100, 101, 102]
theorem dig_in' : ∀ n : Fin 256, (digO (UInt8.ofNat n.1)).isSome = digS.contains (UInt8.ofNat n.1) := by decide +kernel
theorem dig_idx' : ∀ n : Fin 256, Lib.indexByte digS (UInt8.ofNat n.1) = digI n.1 := by decide +kernel
theorem dig_in (c : UInt8) : (digO c).isSome = digS.contains c := by
  have := dig_in' ⟨c.toNat, UInt8.toNat_lt c⟩
  simpa using this
theorem dig_idx (c : UInt8) : Lib.indexByte digS c = digI c.toNat := by
  have := dig_idx' ⟨c.toNat, UInt8.toNat_lt c⟩
  simpa using this
theorem drop_all {α : Type} (p : α → Bool) : ∀ l : List α, l.dropWhile p = [] ↔ ∀ x ∈ l, p x = true
  | [] => by simp
  | a :: l => by
    rw [List.dropWhile_cons]
    cases h : p a with
    | true => simp only [if_true, drop_all p l]; simp [h]
    | false => simp [h]
theorem drop_head {α : Type} (p : α → Bool) : ∀ l : List α, (∀ x ∈ l.dropWhile p, p x = true) → l.dropWhile p = []
  | [], _ => rfl
  | a :: l, h => by
    rw [List.dropWhile_cons] at h ⊢
    cases ha : p a with
    | true =>
      rw [ha] at h
      simp only [if_true] at h ⊢
      exact drop_head p l h
    | false =>
      rw [ha] at h
      exact absurd (h a (by simp)) (by rw [ha]; decide)
theorem trim_all (l cs : List UInt8) : Lib.trimS l cs = [] ↔ ∀ x ∈ l, cs.contains x = true := by
  unfold Lib.trimS Lib.trimLeftS Lib.trimRightS
  rw [drop_all]
  constructor
  · intro h
    have h2 := drop_head (fun x => cs.contains x) l.reverse fun x hx => h x (by simpa using hx)
    rw [drop_all] at h2
    exact fun x hx => h2 x (by simpa using hx)
  · intro h
    have h2 : l.reverse.dropWhile (fun x => cs.contains x) = [] := (drop_all _ _).2 fun x hx => h x (by simpa using hx)
    rw [h2]
    simp
theorem unhexP_get : ∀ {l : List UInt8} {us : List Nat}, unhexP l = some us → ∀ i (h : i < us.length), ∃ (a b : UInt8) (x y : Nat), l[2 * i]? = some a ∧ l[2 * i + 1]? = some b ∧ digO a = some x ∧ digO b = some y ∧ us[i] = 16 * x + y
  | [], us, h, i, hi => by cases h; simp at hi
  | [_], us, h, i, hi => by cases h
  | a :: b :: l, us, h, i, hi => by
    rw [unhexP] at h
    cases h1 : digO a with
    | none => rw [h1] at h; cases h
    | some x => cases h2 : digO b with
      | none => rw [h1, h2] at h; cases h
      | some y => cases h3 : unhexP l with
        | none => rw [h1, h2, h3] at h; cases h
        | some r =>
          rw [h1, h2, h3] at h
          cases h
          cases i with
          | zero => exact ⟨a, b, x, y, rfl, rfl, h1, h2, rfl⟩
          | succ i =>
            obtain ⟨a', b', x', y', e1, e2, e3, e4, e5⟩ := unhexP_get h3 i (by simpa using hi)
            refine ⟨a', b', x', y', ?_, ?_, e3, e4, by simpa using e5⟩
            · rw [show 2 * (i + 1) = 2 * i + 1 + 1 by omega]; simpa using e1
            · rw [show 2 * (i + 1) + 1 = 2 * i + 1 + 1 + 1 by omega]; simpa using e2
theorem unhexP_all : ∀ (m : Nat) (l : List UInt8), l.length = 2 * m → (∀ x ∈ l, digS.contains x = true) → ∃ us, unhexP l = some us ∧ us.length = m
  | 0, l, h, _ => by
    have : l = [] := List.length_eq_zero_iff.1 (by omega)
    subst this
    exact ⟨[], rfl, rfl⟩
  | m + 1, a :: b :: l, h, ha => by
    obtain ⟨us, h1, h2⟩ := unhexP_all m l (by simp at h; omega) fun x hx => ha x (by simp [hx])
    have e1 := ha a (by simp)
    have e2 := ha b (by simp)
    rw [← dig_in] at e1 e2
    obtain ⟨x, hx⟩ := Option.isSome_iff_exists.1 e1
    obtain ⟨y, hy⟩ := Option.isSome_iff_exists.1 e2
    exact ⟨_, by rw [unhexP, hx, hy, h1], by simp [h2]⟩
  | m + 1, [], h, _ => by simp at h
  | m + 1, [_], h, _ => by simp at h; omega
theorem unhexP_dig {l : List UInt8} {us : List Nat} (h : unhexP l = some us) : ∀ x ∈ l, digS.contains x = true := by
  intro c hc
  obtain ⟨h1, h2, h3⟩ := unhexP_some h
  obtain ⟨j, hj, rfl⟩ := List.getElem_of_mem hc
  obtain ⟨a, b, x, y, e1, e2, e3, e4, -⟩ := unhexP_get h (j / 2) (by omega)
  rw [← dig_in]
  rcases Nat.mod_two_eq_zero_or_one j with h0 | h0
  · rw [show 2 * (j / 2) = j by omega, List.getElem?_eq_getElem hj] at e1
    rw [Option.some.inj e1, e3]; rfl
  · rw [show 2 * (j / 2) + 1 = j by omega, List.getElem?_eq_getElem hj] at e2
    rw [Option.some.inj e2, e4]; rfl
/-- So many bytes of a word. -/
def bytesO (x : List UInt8) (m : Nat) : Option (List Nat) := match unhexN x with
  | none => none
  | some us => if us.length = m then some us else none
/-- The program's three conditions. -/
theorem bytes_iff (x : List UInt8) (m : Nat) (us : List Nat) : bytesO x m = some us ↔ ∃ l, x = 48 :: 120 :: l ∧ l.length = 2 * m ∧ (∀ c ∈ l, digS.contains c = true) ∧ unhexP l = some us := by
  constructor
  · intro h
    unfold bytesO unhexN at h
    split at h
    · cases h
    · rename_i us' hu
      split at hu
      · rename_i l
        split at h
        · rename_i hm
          cases h
          have := (unhexP_some hu).2.2
          exact ⟨l, rfl, by omega, unhexP_dig hu, hu⟩
        · cases h
      · cases hu
  · rintro ⟨l, rfl, h1, h2, h3⟩
    have := (unhexP_some h3).2.2
    unfold bytesO
    show (match unhexP l with | none => none | some us => if us.length = m then some us else none) = some us
    rw [h3]
    dsimp only
    rw [if_pos (by omega)]
theorem bytes_none {x : List UInt8} {m : Nat} (h : bytesO x m = none) {l : List UInt8} (e : x = 48 :: 120 :: l) (hl : l.length = 2 * m) : ¬ ∀ c ∈ l, digS.contains c = true := fun ha => by
  obtain ⟨us, h1, h2⟩ := unhexP_all m l hl ha
  have := (bytes_iff x m us).2 ⟨l, e, hl, ha, h1⟩
  rw [h] at this; cases this
theorem trim_any (l : List UInt8) (w : World) (hl : l.length ≤ 4194304) : Calls Tryz.prog 62 #[.string ⟨l.toArray⟩, .string ⟨#[48, 49, 50, 51, 52, 53, 54, 55, 56, 57, 97, 98, 99, 100, 101, 102]⟩] w fun e w' => e = .returned (.string ⟨(Lib.trimS l digS).toArray⟩) ∧ Below w.heap.size w w' :=
  Any.strings_Trim_laid Tryz.lays160 (by kernel_rfl) ⟨l.toArray⟩ ⟨digS.toArray⟩ w (by show l.toArray.size ≤ _; simp; omega) (by decide) (ascii_of_all (by decide))
end Go.Proofs.YtbicfaiabpcgfaaGreatDoor
namespace Go.Proofs.YtbicfaiabpcgfaaGreatDoor
open Go.RowKit Go.Shelf

theorem WordsAt.below {w w' : World} {bk : Nat} {T : TypeId} {ws : List (List UInt8)} (h : WordsAt w bk T ws) (hb : Below w.heap.size w w') : WordsAt w' bk T ws := by
  obtain ⟨a, c, h1, h2, h3, h4, h5⟩ := h
  exact ⟨a, c, h1.below hb, h2, h3, h4.below hb, h5⟩
theorem or_fin : ∀ x y : Fin 16, IntKind.u8.wrap (bits .or .i64 (IntKind.i64.wrap ((x.1 : Int) * 16)) (y.1 : Int)) = ((16 * x.1 + y.1 : Nat) : Int) := by decide +kernel
theorem cut_any (x : List UInt8) (w : World) : Calls Tryz.prog 61 #[.string ⟨x.toArray⟩, .string ⟨#[48, 120]⟩] w fun e w' => e = .returned (.tuple #[.string ⟨(Lib.trimPrefix x [48, 120]).toArray⟩, .bool (Lib.hasPrefix x [48, 120])]) ∧ w = w' :=
  (Tryz.strings_CutPrefix ⟨x.toArray⟩ ⟨#[48, 120]⟩ w).mono fun e w' h => ⟨h.1, h.2.symm⟩
theorem idx_any (c : UInt8) (w : World) : Calls Tryz.prog 63 #[.string ⟨#[48, 49, 50, 51, 52, 53, 54, 55, 56, 57, 97, 98, 99, 100, 101, 102]⟩, .int .u8 (c.toNat : Nat)] w fun e w' => e = .returned (.int .i64 (digI c.toNat)) ∧ w = w' := by
  refine (Tryz.strings_IndexByte ⟨digS.toArray⟩ (c.toNat : Nat) w).mono fun e w' h => ⟨?_, h.2.symm⟩
  rw [h.1]
  have e1 : ((c.toNat : Nat) : Int).toNat.toUInt8 = c := by simp
  rw [e1]
  exact congrArg (fun i => Ending.returned (Value.int .i64 i)) (dig_idx c)
theorem pre_yes {x : List UInt8} (h : Lib.hasPrefix x [48, 120] = true) : ∃ l, x = 48 :: 120 :: l ∧ Lib.trimPrefix x [48, 120] = l := by
  match x, h with
  | a :: b :: l, h =>
    have h' := h
    simp [Lib.hasPrefix] at h'
    obtain ⟨rfl, rfl⟩ := h'
    exact ⟨l, rfl, by unfold Lib.trimPrefix; rw [if_pos h]; rfl⟩
  | [], h => simp [Lib.hasPrefix] at h
  | [_], h => simp [Lib.hasPrefix] at h
set_option maxRecDepth 100000 in
set_option maxHeartbeats 8000000 in
theorem bytes_some (bk : Nat) (T : TypeId) (x : List UInt8) (r : List (List UInt8)) (m : Nat) (us : List Nat) (w : World) (h : WordsAt w bk T (x :: r)) (hx : x.length ≤ 4194304) (hm : m ≤ 1000) (hus : bytesO x m = some us) :
    Calls Tryz.prog 42 #[.pointer (some ⟨bk, 0, none⟩), .int .i64 m] w fun e w' => (∃ v, e = .returned v ∧ OwnU w w' v us) ∧ WordsAt w' bk T r ∧ Only (· = bk) w w' := by
  obtain ⟨i0, hi0, hz0, hz1, hz2⟩ := info_parts info_u8
  obtain ⟨l, rfl, hl, hdg, hun⟩ := (bytes_iff x m us).1 hus
  have hul : us.length = m := by have := (unhexP_some hun).2.2; omega
  have hget := Lib.hid fun k hk => unhexP_get hun k hk
  have ht : Lib.trimS l digS = [] := (trim_all l digS).2 hdg
  have htk := Lib.hid (take_one bk T (48 :: 120 :: l) r w h)
  have hct := Lib.hid fun W => cut_any (48 :: 120 :: l) W
  rw [show Lib.trimPrefix (48 :: 120 :: l) [48, 120] = l from rfl, show Lib.hasPrefix (48 :: 120 :: l) [48, 120] = true from rfl] at hct
  have htr := Lib.hid fun W => trim_any l W (by simp at hx; omega)
  rw [ht] at htr
  have hmt := Lib.hid fun W => mustC_true 200 W
  have hsz : (⟨l.toArray⟩ : ByteArray).size = l.length := by show l.toArray.size = _; simp
  have hlI : ((l.length : Int) == IntKind.i64.wrap (2 * (m : Int))) = true := by
    rw [show IntKind.i64.wrap (2 * (m : Int)) = 2 * (m : Int) by simp [IntKind.wrap, IntKind.bits, IntKind.signed]; omega, beq_iff_eq]; omega
  have hlJ : (l.length : Int) = IntKind.i64.wrap (2 * (m : Int)) := by simpa using hlI
  have hat := Lib.hid fun j (hj : j < l.length) W => run_at_str l j hj W
  replace hdg := Lib.hid hdg
  replace h := Lib.hid h
  clear ht hun hx
  go_enter Tryz.func42, Tryz.ntmps42
  go_wp2_with (first
    | (go_at_call 43; refine htk.out.mono ?_; rintro e w1 ⟨rfl, hW1, ho1⟩; replace hW1 := Lib.hid hW1; replace ho1 := Lib.hid ho1)
    | (go_at_call 61; refine (hct.out _).mono ?_; rintro e w2 ⟨rfl, rfl⟩)
    | (go_at_call 62; refine (htr.out _).mono ?_; rintro e w2 ⟨rfl, hb2⟩; replace hb2 := Lib.hid hb2)
    | (go_at_call 40; refine (hmt.out _).mono ?_; rintro e w3 ⟨rfl, rfl⟩))
  have h0w : Hid (OwnU w2 w2 (.slice none 0 0) (us.take 0)) := Lib.hid (OwnU.nil _ _)
  have h0b : Hid (Below w2.heap.size w2 w2) := Lib.hid (xrefl _)
  go_loopw [4, 31] (fun v iv wx => ∃ k : Nat, iv = .int .i64 k ∧ k ≤ m ∧ Hid (OwnU w2 wx v (us.take k)) ∧ Hid (Below w2.heap.size w2 wx)) (fun _ iv _ => m - (intOf iv).toNat)
  case atStart => exact ⟨0, rfl, by omega, h0w, h0b⟩
  case round =>
    clear h0w h0b
    obtain ⟨k, rfl, hk, hown, hb⟩ := hrel
    by_cases hlt : k < m
    · have hltI : (k : Int) < m := by omega
      obtain ⟨ca, cb, xa, yb, e1, e2, d1, d2, ez⟩ := hget.out k (by omega)
      obtain ⟨hj1, e1⟩ := List.getElem?_eq_some_iff.1 e1
      obtain ⟨hj2, e2⟩ := List.getElem?_eq_some_iff.1 e2
      have hia := fun W => hat.out (2 * k) hj1 W
      have hib := fun W => hat.out (2 * k + 1) hj2 W
      rw [e1] at hia
      rw [e2] at hib
      have hwk : IntKind.i64.wrap (2 * (k : Int)) = ((2 * k : Nat) : Int) := by simp [IntKind.wrap, IntKind.bits, IntKind.signed]; omega
      have hwk1 : IntKind.i64.wrap (((2 * k : Nat) : Int) + 1) = ((2 * k + 1 : Nat) : Int) := by simp [IntKind.wrap, IntKind.bits, IntKind.signed]; omega
      generalize 2 * k + 1 = j1 at *
      generalize 2 * k = j at *
      have hixa := Lib.hid fun W => idx_any ca W
      have hixb := Lib.hid fun W => idx_any cb W
      rw [digI_some d1] at hixa
      rw [digI_some d2] at hixb
      have hx16 := dig_lt d1
      have hy16 := dig_lt d2
      obtain ⟨z, hz⟩ : ∃ z : Nat, z = 16 * xa + yb := ⟨_, rfl⟩
      have hzor : IntKind.u8.wrap (bits .or .i64 (IntKind.i64.wrap ((xa : Int) * 16)) (yb : Int)) = (z : Int) := by rw [hz]; exact or_fin ⟨xa, hx16⟩ ⟨yb, hy16⟩
      have hnx : Hid (us.take (k + 1) = us.take k ++ [z]) := Lib.hid (by rw [List.take_succ_eq_append_getElem (by omega), ez, hz])
      have htl : (us.take k).length = k := by rw [List.length_take]; omega
      clear e1 e2 d1 d2 hlI hlJ hz ez
      generalize ca.toNat = an at *
      generalize cb.toNat = bn at *
      go_wp2_with fail
      refine' wp_region_growL 16 [fixd _, fixd _, fixd _, fixd _, fixd _, fixd _, fixd _, fixd _, fixd _, fixd _, fixd _, fixd _, fixd _, fixd _, fixd _, rowT .u8 [(z : Int)]] (by kernel_rfl) (by kernel_rfl) ?_
      rotate_left 15
      simp only [List.take_succ_cons, List.take_zero, List.drop_succ_cons, List.drop_zero]
      try simp only [Act.put, List.setIfInBounds_toArray, List.set_cons_succ, List.set_cons_zero, List.nil_append, List.cons_append]
      refine' wpGrowV_fix _ rfl rfl (fun W hb _ => by go_simp; first | exact xrefl W | exact ⟨rfl, xrefl W⟩) ?_
      try simp only [Act.put, List.setIfInBounds_toArray, List.set_cons_succ, List.set_cons_zero, List.nil_append, List.cons_append]
      refine' wpGrowV_fix _ rfl rfl (fun W hb _ => by go_simp; first | exact xrefl W | exact ⟨rfl, xrefl W⟩) ?_
      try simp only [Act.put, List.setIfInBounds_toArray, List.set_cons_succ, List.set_cons_zero, List.nil_append, List.cons_append]
      refine' wpGrowV_fix _ rfl rfl (fun W hb _ => by go_simp; first | exact xrefl W | exact ⟨rfl, xrefl W⟩) ?_
      try simp only [Act.put, List.setIfInBounds_toArray, List.set_cons_succ, List.set_cons_zero, List.nil_append, List.cons_append]
      refine' wpGrowV_fix _ rfl rfl (fun W hb _ => by go_simp; first | exact xrefl W | exact ⟨rfl, xrefl W⟩) ?_
      try simp only [Act.put, List.setIfInBounds_toArray, List.set_cons_succ, List.set_cons_zero, List.nil_append, List.cons_append]
      refine' wpGrowV_fix _ rfl rfl (fun W hb _ => by go_simp; first | exact xrefl W | exact ⟨rfl, xrefl W⟩) ?_
      try simp only [Act.put, List.setIfInBounds_toArray, List.set_cons_succ, List.set_cons_zero, List.nil_append, List.cons_append]
      refine' wpGrowV_fix _ rfl rfl (fun W hb hF => ?_) ?_
      · clear hF
        go_simp
        go_at_call 63
        refine (hixa.out W).mono ?_
        rintro e w' ⟨rfl, rfl⟩
        refine ⟨?_, xrefl _⟩
        exact rfl
      try simp only [Act.put, List.setIfInBounds_toArray, List.set_cons_succ, List.set_cons_zero, List.nil_append, List.cons_append]
      refine' wpGrowV_fix _ rfl rfl (fun W hb _ => by go_simp; first | exact xrefl W | exact ⟨rfl, xrefl W⟩) ?_
      try simp only [Act.put, List.setIfInBounds_toArray, List.set_cons_succ, List.set_cons_zero, List.nil_append, List.cons_append]
      refine' wpGrowV_fix _ rfl rfl (fun W hb _ => by go_simp; first | exact xrefl W | exact ⟨rfl, xrefl W⟩) ?_
      try simp only [Act.put, List.setIfInBounds_toArray, List.set_cons_succ, List.set_cons_zero, List.nil_append, List.cons_append]
      refine' wpGrowV_fix _ rfl rfl (fun W hb _ => by go_simp; first | exact xrefl W | exact ⟨rfl, xrefl W⟩) ?_
      try simp only [Act.put, List.setIfInBounds_toArray, List.set_cons_succ, List.set_cons_zero, List.nil_append, List.cons_append]
      refine' wpGrowV_fix _ rfl rfl (fun W hb _ => by go_simp; first | exact xrefl W | exact ⟨rfl, xrefl W⟩) ?_
      try simp only [Act.put, List.setIfInBounds_toArray, List.set_cons_succ, List.set_cons_zero, List.nil_append, List.cons_append]
      refine' wpGrowV_fix _ rfl rfl (fun W hb _ => by go_simp; first | exact xrefl W | exact ⟨rfl, xrefl W⟩) ?_
      try simp only [Act.put, List.setIfInBounds_toArray, List.set_cons_succ, List.set_cons_zero, List.nil_append, List.cons_append]
      refine' wpGrowV_fix _ rfl rfl (fun W hb _ => by go_simp; first | exact xrefl W | exact ⟨rfl, xrefl W⟩) ?_
      try simp only [Act.put, List.setIfInBounds_toArray, List.set_cons_succ, List.set_cons_zero, List.nil_append, List.cons_append]
      refine' wpGrowV_fix _ rfl rfl (fun W hb hF => ?_) ?_
      · clear hF
        go_simp
        go_at_call 63
        refine (hixb.out W).mono ?_
        rintro e w' ⟨rfl, rfl⟩
        refine ⟨?_, xrefl _⟩
        exact rfl
      try simp only [Act.put, List.setIfInBounds_toArray, List.set_cons_succ, List.set_cons_zero, List.nil_append, List.cons_append]
      refine' wpGrowV_fix _ rfl rfl (fun W hb _ => by go_simp; first | exact xrefl W | exact ⟨rfl, xrefl W⟩) ?_
      try simp only [Act.put, List.setIfInBounds_toArray, List.set_cons_succ, List.set_cons_zero, List.nil_append, List.cons_append]
      refine' wpGrowV_fix _ rfl rfl (fun W hb _ => by go_simp; first | exact xrefl W | exact ⟨rfl, xrefl W⟩) ?_
      try simp only [Act.put, List.setIfInBounds_toArray, List.set_cons_succ, List.set_cons_zero, List.nil_append, List.cons_append]
      refine wpGrowV_any (rowT .u8 [(z : Int)]) rfl rfl (fun W hb _ => ?_) (fun v hv => ?_)
      · go_simp
        exact ⟨⟨⟨_, rfl⟩, fun b e => by cases e; exact rowAt_one W 5 (z : Int)⟩, xalloc (xrefl W) _⟩
      obtain ⟨q1, rfl⟩ := hv
      try simp only [Act.put, List.setIfInBounds_toArray, List.set_cons_succ, List.set_cons_zero, List.nil_append, List.cons_append]
      refine wpGrowV_nil fun W3 hbW hmem => ?_
      have hq1 := hmem 15 (by decide) q1 rfl
      clear hmem
      have ho3 := Lib.hid (own_keep hown.out hbW)
      have hb3 := Lib.hid (xtrans hb.out hbW)
      have hs3 : w2.heap.size ≤ W3.heap.size := hb3.out.size
      replace hq1 : Hid (RowAt .u8 W3 (some ⟨q1, 0, none⟩) [(z : Int)]) := Lib.hid hq1
      go_wp2_with (at_builtin; refine wpList_append_row W3 rfl _ _ 32 rfl w2.heap.size 5 i0 (.int .u8 0) 1 Tryz.underlying32 hi0 hz0 hz1 hz2 rfl _ (us.take k).length _ rfl ho3.out (some ⟨q1, 0, none⟩) 1 .u8 [(z : Int)] rfl (by simp) hq1.out (by unfold maxLen; rw [htl]; simp; omega) (by rw [htl]; simp; omega) hs3 ?_; intro v5 w5 ho5 hg5; have hb5 := Lib.hid (hb3.out.grown hg5 hs3 (fun j hj => (ho3.out.lt j hj).1)); replace ho5 : Hid (OwnU w2 w5 v5 (us.take k ++ [z])) := Lib.hid (by unfold OwnU; rw [List.length_append, natI_app, List.map_append]; exact ho5); clear hg5)
      rw [← hnx.out] at ho5
      exact ⟨⟨k + 1, by go_num, by omega, ho5, hb5⟩, by simp [intOf] <;> omega⟩
    · obtain rfl : k = m := by omega
      rw [List.take_of_length_le (by omega)] at hown
      go_wp2
      go_ret
      have hb' := xtrans hb2.out hb.out
      exact ⟨⟨_, rfl, own_lo hown.out (Nat.le_trans ho1.out.size hb2.out.size)⟩, hW1.out.below hb', ho1.out.trans (Below.only hb')⟩
end Go.Proofs.YtbicfaiabpcgfaaGreatDoor
namespace Go.Proofs.YtbicfaiabpcgfaaGreatDoor
open Go.RowKit Go.Shelf

set_option maxRecDepth 100000 in
set_option maxHeartbeats 8000000 in
theorem bytes_empty (bk : Nat) (T : TypeId) (m : Nat) (w : World) (h : WordsAt w bk T []) :
    Calls Tryz.prog 42 #[.pointer (some ⟨bk, 0, none⟩), .int .i64 m] w fun e w' => e = .panicked (errP 200) ∧ Only (· = bk) w w' := by
  have htk := Lib.hid (take_none bk T w h)
  clear h
  go_enter Tryz.func42, Tryz.ntmps42
  go_wp2_with (go_at_call 43; refine htk.out.mono ?_; rintro e w1 ⟨rfl, rfl⟩)
  exact ⟨rfl, rfl, Only.refl _ _⟩
set_option maxRecDepth 100000 in
set_option maxHeartbeats 8000000 in
theorem bytes_fail (bk : Nat) (T : TypeId) (x : List UInt8) (r : List (List UInt8)) (m : Nat) (w : World) (h : WordsAt w bk T (x :: r)) (hx : x.length ≤ 4194304) (hm : m ≤ 1000) (hus : bytesO x m = none) :
    Calls Tryz.prog 42 #[.pointer (some ⟨bk, 0, none⟩), .int .i64 m] w fun e w' => e = .panicked (errP 200) ∧ Only (· = bk) w w' := by
  have htk := Lib.hid (take_one bk T x r w h)
  have hct := Lib.hid fun W => cut_any x W
  have hmf := Lib.hid fun W => mustC_false 200 W
  have hw2 : IntKind.i64.wrap (2 * (m : Int)) = 2 * (m : Int) := by simp [IntKind.wrap, IntKind.bits, IntKind.signed]; omega
  clear h
  cases hp : Lib.hasPrefix x [48, 120] with
  | false =>
    rw [hp] at hct
    generalize Lib.trimPrefix x [48, 120] = l at *
    go_enter Tryz.func42, Tryz.ntmps42
    go_wp2_with (first
      | (go_at_call 43; refine htk.out.mono ?_; rintro e w1 ⟨rfl, hW1, ho1⟩; replace hW1 := Lib.hid hW1; replace ho1 := Lib.hid ho1)
      | (go_at_call 61; refine (hct.out _).mono ?_; rintro e w2 ⟨rfl, rfl⟩)
      | (go_at_call 40; refine (hmf.out _).mono ?_; rintro e w3 ⟨rfl, rfl⟩))
    exact ⟨rfl, rfl, ho1.out⟩
  | true =>
    obtain ⟨l, hxl, hl⟩ := pre_yes hp
    rw [hp, hl] at hct
    have hll : l.length ≤ 4194304 := by rw [hxl] at hx; simp at hx; omega
    have hsz : (⟨l.toArray⟩ : ByteArray).size = l.length := by show l.toArray.size = _; simp
    by_cases hlen : l.length = 2 * m
    · have hno := bytes_none hus hxl hlen
      have htr := Lib.hid fun W => trim_any l W hll
      have ht : Lib.trimS l digS ≠ [] := fun e => hno ((trim_all l digS).1 e)
      have hlJ : (l.length : Int) = 2 * (m : Int) := by omega
      have hlI : ((l.length : Int) == 2 * (m : Int)) = true := by rw [beq_iff_eq]; omega
      generalize Lib.trimS l digS = t at *
      have hte : t.isEmpty = false := by cases t with
        | nil => exact absurd rfl ht
        | cons _ _ => rfl
      clear hno ht hus hxl hl hlen
      go_enter Tryz.func42, Tryz.ntmps42
      go_wp2_with (first
        | (go_at_call 43; refine htk.out.mono ?_; rintro e w1 ⟨rfl, hW1, ho1⟩; replace hW1 := Lib.hid hW1; replace ho1 := Lib.hid ho1)
        | (go_at_call 61; refine (hct.out _).mono ?_; rintro e w2 ⟨rfl, rfl⟩)
        | (go_at_call 62; refine (htr.out _).mono ?_; rintro e w2 ⟨rfl, hb2⟩; replace hb2 := Lib.hid hb2)
        | (go_at_call 40; refine (hmf.out _).mono ?_; rintro e w3 ⟨rfl, rfl⟩))
      exact ⟨rfl, rfl, ho1.out.trans (Below.only hb2.out)⟩
    · have hlJ : ¬ (l.length : Int) = 2 * (m : Int) := by omega
      have hlI : ((l.length : Int) == 2 * (m : Int)) = false := by rw [beq_eq_false_iff_ne]; omega
      clear hus hxl hl hlen
      go_enter Tryz.func42, Tryz.ntmps42
      go_wp2_with (first
        | (go_at_call 43; refine htk.out.mono ?_; rintro e w1 ⟨rfl, hW1, ho1⟩; replace hW1 := Lib.hid hW1; replace ho1 := Lib.hid ho1)
        | (go_at_call 61; refine (hct.out _).mono ?_; rintro e w2 ⟨rfl, rfl⟩)
        | (go_at_call 40; refine (hmf.out _).mono ?_; rintro e w3 ⟨rfl, rfl⟩))
      exact ⟨rfl, rfl, ho1.out⟩
end Go.Proofs.YtbicfaiabpcgfaaGreatDoor
namespace Go.Proofs.YtbicfaiabpcgfaaGreatDoor
open Go.RowKit Go.Shelf

/-- The names of these ops, with the ops. -/
def nmL (K : List Nat) : List (Value × Value) := K.map fun (c : Nat) => (.string ⟨(infoN c).name.toArray⟩, .int .u8 c)
theorem bytes_beq (a b : List UInt8) : ((⟨a.toArray⟩ : ByteArray) == ⟨b.toArray⟩) = (a == b) := by
  show (a.toArray == b.toArray) = (a == b)
  rw [Bool.eq_iff_iff, beq_iff_eq, beq_iff_eq]
  simp
theorem findNow_nm (s : List UInt8) : ∀ (K : List Nat) (i j : Nat), ∃ r, Instr.findNow .string (.string ⟨s.toArray⟩) (entG i (nmL K)) j = some r ∧ r.map (·.2) = (K.find? fun c => (infoN c).name == s).map (fun c : Nat => Value.int .u8 c) ∧ ((K.find? fun c => (infoN c).name == s) = none → r = none)
  | [], i, j => ⟨none, rfl, rfl, fun _ => rfl⟩
  | c :: K, i, j => by
    obtain ⟨r, h1, h2, h3⟩ := findNow_nm s K (i + 1) (j + 1)
    show ∃ r, Instr.findNow .string (.string ⟨s.toArray⟩) (entG i ((.string ⟨(infoN c).name.toArray⟩, .int .u8 c) :: nmL K)) j = some r ∧ _
    by_cases h : (infoN c).name = s
    · have hb : ((infoN c).name == s) = true := by simpa using h
      have hb2 : ((⟨s.toArray⟩ : ByteArray) == ⟨(infoN c).name.toArray⟩) = true := by rw [bytes_beq, h]; simp
      exact ⟨some (j, .int .u8 c), by subst h; simp [entG, Instr.findNow, Instr.sameNow, bytes_beq], by simp [List.find?, hb], by simp [List.find?, hb]⟩
    · have hb : ((infoN c).name == s) = false := by simpa using h
      have hb2 : ((⟨s.toArray⟩ : ByteArray) == ⟨(infoN c).name.toArray⟩) = false := by rw [bytes_beq]; simpa using fun e => h e.symm
      refine ⟨r, ?_, by simp only [List.find?, hb]; exact h2, by simp only [List.find?, hb]; exact h3⟩
      have hne : ¬ s = (infoN c).name := fun e => h e.symm
      simp [entG, Instr.findNow, Instr.sameNow, hb2, h1, hne]
theorem run_lookN {P : Program} {t k e : TypeId} (ht : P.underlying t = some (.map k e)) (hk : P.underlying k = some .string) {z : Value} (hz : ∀ w, (zeroValue e).run P w = .ok z w) (s : List UInt8) (w : World) (b : Nat) (K : List Nat) (hb : w.heap[b]? = some (mapG (nmL K))) :
    (Instr.lookup t (.map (some b)) (.string ⟨s.toArray⟩) true).run P w = .ok (.tuple #[((K.find? fun c => (infoN c).name == s).map (fun c : Nat => Value.int .u8 c)).getD z, .bool (K.find? fun c => (infoN c).name == s).isSome]) w := by
  obtain ⟨r, h1, h2, h3⟩ := findNow_nm s K 0 0
  have hf : (Instr.findKey k (.string ⟨s.toArray⟩) (entG 0 (nmL K))).run P w = .ok r w := by
    simp [Instr.findKey, run_underlying hk, Sem.run_bind, h1]
  unfold mapG at hb
  have hc : ∀ b, (Instr.checkKey b 10000 k (.string ⟨s.toArray⟩)).run P w = .ok () w := fun b => checkKey_str' hk b _ 9999 w
  simp only [Instr.lookup, run_underlying ht, Sem.run_bind, Result.andThen_ok, getObj, Sem.run, hb]
  simp [hc, hf]
  rw [← h2]
  cases r with
  | none =>
    have : (K.find? fun c => (infoN c).name == s) = none := by simpa using h2.symm
    rw [this]
    simp [hz]
  | some x =>
    have : (K.find? fun c => (infoN c).name == s).isSome = true := by
      cases hq : (K.find? fun c => (infoN c).name == s) with
      | none => exact absurd (h3 hq) (by simp)
      | some _ => rfl
    rw [this]
    simp
theorem nm_all {K : List Nat} (hK : ∀ c, c ∈ K ↔ c < 256 ∧ namedN c = true) (s : List UInt8) : (K.find? fun c => (infoN c).name == s) = namedO s := by
  cases hq : (K.find? fun c => (infoN c).name == s) with
  | some c =>
    have h1 := (hK c).1 (List.mem_of_find?_eq_some hq)
    have h2 := List.find?_some hq
    rw [beq_iff_eq] at h2
    rw [← h2]
    exact (named_name c h1.1 h1.2).symm
  | none =>
    cases hn : namedO s with
    | none => rfl
    | some c =>
      obtain ⟨h1, h2, h3⟩ := named_some hn
      have := List.find?_eq_none.1 hq c ((hK c).2 ⟨h1, h2⟩)
      rw [h3] at this
      simp at this
theorem nm_new {K : List Nat} {c : Nat} (hK : ∀ d ∈ K, d < 256 ∧ namedN d = true) (hc : c < 256) (hn : namedN c = true) (h : c ∉ K) (i : Nat) : Instr.findNow .string (.string ⟨(infoN c).name.toArray⟩) (entG 0 (nmL K)) i = some none := by
  obtain ⟨r, h1, -, h3⟩ := findNow_nm (infoN c).name K 0 i
  rw [h1, h3]
  rw [List.find?_eq_none]
  intro d hd e
  rw [beq_iff_eq] at e
  obtain ⟨e1, e2⟩ := hK d hd
  have h4 := named_name d e1 e2
  rw [e, named_name c hc hn] at h4
  injection h4 with h4
  exact h (h4 ▸ hd)
theorem nmL_app (K : List Nat) (c : Nat) : nmL (K ++ [c]) = nmL K ++ [(.string ⟨(infoN c).name.toArray⟩, .int .u8 c)] := by unfold nmL; simp
end Go.Proofs.YtbicfaiabpcgfaaGreatDoor
