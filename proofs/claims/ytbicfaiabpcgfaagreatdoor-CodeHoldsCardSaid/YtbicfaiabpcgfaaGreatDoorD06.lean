/- Texts of this claim, merged; no condition. -/
import Derived.Lib.Join
import Derived.Test.YtbicfaiabpcgfaaGreatDoorD00
import Derived.Test.YtbicfaiabpcgfaaGreatDoorD05
import Derived.Test.YtbicfaiabpcgfaaGreatDoorD03
import Derived.Test.YtbicfaiabpcgfaaGreatDoorD01
import Derived.Deep.QuietTactic
import Derived.BigQuiet
import Derived.Deep.Cut
import Derived.Test.YtbicfaiabpcgfaaGreatDoorD02
set_option linter.all false
namespace Go.Proofs.YtbicfaiabpcgfaaGreatDoor

/-! Bytes as text. -/
def hexN (l : List Nat) : List UInt8 := [48, 120] ++ hexL (natI l)
def digO (c : UInt8) : Option Nat := (List.range 16).find? fun d => hexc d == c
def unhexP : List UInt8 → Option (List Nat)
  | [] => some []
  | [_] => none
  | a :: b :: l => match digO a, digO b, unhexP l with
    | some x, some y, some r => some ((16 * x + y) :: r)
    | _, _, _ => none
def unhexN : List UInt8 → Option (List Nat)
  | 48 :: 120 :: l => unhexP l
  | _ => none
theorem dig_some {c : UInt8} {d : Nat} (h : digO c = some d) : d < 16 ∧ hexc d = c := by
  unfold digO at h
  have h1 := List.mem_of_find?_eq_some h
  have h2 := List.find?_some h
  exact ⟨List.mem_range.1 h1, by simpa using h2⟩
theorem hexL_nil : hexL (natI []) = [] := rfl
theorem hexL_cons (n : Nat) (l : List Nat) : hexL (natI (n :: l)) = hexc (n / 16) :: hexc (n % 16) :: hexL (natI l) := by
  unfold hexL natI
  rw [List.map_cons, List.flatMap_cons]
  have e1 : ((n : Int) / 16).toNat = n / 16 := by omega
  have e2 : ((n : Int) % 16).toNat = n % 16 := by omega
  simp [hexB, e1, e2]
theorem hexL_app (l m : List Nat) : hexL (natI (l ++ m)) = hexL (natI l) ++ hexL (natI m) := by unfold hexL natI; simp
theorem unhexP_some : ∀ {s : List UInt8} {l : List Nat}, unhexP s = some l → hexL (natI l) = s ∧ (∀ b ∈ l, b < 256) ∧ s.length = 2 * l.length
  | [], l, h => by cases h; exact ⟨rfl, by simp, rfl⟩
  | [_], l, h => by cases h
  | a :: b :: s, l, h => by
    rw [unhexP] at h
    cases h1 : digO a with
    | none => rw [h1] at h; cases h
    | some x => cases h2 : digO b with
      | none => rw [h1, h2] at h; cases h
      | some y => cases h3 : unhexP s with
        | none => rw [h1, h2, h3] at h; cases h
        | some r =>
          rw [h1, h2, h3] at h
          cases h
          obtain ⟨i1, i2, i3⟩ := unhexP_some h3
          obtain ⟨d1, e1⟩ := dig_some h1
          obtain ⟨d2, e2⟩ := dig_some h2
          refine ⟨?_, ?_, by simp [i3]; omega⟩
          · rw [hexL_cons, show (16 * x + y) / 16 = x by omega, show (16 * x + y) % 16 = y by omega, e1, e2, i1]
          · intro c hc
            rcases List.mem_cons.1 hc with rfl | hc
            · omega
            · exact i2 c hc
theorem unhexN_some {s : List UInt8} {l : List Nat} (h : unhexN s = some l) : hexN l = s ∧ ∀ b ∈ l, b < 256 := by
  unfold unhexN at h
  split at h
  · obtain ⟨h1, h2, -⟩ := unhexP_some h
    exact ⟨by unfold hexN; rw [h1]; rfl, h2⟩
  · cases h

/-! The ops of names. -/
def namedO (s : List UInt8) : Option Nat := (List.range 256).find? fun c => namedN c && (infoN c).name == s
theorem named_name : ∀ c : Nat, c < 256 → namedN c = true → namedO (infoN c).name = some c := by decide +kernel
theorem named_some {s : List UInt8} {c : Nat} (h : namedO s = some c) : c < 256 ∧ namedN c = true ∧ (infoN c).name = s := by
  unfold namedO at h
  have h1 := List.mem_of_find?_eq_some h
  have h2 := List.find?_some h
  simp only [Bool.and_eq_true, beq_iff_eq] at h2
  exact ⟨List.mem_range.1 h1, h2.1, h2.2⟩
theorem size_named : ∀ c : Nat, c < 256 → 0 < szN c → namedN c = true := by decide +kernel

/-! The words of a text. -/
def opW (cs : List Nat) (i : Nat) : List (List UInt8) :=
  if namedN (byN cs i) = true then (infoN (byN cs i)).name :: (if 0 < szN (byN cs i) then [hexN (restN cs i)] else []) else [hexN [byN cs i]]
def wordsN (cs : List Nat) : List (List UInt8) := (opsL cs).flatMap (opW cs)
def textC (cs : List Nat) : List UInt8 := Lib.join (wordsN cs) [32]
def parseW : List (List UInt8) → Option (List Nat)
  | [] => some []
  | w :: r => match namedO w with
    | some op => if szN op = 0 then (parseW r).map (op :: ·) else match r with
      | [] => none
      | h :: r' => match unhexN h with
        | none => none
        | some bs => if bs.length = szN op then (parseW r').map fun l => op :: (bs ++ l) else none
    | none => match unhexN w with
      | some [b] => if namedN b = true then none else (parseW r).map (b :: ·)
      | _ => none

/-! Text and words. -/
def splS (c : UInt8) : List UInt8 → List (List UInt8)
  | [] => [[]]
  | x :: l => if x = c then [] :: splS c l else match splS c l with
    | [] => [[x]]
    | w :: r => (x :: w) :: r
theorem spl_ne (c : UInt8) : ∀ l, splS c l ≠ []
  | [] => by simp [splS]
  | x :: l => by
    unfold splS
    split
    · simp
    · split <;> simp
theorem join_cons2 (w x : List UInt8) (r : List (List UInt8)) (s : List UInt8) : Lib.join (w :: x :: r) s = w ++ s ++ Lib.join (x :: r) s := by
  rw [Lib.join_cons, Lib.join_cons]; simp [Lib.joinTail]
theorem name_chars : ∀ c : Nat, c < 256 → (32 : UInt8) ∉ (infoN c).name ∧ (infoN c).name.length ≤ 14 := by decide +kernel
theorem hexc_space : ∀ d, d < 16 → hexc d ≠ 32 := by decide
theorem hexL_space : ∀ l : List Nat, (∀ b ∈ l, b < 256) → (32 : UInt8) ∉ hexL (natI l)
  | [], _ => by simp [hexL, natI]
  | n :: l, h => by
    have hn := h n (by simp)
    rw [hexL_cons]
    have h1 := hexc_space (n / 16) (by omega)
    have h2 := hexc_space (n % 16) (by omega)
    have h3 := hexL_space l fun b hb => h b (List.mem_cons_of_mem _ hb)
    simp only [List.mem_cons, not_or]
    exact ⟨Ne.symm h1, Ne.symm h2, h3⟩
theorem hexN_space (l : List Nat) (h : ∀ b ∈ l, b < 256) : (32 : UInt8) ∉ hexN l := by
  unfold hexN
  have := hexL_space l h
  simpa using this
theorem hexN_len (l : List Nat) : (hexN l).length = 2 + 2 * l.length := by unfold hexN; rw [List.length_append, hexL_len, natI_len]; rfl
theorem opW_good {cs : List Nat} (h : ∀ b ∈ cs, b < 256) (i : Nat) : ∀ w ∈ opW cs i, (32 : UInt8) ∉ w ∧ w.length ≤ 66 := by
  have hb := byN_lt h i
  obtain ⟨n1, n2⟩ := name_chars _ hb
  intro w hw
  unfold opW at hw
  split at hw
  · rcases List.mem_cons.1 hw with rfl | hw
    · exact ⟨n1, by omega⟩
    · split at hw
      · rw [List.mem_singleton] at hw
        subst hw
        exact ⟨hexN_space _ (restN_lt h i), by rw [hexN_len, restN_len]; have := szN_le (byN cs i); omega⟩
      · cases hw
  · rw [List.mem_singleton] at hw
    subst hw
    exact ⟨hexN_space _ (by simpa using hb), by rw [hexN_len]; simp⟩
theorem opW_len (cs : List Nat) (i : Nat) : (opW cs i).length ≤ 2 ∧ opW cs i ≠ [] := by
  unfold opW
  split
  · refine ⟨?_, by simp⟩
    split <;> simp
  · simp
theorem join_len (m : Nat) (s : List UInt8) : ∀ ws : List (List UInt8), (∀ w ∈ ws, w.length ≤ m) → (Lib.join ws s).length ≤ ws.length * (m + s.length)
  | [], _ => by simp [Lib.join]
  | [w], h => by rw [Lib.join_one]; have := h w (by simp); simp; omega
  | w :: x :: r, h => by
    have ih := join_len m s (x :: r) fun y hy => h y (List.mem_cons_of_mem _ hy)
    have := h w (by simp)
    rw [join_cons2, List.length_append, List.length_append, List.length_cons, Nat.succ_mul]
    omega
/-- The code of a text. -/
def parseC (s : List UInt8) : Option (List Nat) := if s = [] then some [] else parseW (splS 32 s)
end Go.Proofs.YtbicfaiabpcgfaaGreatDoor
namespace Go.Proofs.YtbicfaiabpcgfaaGreatDoor
open Go.RowKit Go.Shelf

theorem bits15 : ∀ c : Fin 256, bits .and .u8 (c.1 : Int) 15 = ((c.1 % 16 : Nat) : Int) := by decide +kernel
theorem run_dig : ∀ (d : Nat), d < 16 → ∀ W : World, (Instr.index 9 (.string ⟨#[48, 49, 50, 51, 52, 53, 54, 55, 56, 57, 97, 98, 99, 100, 101, 102]⟩) (.int .u8 d)).run Tryz.prog W = .ok (.int .u8 ((hexc d).toNat : Nat)) W
  | 0, _, _ => by kernel_rfl
  | 1, _, _ => by kernel_rfl
  | 2, _, _ => by kernel_rfl
  | 3, _, _ => by kernel_rfl
  | 4, _, _ => by kernel_rfl
  | 5, _, _ => by kernel_rfl
  | 6, _, _ => by kernel_rfl
  | 7, _, _ => by kernel_rfl
  | 8, _, _ => by kernel_rfl
  | 9, _, _ => by kernel_rfl
  | 10, _, _ => by kernel_rfl
  | 11, _, _ => by kernel_rfl
  | 12, _, _ => by kernel_rfl
  | 13, _, _ => by kernel_rfl
  | 14, _, _ => by kernel_rfl
  | 15, _, _ => by kernel_rfl
  | n + 16, h, _ => absurd h (by omega)
set_option maxRecDepth 100000 in
set_option maxHeartbeats 4000000 in
theorem hexP_any (l : List Nat) (a : Option Addr) (c : Nat) (w : World) (hr : RowAt .u8 w a (natI l)) (h256 : ∀ x ∈ l, x < 256) (hl : l.length ≤ 1000) :
    Calls Tryz.prog 35 #[.slice a l.length c] w fun e w' => e = .returned (.string ⟨(hexN l).toArray⟩) ∧ Below w.heap.size w w' := by
  have hB0 : Bld w.heap.size w.heap.size [] (w.alloc (.cells #[.pointer none, .slice none 0 0] 99)) := Lib.fresh_isBuilder _ _ w
  have hb0 : Below w.heap.size w (w.alloc (.cells #[.pointer none, .slice none 0 0] 99)) := xalloc (xrefl w) _
  have hh := Lib.hid (bldStr_any w.heap.size w.heap.size [] ⟨#[48, 120]⟩ (w.alloc (.cells #[.pointer none, .slice none 0 0] 99)) hB0 (by simp; decide) (by simp))
  replace hb0 := Lib.hid hb0
  replace hr := Lib.hid hr
  clear hB0
  go_enter Tryz.func35, Tryz.ntmps35
  go_wp2_with (go_at_call 56; refine hh.out.mono ?_; rintro e w1 ⟨rfl, hB1, hb1⟩; replace hB1 := Lib.hid hB1; replace hb1 := Lib.hid (hb0.out.trans hb1); clear hh hb0)
  go_loopw [9] (fun iv wx => ∃ i : Nat, i ≤ l.length ∧ iv = .int .i64 i ∧ Hid (BldAt w.heap.size w.heap.size (.pointer (some ⟨w.heap.size, 0, none⟩)) (Lib.byteCells (48 :: 120 :: hexL (natI (l.take i)))) wx) ∧ Hid (Below w.heap.size w wx)) (fun iv _ => l.length - (intOf iv).toNat)
  case atStart => exact ⟨0, by omega, rfl, Lib.hid hB1.out, hb1⟩
  case round =>
    clear hB1 hb1
    obtain ⟨i, hi, rfl, hB, hb⟩ := hrel
    have hws := hb.out.size
    by_cases hlt : i < l.length
    · have hltI : (i : Int) < l.length := by omega
      obtain ⟨yb, yo, rfl, hc⟩ := (hr.out.below hb.out) i (by rw [natI_len]; exact hlt)
      rw [natI_get] at hc
      have hcl := h256 l[i] (List.getElem_mem hlt)
      have htk : hexL (natI (l.take (i + 1))) = hexL (natI (l.take i)) ++ [hexc (l[i] / 16), hexc (l[i] % 16)] := by
        rw [List.take_succ_eq_append_getElem hlt, hexL_app, hexL_cons, hexL_nil]
      generalize l[i] = c at *
      have h15 := bits15 ⟨c, hcl⟩
      simp only at h15
      obtain ⟨d, hd⟩ : ∃ d : Nat, d = c / 16 := ⟨_, rfl⟩
      obtain ⟨e, he⟩ : ∃ e : Nat, e = c % 16 := ⟨_, rfl⟩
      have hdI : (c : Int) / 16 = (d : Int) := by omega
      have hd16 := run_dig d (by omega)
      have he16 := run_dig e (by omega)
      rw [← he] at h15
      rw [← hd, ← he] at htk
      have hlen : (hexL (natI (l.take i))).length ≤ 2000 := by rw [hexL_len, natI_len, List.length_take]; omega
      generalize hexL (natI (l.take i)) = H at *
      generalize hexc d = hx at *
      generalize hexc e = hy at *
      have hw1 := Lib.hid (bldByte_any w.heap.size w.heap.size _ (hx.toNat : Nat) wr (.inr hB.out) (by simp [Lib.byteCells]; omega) hws)
      have hd255 : (d : Int) < 256 := by omega
      have he255 : (e : Int) < 256 := by omega
      clear hd he hcl
      replace htk := Lib.hid htk
      go_wp2_with (first
        | (go_at_call 57; (with_reducible refine hw1.out.mono ?_); rintro e2 w2 ⟨rfl, hB2, hb2⟩; have hq2 := hb.out.trans hb2; have hw2 := Lib.hid (bldByte_any w.heap.size w.heap.size _ (hy.toNat : Nat) w2 (.inr hB2) (by simp [Lib.byteCells]; omega) hq2.size); replace hq2 := Lib.hid hq2; clear hw1)
        | (go_at_call 57; (with_reducible refine hw2.out.mono ?_); rintro e3 w3 ⟨rfl, hB3, hb3⟩; have hq3 := Lib.hid (hq2.out.trans hb3); replace hB3 := Lib.hid hB3; clear hw2))
      go_roundw
      case rel => exact ⟨i + 1, by omega, by go_num, Lib.hid (by rw [htk.out]; simpa [Lib.byteCells] using hB3.out), hq3⟩
      case measure => simp [intOf] <;> omega
    · obtain rfl : i = l.length := by omega
      have hfin : Hid (Bld w.heap.size w.heap.size (Lib.byteCells (hexN l)) wr) := Lib.hid (by
        have := hB.out
        rw [List.take_length] at this
        exact .inr this)
      have hst := Lib.hid (Tryz.Builder_String w.heap.size w.heap.size (hexN l) wr hfin.out (by unfold hexN; simp))
      clear hlt hB hfin
      go_wp2_with (go_at_call 58; refine hst.out.mono ?_; rintro e2 w2 ⟨rfl, hb2⟩)
      go_ret
      exact ⟨rfl, hb.out.trans hb2⟩
end Go.Proofs.YtbicfaiabpcgfaaGreatDoor
namespace Go.Proofs.YtbicfaiabpcgfaaGreatDoor
open Go.RowKit Go.Shelf

def digI (c : Nat) : Int := match digO (UInt8.ofNat c) with | some d => (d : Int) | none => -1
end Go.Proofs.YtbicfaiabpcgfaaGreatDoor
namespace Go.Proofs.YtbicfaiabpcgfaaGreatDoor
open Go.RowKit

theorem refSize_any (c : Nat) (w : World) (hc : c < 256) : Calls Tryz.prog 10 #[.int .u8 c] w fun e w' => (∃ nm i o g q, e = .returned (.agg #[.string nm, .int .i64 i, .int .i64 o, .int .u64 g, .bool q, .int .i64 (szN c)])) ∧ Below w.heap.size w w' :=
  (refInfo_any c w hc).mono fun e w' h => ⟨⟨⟨(infoN c).name.toArray⟩, (infoN c).ins, (infoN c).outs, (infoN c).gas, (infoN c).quiet, by rw [h.1]; unfold infoV; rw [info_size c hc]⟩, h.2⟩
@[go_sem high] theorem field_size (v0 v1 v2 v3 v4 v5 : Value) (w : World) : (Instr.field 25 (.agg #[v0, v1, v2, v3, v4, v5]) 5).run Tryz.prog w = .ok v5 w := by kernel_rfl
def inN (l : List Nat) (n : Int) : Bool := l.any fun x => (x : Int) == n
theorem inN_nat (l : List Nat) (n : Nat) : inN l n = decide (n ∈ l) := by
  unfold inN
  rw [Bool.eq_iff_iff, List.any_eq_true, decide_eq_true_eq]
  constructor
  · rintro ⟨x, h1, h2⟩
    rw [beq_iff_eq, Int.ofNat_inj] at h2
    rw [← h2]; exact h1
  · intro h; exact ⟨n, h, by simp⟩
set_option maxRecDepth 100000 in
set_option maxHeartbeats 1000000 in
theorem refOps_anyL (cs : List Nat) (a : Option Addr) (c : Nat) (w : World) (h : CodeL w a c cs) :
    Calls Tryz.prog 13 #[.slice a cs.length c] w fun e w' => (∃ v, e = .returned v ∧ OwnI w w' v (opsL cs)) ∧ Below w.heap.size w w' := by
  obtain ⟨i0, hi, hz0, hz1, hz2⟩ := info_parts info_int
  have hcl := h.len
  replace h := Lib.hid h
  go_enter Tryz.func13, Tryz.ntmps13
  go_wp2
  go_loopw [3, 4] (fun v i wx => ∃ (pre : List Nat) (k : Nat), k ≤ cs.length + 33 ∧ i = .int .i64 k ∧ Hid (OwnI w wx v pre) ∧ Hid (opsL cs = pre ++ opsA cs k) ∧ Hid (Below w.heap.size w wx)) (fun _ i _ => 1048700 - (intOf i).toNat)
  case atStart => exact ⟨[], 0, by omega, rfl, Lib.hid (OwnI.nil w), Lib.hid rfl, Lib.hid (xrefl w)⟩
  case round =>
    obtain ⟨pre, k, hk, rfl, hown, hpre, hb⟩ := hrel
    by_cases hlt : k < cs.length
    · have hlt2 : (k : Int) < cs.length := by omega
      have hlt3 : ¬ (cs.length : Int) ≤ k := by omega
      obtain ⟨b, o, rfl, -, h256⟩ := h.out.get hlt
      have hcell : Hid (∀ W, Below w.heap.size w W → W.cell? ⟨b, o + k, none⟩ = some (.int .u8 (byN cs k))) := Lib.hid fun W hW => by
        obtain ⟨b', o', e, hc, -⟩ := (h.out.below hW).get hlt
        cases e; exact hc
      have hpl : pre.length ≤ 1048576 := by
        have := congrArg List.length hpre.out
        rw [List.length_append] at this
        have := opsL_len cs
        omega
      have hsb : w.heap.size ≤ (wr.alloc (.cells #[.int .i64 (k : Int)] 3)).heap.size := by rw [World.size_alloc]; have := hb.out.size; omega
      have hnx : Hid (nxN cs k = k + 1 + szN (byN cs k)) := Lib.hid rfl
      have hpre2 : Hid (opsL cs = (pre ++ [k]) ++ opsA cs (nxN cs k)) := Lib.hid (by rw [hpre.out, opsA_lt hlt]; simp)
      have hsz := szN_le (byN cs k)
      have hinf := Lib.hid fun W => refSize_any (byN cs k) W h256
      clear hpre
      generalize nxN cs k = nx at *
      generalize szN (byN cs k) = sz at *
      generalize byN cs k = x at *
      go_wp2_with (first
        | (at_builtin; refine wpList_append_row (wr.alloc (.cells #[.int .i64 (k : Int)] 3)) rfl _ _ 33 rfl w.heap.size 3 i0 (.int .i64 0) 8 Tryz.underlying33 hi hz0 hz1 hz2 rfl _ pre.length _ rfl (hown.out.alloc _) (some ⟨wr.heap.size, 0, none⟩) 1 .i64 [(k : Int)] rfl (by simp) (rowAt_one wr 3 (k : Int)) (by unfold maxLen; simp; omega) (by simp; omega) hsb ?_; intro v3 w3 ho3 hg3; have hb3 := (xalloc hb.out _).grown hg3 hsb (fun j hj => (hown.out.lt j hj).1); have hc3 := hcell.out w3 hb3; replace hb3 := Lib.hid hb3; replace ho3 := Lib.hid ho3; clear hg3)
        | (go_at_call 10; refine (hinf.out _).mono ?_; rintro e w4 ⟨⟨nm, i, o, g, q, rfl⟩, hb4⟩; replace hb4 := Lib.hid hb4))
      refine ⟨⟨pre ++ [k], nx, by have := hnx.out; omega, by have := hnx.out; simp; omega, Lib.hid ?_, hpre2, Lib.hid (xtrans hb3.out hb4.out)⟩, by have := hnx.out; simp [intOf]; omega⟩
      refine OwnI.below (l := pre ++ [k]) (w' := w3) ?_ hb4.out
      unfold OwnI
      rw [List.length_append, natI_app, List.map_append]
      exact ho3.out
    · have e : opsL cs = pre := by rw [hpre.out, opsA_ge (by omega)]; simp
      have hown2 : Hid (OwnI w wr _ (opsL cs)) := Lib.hid (by rw [e]; exact hown.out)
      have hlt3 : (cs.length : Int) ≤ k := by omega
      clear hlt hown hpre e
      go_wp2
      go_ret
      exact ⟨⟨_, rfl, hown2.out⟩, hb.out⟩
theorem refOps_any (cs : List Nat) (a : Option Addr) (c : Nat) (w : World) (h : CodeAt w a c cs) :
    Calls Tryz.prog 13 #[.slice a cs.length c] w fun e w' => (∃ v, e = .returned v ∧ OwnI w w' v (opsL cs)) ∧ Below w.heap.size w w' :=
  refOps_anyL cs a c w h.long
end Go.Proofs.YtbicfaiabpcgfaaGreatDoor
namespace Go.Proofs.YtbicfaiabpcgfaaGreatDoor
open Go.RowKit

theorem marks_step {cs : List Nat} {k : Nat} (h : k < (opsL cs).length) : ((opsL cs).take (k + 1)).filter (fun i => byN cs i == 91) = ((opsL cs).take k).filter (fun i => byN cs i == 91) ++ if byN cs (opsL cs)[k] = 91 then [(opsL cs)[k]] else [] := by
  rw [List.take_succ_eq_append_getElem h, List.filter_append]
  congr 1
  by_cases e : byN cs (opsL cs)[k] = 91
  · simp [e]
  · simp [e]
/-! Bytes as a word. -/
theorem numN_byte : ∀ (r : List Nat) (i : Nat), (∀ x ∈ r, x < 256) → byteAt (numN r.reverse) i = r.getD i 0
  | [], i, _ => by simp [numN, byteAt]
  | b :: r, 0, h => by
    have := h b (by simp)
    rw [List.reverse_cons, numN_snoc]
    unfold byteAt
    simp
    omega
  | b :: r, i + 1, h => by
    have hb := h b (by simp)
    rw [List.reverse_cons, numN_snoc]
    have e : byteAt (numN r.reverse * 256 + b) (i + 1) = byteAt (numN r.reverse) i := by
      unfold byteAt
      rw [Nat.pow_succ, Nat.mul_comm (256 ^ i), ← Nat.div_div_eq_div_mul]
      congr 2
      omega
    rw [e, numN_byte r i fun x hx => h x (by simp [hx])]
    simp
end Go.Proofs.YtbicfaiabpcgfaaGreatDoor
namespace Go.Proofs.YtbicfaiabpcgfaaGreatDoor
open Go.RowKit

theorem info_u8 : (Tryz.prog.info? 5).map (fun i => (i.zero, i.size, i.bytes)) = some (some (Value.int .u8 0), 1, 1) := by kernel_rfl
end Go.Proofs.YtbicfaiabpcgfaaGreatDoor
namespace Go.Proofs.YtbicfaiabpcgfaaGreatDoor
open Go.RowKit Go.Shelf

def OwnU (w w' : World) (v : Value) (bs : List Nat) : Prop := w'.ownsRow w.heap.size 5 1 v bs.length ((natI bs).map (Value.int .u8))
theorem OwnU.nil (w w' : World) : OwnU w w' (.slice none 0 0) [] := ⟨rfl, .inl ⟨rfl, rfl⟩⟩
theorem run_at_str (l : List UInt8) (j : Nat) (h : j < l.length) (W : World) : (Instr.index 9 (.string ⟨l.toArray⟩) (.int .i64 j)).run Tryz.prog W = .ok (.int .u8 (l[j].toNat : Nat)) W := by
  rw [run_index_string W 9 ⟨l.toArray⟩ .i64 j Tryz.underlying9]
  have hs : (⟨l.toArray⟩ : ByteArray).size = l.length := by show l.toArray.size = _; simp
  rw [dif_pos ⟨by omega, by rw [hs]; omega⟩]
  rfl
theorem digI_some {c : UInt8} {d : Nat} (h : digO c = some d) : digI c.toNat = d := by unfold digI; rw [show UInt8.ofNat c.toNat = c by simp, h]
theorem dig_lt {c : UInt8} {d : Nat} (h : digO c = some d) : d < 16 := (dig_some h).1
end Go.Proofs.YtbicfaiabpcgfaaGreatDoor
namespace Go.Proofs.YtbicfaiabpcgfaaGreatDoor
open Go.RowKit

theorem run_append_own_blkV {P : Program} (w : World) (base : Nat) (t ty e : TypeId) (i : TypeInfo) (z : Value) (size bytes : Nat) (ht : P.underlying t = some (.slice e)) (hi : P.info? e = some i) (hz : i.zero = some z)
    (hsize : i.size = size) (hby : i.bytes = bytes) (hzs : z.cells.size = size) (hsz : 0 < size) (v : Value) (n : Nat) (xs : List Value) (hown : w.ownsRow base e size v n xs)
    (a : Addr) (m c : Nat) (news : List Value) (hl : news.length = m * size) (hnews : ∀ j u, news[j]? = some u → w.cell? (a.add j) = some u) (h1 : ∀ u ∈ news, u.oneCell' = true)
    (h63 : n + m ≤ maxLen) (hbytes : (n + m) * bytes ≤ 140737488355328) (hbase : base ≤ w.heap.size) :
    ∃ v' w', (Builtin.append_ #[t, t] ty #[v, .slice (some a) m c]).run P w = .ok v' w' ∧ w'.ownsRow base e size v' (n + m) (xs ++ news) ∧ w.grownBy w' v.ownBlock ∧
      (v'.ownBlock = v.ownBlock ∨ ∀ k, v'.ownBlock = some k → w.heap.size ≤ k) := by
  obtain ⟨v', w', hr, ho, hg, -⟩ := run_append_own (P := P) w base t ty e i z size bytes ht hi hz hsize hby hzs hsz v n xs hown a m c news hl hnews h1 h63 hbytes hbase
  refine ⟨v', w', hr, ho, hg, ?_⟩
  rcases hown.2 with ⟨rfl, rfl⟩ | ⟨g, cap, cur, rfl, hbg, hgg, hnc, hcm, hcs, htake⟩
  · obtain ⟨v2, w2, hr2, ho2, -, -⟩ := run_append_own (P := P) w w.heap.size t ty e i z size bytes ht hi hz hsize hby hzs hsz (.slice none 0 0) 0 [] (World.ownsRow_nil _ _ _ _) a m c news hl hnews h1 (by simpa using h63) (by simpa using hbytes) (Nat.le_refl _)
    rw [hr] at hr2
    obtain ⟨rfl, rfl⟩ : v' = v2 ∧ w' = w2 := by injection hr2; exact ⟨by assumption, by assumption⟩
    exact .inr fun k hk => (ho2.lt k hk).1
  · by_cases hroom : n + m ≤ cap
    · have hmul : (n + m) * size ≤ cap * size := Nat.mul_le_mul_right _ hroom
      rw [Nat.add_mul] at hmul
      have hcells : ∀ j, j < cur.size → w.cell? ⟨g, j, none⟩ = cur[j]? := fun j _ => by rw [cell_of_row w g j cur e (0, 0) hgg]
      have hr2 := run_append_room_cells (P := P) w t ty e i ht hi g 0 n cap a m c news (by rw [hsize, hl]) hnews h1 hroom (fun j hj => by
        have hlt : 0 + n * i.size + j < cur.size := by rw [hsize, hcs]; omega
        rw [hcells _ hlt, Array.getElem?_eq_getElem hlt]; rfl) (fun j hj => frozen_of_row w g _ cur e hgg)
      rw [hr] at hr2
      obtain ⟨rfl, rfl⟩ : v' = .slice (some ⟨g, 0, none⟩) (n + m) cap ∧ w' = _ := by injection hr2; exact ⟨by assumption, by assumption⟩
      exact .inl rfl
    · obtain ⟨v2, w2, hr2, ho2, -⟩ := run_append_arg_grows (P := P) w t ty e i z size bytes ht hi hz hsize hby hzs hsz ⟨g, 0, none⟩ n cap xs hown.1 (fun j u hj => hown.cells (g := g) rfl j u hj) a m c news hl hnews (by omega) h63 hbytes
      rw [hr] at hr2
      obtain ⟨rfl, rfl⟩ : v' = v2 ∧ w' = w2 := by injection hr2; exact ⟨by assumption, by assumption⟩
      exact .inr fun k hk => (ho2.lt k hk).1

theorem wpListIn_append_blkV {F : Fence} {N : Nat} {P : Program} (w : World) {ops : Array Oper} {rest : List Oper} {o : Oper} {ac : Act} {Q : Exit → Act → World → Prop} (hgd : o.guard = none) (s x : Operand) (t : TypeId)
    (hop : o.op = .call { callee := .builtin .append, args := #[s, x], argTypes := #[t, t] })
    (base : Nat) (e : TypeId) (i : TypeInfo) (z : Value) (size bytes : Nat) (ht : P.underlying t = some (.slice e)) (hi : P.info? e = some i) (hz : i.zero = some z)
    (hsize : i.size = size) (hby : i.bytes = bytes) (hzs : z.cells.size = size) (hsz : 0 < size) (v : Value) (n : Nat) (xs : List Value) (hs : ac.eval s = v) (hown : w.ownsRow base e size v n xs)
    (a : Addr) (m c : Nat) (news : List Value) (hx : ac.eval x = .slice (some a) m c) (hl : news.length = m * size) (hnews : ∀ j u, news[j]? = some u → w.cell? (a.add j) = some u) (h1 : ∀ u ∈ news, u.oneCell' = true)
    (h63 : n + m ≤ maxLen) (hbytes : (n + m) * bytes ≤ 140737488355328) (hbase : base ≤ w.heap.size)
    (hK : ∀ v' w', w'.ownsRow base e size v' (n + m) (xs ++ news) → w.grownBy w' v.ownBlock → (v'.ownBlock = v.ownBlock ∨ ∀ k, v'.ownBlock = some k → w.heap.size ≤ k) → wpListIn F N P ops Q rest (ac.put o.dst v') w') : wpListIn F N P ops Q (o :: rest) ac w := by
  refine wpListIn_plain hgd fun K hK' => ?_
  obtain ⟨v', w', hrun, r1, r2, r3⟩ := run_append_own_blkV (P := P) w base t o.type e i z size bytes ht hi hz hsize hby hzs hsz v n xs hown a m c news hl hnews h1 h63 hbytes hbase
  unfold Oper.wpIn
  refine ⟨?_, ?_⟩
  · simp [Oper.about, hop, resolve, Target.leads, Sem.run_pure]
  · rw [Oper.semAt_plain F _ _ (by rw [hop]; intro c hc'; cases hc')]
    simp [execOp, hop, resolve, invoke, builtin, hs, hx, hrun, Result.andThen]
    exact hK' _ _ (hK v' w' r1 r2 r3)
theorem flat_get {α β : Type} (k : Nat) (g : α → List β) (hg : ∀ x, (g x).length = k) : ∀ (l : List α) (i j : Nat) (h : i < l.length), j < k → (l.flatMap g)[i * k + j]? = (g l[i])[j]?
  | x :: l, 0, j, _, hj => by
    rw [List.flatMap_cons, Nat.zero_mul, Nat.zero_add, List.getElem?_append_left (by rw [hg]; exact hj)]; rfl
  | x :: l, i + 1, j, h, hj => by
    rw [List.flatMap_cons, List.getElem?_append_right (by rw [hg, Nat.add_mul]; omega), hg, show (i + 1) * k + j - k = i * k + j by rw [Nat.add_mul]; omega]
    exact flat_get k g hg l i j (by simpa using h) hj
end Go.Proofs.YtbicfaiabpcgfaaGreatDoor
namespace Go.Proofs.YtbicfaiabpcgfaaGreatDoor
open Go.RowKit Go.Shelf

def sV (w : List UInt8) : Value := .string ⟨w.toArray⟩
theorem info_str : (Tryz.prog.info? 9).map (fun i => (i.zero, i.size, i.bytes)) = some (some (.string ⟨#[]⟩), 1, 16) := by kernel_rfl
end Go.Proofs.YtbicfaiabpcgfaaGreatDoor
namespace Go.Proofs.YtbicfaiabpcgfaaGreatDoor
open Go.RowKit Go.Shelf

def txK (cs : List Nat) (k : Nat) : List UInt8 := Lib.join (((opsL cs).take k).flatMap (opW cs)) [32]
theorem txK_all (cs : List Nat) : txK cs (opsL cs).length = textC cs := by unfold txK textC wordsN; rw [List.take_length]
theorem txK_len {cs : List Nat} (h : ∀ b ∈ cs, b < 256) (hl : cs.length ≤ 1000) (k : Nat) : (txK cs k).length ≤ 140000 := by
  unfold txK
  have h1 := join_len 66 [32] (((opsL cs).take k).flatMap (opW cs)) (fun w hw => by
    obtain ⟨i, _, hi⟩ := List.mem_flatMap.1 hw
    exact (opW_good h i w hi).2)
  have h2 : (((opsL cs).take k).flatMap (opW cs)).length ≤ 2 * ((opsL cs).take k).length := by
    generalize (opsL cs).take k = l
    induction l with
    | nil => simp
    | cons a l ih => rw [List.flatMap_cons, List.length_append, List.length_cons]; have := (opW_len cs a).1; omega
  have h3 : ((opsL cs).take k).length ≤ 1000 := by rw [List.length_take]; have := opsL_len cs; omega
  simp only [List.length_singleton] at h1
  omega
end Go.Proofs.YtbicfaiabpcgfaaGreatDoor
namespace Go.Proofs.YtbicfaiabpcgfaaGreatDoor
open Go.RowKit Go.Shelf

theorem pw_one {P : Option (List Nat)} {bs r w op} (h : P = (parseW (w :: r)).map (bs ++ ·)) (hn : namedO w = some op) (hz : szN op = 0) : P = (parseW r).map (bs ++ [op] ++ ·) := by
  rw [h, parseW, hn]
  dsimp only
  rw [if_pos hz]
  cases parseW r <;> simp
theorem pw_end {P : Option (List Nat)} {bs w op} (h : P = (parseW [w]).map (bs ++ ·)) (hn : namedO w = some op) (hz : ¬ szN op = 0) : P = none := by
  rw [h, parseW, hn]
  dsimp only
  rw [if_neg hz]; rfl
theorem pw_two {P : Option (List Nat)} {bs r w x op} (h : P = (parseW (w :: x :: r)).map (bs ++ ·)) (hn : namedO w = some op) (hz : ¬ szN op = 0) :
    (unhexN x = none → P = none) ∧ ∀ us, unhexN x = some us → (us.length ≠ szN op → P = none) ∧ (us.length = szN op → P = (parseW r).map (bs ++ [op] ++ us ++ ·)) := by
  rw [parseW, hn] at h
  dsimp only at h
  rw [if_neg hz] at h
  refine ⟨fun e => by rw [h, e]; rfl, fun us e => ⟨fun hl => by rw [h, e]; dsimp only; rw [if_neg hl]; rfl, fun hl => ?_⟩⟩
  rw [h, e]; dsimp only; rw [if_pos hl]
  cases parseW r <;> simp
theorem pw_hex {P : Option (List Nat)} {bs r w} (h : P = (parseW (w :: r)).map (bs ++ ·)) (hn : namedO w = none) :
    (unhexN w = none → P = none) ∧ ∀ us, unhexN w = some us → (us.length ≠ 1 → P = none) ∧ ∀ b, us = [b] → (namedN b = true → P = none) ∧ (namedN b = false → P = (parseW r).map (bs ++ [b] ++ ·)) := by
  rw [parseW.eq_def] at h
  dsimp only at h
  rw [hn] at h
  dsimp only at h
  refine ⟨fun e => by rw [h, e]; rfl, fun us e => ⟨fun hl => ?_, fun b hb => ?_⟩⟩
  · rw [h, e]
    match us, hl with
    | [], _ => rfl
    | [x], hl => exact absurd rfl hl
    | _ :: _ :: _, _ => rfl
  · subst hb
    rw [e] at h
    dsimp only at h
    refine ⟨fun hb => by rw [h, if_pos hb]; rfl, fun hb => ?_⟩
    rw [h, if_neg (by rw [hb]; decide)]
    cases parseW r <;> simp
theorem spl_size (c : UInt8) : ∀ l, (splS c l).length ≤ l.length + 1 ∧ ∀ w ∈ splS c l, w.length ≤ l.length
  | [] => by simp [splS]
  | x :: l => by
    obtain ⟨h1, h2⟩ := spl_size c l
    unfold splS
    split
    · refine ⟨by simp; omega, fun w hw => ?_⟩
      rcases List.mem_cons.1 hw with rfl | hw
      · simp
      · have := h2 w hw; simp; omega
    · cases hq : splS c l with
      | nil => exact absurd hq (spl_ne c l)
      | cons w r =>
        rw [hq] at h1 h2
        refine ⟨by simp at h1 ⊢; omega, fun u hu => ?_⟩
        dsimp only at hu
        rcases List.mem_cons.1 hu with rfl | hu
        · have := h2 w (by simp); simp; omega
        · have := h2 u (by simp [hu]); simp; omega
@[go_sem high] theorem field_nm0 (v0 v1 v2 v3 v4 v5 : Value) (w : World) : (Instr.field 25 (.agg #[v0, v1, v2, v3, v4, v5]) 0).run Tryz.prog w = .ok v0 w := by kernel_rfl
def parseNo (s : List UInt8) : Nat := if 65536 < s.length then 3 else match parseC s with
  | none => 200
  | some _ => 0
def parseL (s : List UInt8) : List Nat := if 65536 < s.length then [] else (parseC s).getD []
theorem own_lo {w w1 w2 : World} {v : Value} {bs : List Nat} (h : OwnU w1 w2 v bs) (hb : w.heap.size ≤ w1.heap.size) : OwnU w w2 v bs := by
  refine ⟨h.1, ?_⟩
  rcases h.2 with h0 | ⟨g, cap, cur, e, hg, r⟩
  · exact .inl h0
  · exact .inr ⟨g, cap, cur, e, by omega, r⟩
theorem OwnU.at {w w' : World} {v : Value} {l : List Nat} (h : OwnU w w' v l) : ∃ a c, v = .slice a l.length c ∧ RowAt .u8 w' a (natI l) ∧ (a = none → c = 0) := by
  obtain ⟨a, c, e, hr, hn, -, -⟩ := rowAt_own h
  rw [natI_len] at e
  exact ⟨a, c, e, hr, hn⟩
end Go.Proofs.YtbicfaiabpcgfaaGreatDoor
namespace Go.Proofs.YtbicfaiabpcgfaaGreatDoor
open Go.RowKit

theorem inN_true {l : List Nat} {n : Int} (h : inN l n = true) : ∃ k ∈ l, (k : Int) = n := by
  unfold inN at h
  rw [List.any_eq_true] at h
  obtain ⟨k, h1, h2⟩ := h
  exact ⟨k, h1, by simpa using h2⟩
/-- What a PUSH at a place puts; none. -/
def pushZ (cs : List Nat) (n : Int) : Option Nat := if inN (opsL cs) n = true then pushV cs n.toNat else none
theorem pushZ_nat (cs : List Nat) (n : Nat) : pushZ cs n = pushN cs n := by
  unfold pushZ pushN
  rw [inN_nat, Int.toNat_natCast]
  simp
def optV (r : Option Nat) : Value := .tuple #[wordV (r.getD 0), .bool r.isSome]
end Go.Proofs.YtbicfaiabpcgfaaGreatDoor
namespace Go.Proofs.YtbicfaiabpcgfaaGreatDoor
open Go.RowKit

@[go_sem high] theorem field_name (v0 v1 v2 v3 v4 v5 : Value) (w : World) : (Instr.field 25 (.agg #[v0, v1, v2, v3, v4, v5]) 0).run Tryz.prog w = .ok v0 w := by kernel_rfl
end Go.Proofs.YtbicfaiabpcgfaaGreatDoor
namespace Go.Proofs.YtbicfaiabpcgfaaGreatDoor
open Go.RowKit

theorem rangeAt_below {w w' : World} {b o : Nat} {cs : List Value} (h : w.rangeAt b o cs) (hb : Below w.heap.size w w') : w'.rangeAt b o cs := fun j v hj => cbel hb (h j v hj)
end Go.Proofs.YtbicfaiabpcgfaaGreatDoor
