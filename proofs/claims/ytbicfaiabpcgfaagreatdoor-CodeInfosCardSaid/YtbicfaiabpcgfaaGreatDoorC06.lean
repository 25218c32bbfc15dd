/- Texts of this claim, merged; no condition. -/
import Derived.Lib.Join
import Derived.Test.YtbicfaiabpcgfaaGreatDoorC00
import Derived.Test.YtbicfaiabpcgfaaGreatDoorC05
import Derived.Test.YtbicfaiabpcgfaaGreatDoorC03
set_option linter.all false
namespace Go.Proofs.YtbicfaiabpcgfaaGreatDoor

/-! Bytes as text. -/
def hexN (l : List Nat) : List UInt8 := [48, 120] ++ hexL (natI l)
def digO (c : UInt8) : Option Nat := (List.range 16).find? fun d => hexc d == c
def unhexP : List UInt8 → Option (List Nat)
  | [] => some []
  | [_] => none
  | a :: b :: l => match digO a, digO b, unhexP l with
    | some x, some y, some r => some ((16 * x + y) :: r)
    | _, _, _ => none
def unhexN : List UInt8 → Option (List Nat)
  | 48 :: 120 :: l => unhexP l
  | _ => none
theorem dig_hex : ∀ d, d < 16 → digO (hexc d) = some d := by decide
theorem dig_some {c : UInt8} {d : Nat} (h : digO c = some d) : d < 16 ∧ hexc d = c := by
  unfold digO at h
  have h1 := List.mem_of_find?_eq_some h
  have h2 := List.find?_some h
  exact ⟨List.mem_range.1 h1, by simpa using h2⟩
theorem hexL_nil : hexL (natI []) = [] := rfl
theorem hexL_cons (n : Nat) (l : List Nat) : hexL (natI (n :: l)) = hexc (n / 16) :: hexc (n % 16) :: hexL (natI l) := by
  unfold hexL natI
  rw [List.map_cons, List.flatMap_cons]
  have e1 : ((n : Int) / 16).toNat = n / 16 := by omega
  have e2 : ((n : Int) % 16).toNat = n % 16 := by omega
  simp [hexB, e1, e2]
theorem hexL_app (l m : List Nat) : hexL (natI (l ++ m)) = hexL (natI l) ++ hexL (natI m) := by unfold hexL natI; simp
theorem unhexP_some : ∀ {s : List UInt8} {l : List Nat}, unhexP s = some l → hexL (natI l) = s ∧ (∀ b ∈ l, b < 256) ∧ s.length = 2 * l.length
  | [], l, h => by cases h; exact ⟨rfl, by simp, rfl⟩
  | [_], l, h => by cases h
  | a :: b :: s, l, h => by
    rw [unhexP] at h
    cases h1 : digO a with
    | none => rw [h1] at h; cases h
    | some x => cases h2 : digO b with
      | none => rw [h1, h2] at h; cases h
      | some y => cases h3 : unhexP s with
        | none => rw [h1, h2, h3] at h; cases h
        | some r =>
          rw [h1, h2, h3] at h
          cases h
          obtain ⟨i1, i2, i3⟩ := unhexP_some h3
          obtain ⟨d1, e1⟩ := dig_some h1
          obtain ⟨d2, e2⟩ := dig_some h2
          refine ⟨?_, ?_, by simp [i3]; omega⟩
          · rw [hexL_cons, show (16 * x + y) / 16 = x by omega, show (16 * x + y) % 16 = y by omega, e1, e2, i1]
          · intro c hc
            rcases List.mem_cons.1 hc with rfl | hc
            · omega
            · exact i2 c hc
theorem unhexN_some {s : List UInt8} {l : List Nat} (h : unhexN s = some l) : hexN l = s ∧ ∀ b ∈ l, b < 256 := by
  unfold unhexN at h
  split at h
  · obtain ⟨h1, h2, -⟩ := unhexP_some h
    exact ⟨by unfold hexN; rw [h1]; rfl, h2⟩
  · cases h

/-! The ops of names. -/
def namedO (s : List UInt8) : Option Nat := (List.range 256).find? fun c => namedN c && (infoN c).name == s
theorem named_name : ∀ c : Nat, c < 256 → namedN c = true → namedO (infoN c).name = some c := by decide +kernel
theorem named_some {s : List UInt8} {c : Nat} (h : namedO s = some c) : c < 256 ∧ namedN c = true ∧ (infoN c).name = s := by
  unfold namedO at h
  have h1 := List.mem_of_find?_eq_some h
  have h2 := List.find?_some h
  simp only [Bool.and_eq_true, beq_iff_eq] at h2
  exact ⟨List.mem_range.1 h1, h2.1, h2.2⟩
theorem size_named : ∀ c : Nat, c < 256 → 0 < szN c → namedN c = true := by decide +kernel

/-! The words of a text. -/
def opW (cs : List Nat) (i : Nat) : List (List UInt8) :=
  if namedN (byN cs i) = true then (infoN (byN cs i)).name :: (if 0 < szN (byN cs i) then [hexN (restN cs i)] else []) else [hexN [byN cs i]]
def wordsN (cs : List Nat) : List (List UInt8) := (opsL cs).flatMap (opW cs)
def textC (cs : List Nat) : List UInt8 := Lib.join (wordsN cs) [32]
def parseW : List (List UInt8) → Option (List Nat)
  | [] => some []
  | w :: r => match namedO w with
    | some op => if szN op = 0 then (parseW r).map (op :: ·) else match r with
      | [] => none
      | h :: r' => match unhexN h with
        | none => none
        | some bs => if bs.length = szN op then (parseW r').map fun l => op :: (bs ++ l) else none
    | none => match unhexN w with
      | some [b] => if namedN b = true then none else (parseW r).map (b :: ·)
      | _ => none

/-! Ops behind a first one. -/
theorem byN_app (p l : List Nat) (i : Nat) : byN (p ++ l) (p.length + i) = byN l i := by unfold byN; rw [List.getD_eq_getElem?_getD, List.getD_eq_getElem?_getD, List.getElem?_append_right (by omega), Nat.add_sub_cancel_left]
theorem opsF_app (p l : List Nat) : ∀ f i, opsF (p ++ l) f (p.length + i) = (opsF l f i).map (p.length + ·)
  | 0, _ => rfl
  | f + 1, i => by
    unfold opsF
    have e : (p.length + i < (p ++ l).length) = (i < l.length) := by rw [List.length_append]; exact propext (by omega)
    have en : nxN (p ++ l) (p.length + i) = p.length + nxN l i := by unfold nxN; rw [byN_app]; omega
    simp only [e]
    split
    · rw [en, opsF_app p l f, List.map_cons]
    · rfl
theorem opsA_app (p l : List Nat) : opsA (p ++ l) p.length = (opsL l).map (p.length + ·) := by
  have := opsF_app p l (l.length) 0
  unfold opsL opsA
  rw [Nat.add_zero] at this
  rw [List.length_append, Nat.add_sub_cancel_left, Nat.sub_zero]
  exact this
theorem restN_get (cs : List Nat) (i j : Nat) (h : j < (restN cs i).length) : (restN cs i)[j] = byN cs (i + 1 + j) := by simp [restN]
theorem restN_app (p l : List Nat) (i : Nat) : restN (p ++ l) (p.length + i) = restN l i := by
  unfold restN
  rw [byN_app]
  apply List.map_congr_left
  intro j _
  rw [show p.length + i + 1 + j = p.length + (i + 1 + j) by omega, byN_app]
theorem opW_app (p l : List Nat) (i : Nat) : opW (p ++ l) (p.length + i) = opW l i := by unfold opW; rw [byN_app, restN_app]
theorem flatMap_eq {α β : Type} {l : List α} {f g : α → List β} (h : ∀ x ∈ l, f x = g x) : l.flatMap f = l.flatMap g := by
  induction l with
  | nil => rfl
  | cons x l ih => rw [List.flatMap_cons, List.flatMap_cons, h x (by simp), ih fun y hy => h y (List.mem_cons_of_mem _ hy)]
theorem words_app (c : Nat) (bs l : List Nat) (h : bs.length = szN c) : wordsN (c :: (bs ++ l)) = opW (c :: (bs ++ l)) 0 ++ wordsN l := by
  unfold wordsN
  have e : opsL (c :: (bs ++ l)) = 0 :: (opsL l).map ((c :: bs).length + ·) := by
    have h1 := opsA_lt (cs := c :: (bs ++ l)) (i := 0) (by simp)
    have h2 : nxN (c :: (bs ++ l)) 0 = (c :: bs).length := by
      show 0 + 1 + szN c = _
      rw [List.length_cons]; omega
    rw [h2] at h1
    have h3 := opsA_app (c :: bs) l
    rw [List.cons_append] at h3
    rw [h3] at h1
    exact h1
  rw [e, List.flatMap_cons, List.flatMap_map]
  congr 1
  apply flatMap_eq
  intro i _
  exact opW_app (c :: bs) l i
theorem opW_head (c : Nat) (bs l : List Nat) (h : bs.length = szN c) (h0 : namedN c = true) : opW (c :: (bs ++ l)) 0 = (infoN c).name :: (if 0 < szN c then [hexN bs] else []) := by
  have hb : byN (c :: (bs ++ l)) 0 = c := rfl
  unfold opW
  rw [hb, if_pos h0]
  congr 1
  split
  · congr 2
    apply List.ext_getElem
    · rw [restN_len, hb, h]
    · intro j h1 h2
      rw [restN_get]
      show (c :: (bs ++ l)).getD (0 + 1 + j) 0 = _
      rw [show 0 + 1 + j = j + 1 by omega, List.getD_cons_succ, List.getD_eq_getElem?_getD, List.getElem?_append_left h2, List.getElem?_eq_getElem h2]
      rfl
  · rfl
theorem opW_bare (c : Nat) (l : List Nat) (h0 : namedN c = false) : opW (c :: l) 0 = [hexN [c]] := by
  have hb : byN (c :: l) 0 = c := rfl
  unfold opW
  rw [hb, h0]
  rfl
/-- What is read from words, written again, is these words. -/
theorem parse_words : ∀ (n : Nat) (ws : List (List UInt8)) (l : List Nat), ws.length ≤ n → parseW ws = some l → wordsN l = ws ∧ ∀ b ∈ l, b < 256
  | n, [], l, _, h => by rw [parseW] at h; cases h; exact ⟨rfl, by simp⟩
  | 0, w :: r, l, hl, _ => by simp at hl
  | n + 1, w :: r, l, hl, h => by
    rw [List.length_cons] at hl
    rw [parseW] at h
    cases hw : namedO w with
    | some op =>
      obtain ⟨h1, h2, h3⟩ := named_some hw
      rw [hw] at h
      dsimp only at h
      by_cases hz : szN op = 0
      · rw [if_pos hz] at h
        obtain ⟨l', hl', rfl⟩ := Option.map_eq_some_iff.1 h
        obtain ⟨i1, i2⟩ := parse_words n r l' (by omega) hl'
        have e := words_app op [] l' (by rw [hz]; rfl)
        have e2 := opW_head op [] l' (by rw [hz]; rfl) h2
        rw [List.nil_append] at e e2
        refine ⟨by rw [e, e2, if_neg (by omega), h3, i1]; rfl, fun b hb => ?_⟩
        rcases List.mem_cons.1 hb with rfl | hb
        · exact h1
        · exact i2 b hb
      · rw [if_neg hz] at h
        cases r with
        | nil => cases h
        | cons x r' =>
          dsimp only at h
          cases hx : unhexN x with
          | none => rw [hx] at h; cases h
          | some bs =>
            rw [hx] at h
            dsimp only at h
            by_cases hb : bs.length = szN op
            · rw [if_pos hb] at h
              obtain ⟨l', hl', rfl⟩ := Option.map_eq_some_iff.1 h
              obtain ⟨i1, i2⟩ := parse_words n r' l' (by simp at hl; omega) hl'
              obtain ⟨u1, u2⟩ := unhexN_some hx
              refine ⟨by rw [words_app op bs l' hb, opW_head op bs l' hb h2, if_pos (by omega), h3, u1, i1]; rfl, fun b hb' => ?_⟩
              rcases List.mem_cons.1 hb' with rfl | hb'
              · exact h1
              · rcases List.mem_append.1 hb' with hb' | hb'
                · exact u2 b hb'
                · exact i2 b hb'
            · rw [if_neg hb] at h; cases h
    | none =>
      rw [hw] at h
      dsimp only at h
      split at h
      · rename_i b hu
        by_cases hn : namedN b = true
        · rw [if_pos hn] at h; cases h
        · rw [if_neg hn] at h
          obtain ⟨l', hl', rfl⟩ := Option.map_eq_some_iff.1 h
          obtain ⟨i1, i2⟩ := parse_words n r l' (by omega) hl'
          obtain ⟨u1, u2⟩ := unhexN_some hu
          have hb := u2 b (by simp)
          have hz : szN b = 0 := by
            cases hh : szN b with
            | zero => rfl
            | succ m => exact absurd (size_named b hb (by omega)) hn
          have e := words_app b [] l' (by rw [hz]; rfl)
          rw [List.nil_append] at e
          refine ⟨by rw [e, opW_bare b l' (by simpa using hn), i1, u1]; rfl, fun c hc => ?_⟩
          rcases List.mem_cons.1 hc with rfl | hc
          · exact hb
          · exact i2 c hc
      · cases h
/-! Text and words. -/
def splS (c : UInt8) : List UInt8 → List (List UInt8)
  | [] => [[]]
  | x :: l => if x = c then [] :: splS c l else match splS c l with
    | [] => [[x]]
    | w :: r => (x :: w) :: r
theorem spl_ne (c : UInt8) : ∀ l, splS c l ≠ []
  | [] => by simp [splS]
  | x :: l => by
    unfold splS
    split
    · simp
    · split <;> simp
theorem join_cons2 (w x : List UInt8) (r : List (List UInt8)) (s : List UInt8) : Lib.join (w :: x :: r) s = w ++ s ++ Lib.join (x :: r) s := by
  rw [Lib.join_cons, Lib.join_cons]; simp [Lib.joinTail]
theorem join_spl (c : UInt8) : ∀ l, Lib.join (splS c l) [c] = l
  | [] => by rw [splS, Lib.join_one]
  | x :: l => by
    have ih := join_spl c l
    unfold splS
    split
    · rename_i h
      subst h
      cases h2 : splS x l with
      | nil => exact absurd h2 (spl_ne x l)
      | cons w r => rw [h2] at ih; rw [join_cons2, ih]; rfl
    · cases h2 : splS c l with
      | nil => exact absurd h2 (spl_ne c l)
      | cons w r => rw [h2] at ih; dsimp only; rw [Lib.join_cons] at ih ⊢; rw [← ih]; rfl
theorem name_chars : ∀ c : Nat, c < 256 → (32 : UInt8) ∉ (infoN c).name ∧ (infoN c).name.length ≤ 14 := by decide +kernel
theorem hexc_space : ∀ d, d < 16 → hexc d ≠ 32 := by decide
theorem hexL_space : ∀ l : List Nat, (∀ b ∈ l, b < 256) → (32 : UInt8) ∉ hexL (natI l)
  | [], _ => by simp [hexL, natI]
  | n :: l, h => by
    have hn := h n (by simp)
    rw [hexL_cons]
    have h1 := hexc_space (n / 16) (by omega)
    have h2 := hexc_space (n % 16) (by omega)
    have h3 := hexL_space l fun b hb => h b (List.mem_cons_of_mem _ hb)
    simp only [List.mem_cons, not_or]
    exact ⟨Ne.symm h1, Ne.symm h2, h3⟩
theorem hexN_space (l : List Nat) (h : ∀ b ∈ l, b < 256) : (32 : UInt8) ∉ hexN l := by
  unfold hexN
  have := hexL_space l h
  simpa using this
theorem hexN_len (l : List Nat) : (hexN l).length = 2 + 2 * l.length := by unfold hexN; rw [List.length_append, hexL_len, natI_len]; rfl
theorem opW_good {cs : List Nat} (h : ∀ b ∈ cs, b < 256) (i : Nat) : ∀ w ∈ opW cs i, (32 : UInt8) ∉ w ∧ w.length ≤ 66 := by
  have hb := byN_lt h i
  obtain ⟨n1, n2⟩ := name_chars _ hb
  intro w hw
  unfold opW at hw
  split at hw
  · rcases List.mem_cons.1 hw with rfl | hw
    · exact ⟨n1, by omega⟩
    · split at hw
      · rw [List.mem_singleton] at hw
        subst hw
        exact ⟨hexN_space _ (restN_lt h i), by rw [hexN_len, restN_len]; have := szN_le (byN cs i); omega⟩
      · cases hw
  · rw [List.mem_singleton] at hw
    subst hw
    exact ⟨hexN_space _ (by simpa using hb), by rw [hexN_len]; simp⟩
theorem opW_len (cs : List Nat) (i : Nat) : (opW cs i).length ≤ 2 ∧ opW cs i ≠ [] := by
  unfold opW
  split
  · refine ⟨?_, by simp⟩
    split <;> simp
  · simp
theorem join_len (m : Nat) (s : List UInt8) : ∀ ws : List (List UInt8), (∀ w ∈ ws, w.length ≤ m) → (Lib.join ws s).length ≤ ws.length * (m + s.length)
  | [], _ => by simp [Lib.join]
  | [w], h => by rw [Lib.join_one]; have := h w (by simp); simp; omega
  | w :: x :: r, h => by
    have ih := join_len m s (x :: r) fun y hy => h y (List.mem_cons_of_mem _ hy)
    have := h w (by simp)
    rw [join_cons2, List.length_append, List.length_append, List.length_cons, Nat.succ_mul]
    omega
/-- The code of a text. -/
def parseC (s : List UInt8) : Option (List Nat) := if s = [] then some [] else parseW (splS 32 s)
theorem parse_text {s : List UInt8} {l : List Nat} (h : parseC s = some l) : textC l = s ∧ ∀ b ∈ l, b < 256 := by
  unfold parseC at h
  split at h
  · rename_i e; cases h; subst e; exact ⟨rfl, by simp⟩
  · obtain ⟨h1, h2⟩ := parse_words _ _ _ (Nat.le_refl _) h
    exact ⟨by unfold textC; rw [h1, join_spl], h2⟩
end Go.Proofs.YtbicfaiabpcgfaaGreatDoor
namespace Go.Proofs.YtbicfaiabpcgfaaGreatDoor
open Go.RowKit Go.Shelf

theorem bits15 : ∀ c : Fin 256, bits .and .u8 (c.1 : Int) 15 = ((c.1 % 16 : Nat) : Int) := by decide +kernel
theorem run_dig : ∀ (d : Nat), d < 16 → ∀ W : World, (Instr.index 9 (.string ⟨#[48, 49, 50, 51, 52, 53, 54, 55, 56, 57, 97, 98, 99, 100, 101, 102]⟩) (.int .u8 d)).run Tryz.prog W = .ok (.int .u8 ((hexc d).toNat : Nat)) W
  | 0, _, _ => by kernel_rfl
  | 1, _, _ => by kernel_rfl
  | 2, _, _ => by kernel_rfl
  | 3, _, _ => by kernel_rfl
  | 4, _, _ => by kernel_rfl
  | 5, _, _ => by kernel_rfl
  | 6, _, _ => by kernel_rfl
  | 7, _, _ => by kernel_rfl
  | 8, _, _ => by kernel_rfl
  | 9, _, _ => by kernel_rfl
  | 10, _, _ => by kernel_rfl
  | 11, _, _ => by kernel_rfl
  | 12, _, _ => by kernel_rfl
  | 13, _, _ => by kernel_rfl
  | 14, _, _ => by kernel_rfl
  | 15, _, _ => by kernel_rfl
  | n + 16, h, _ => absurd h (by omega)
set_option maxRecDepth 100000 in
set_option maxHeartbeats 4000000 in
theorem hexP_any (l : List Nat) (a : Option Addr) (c : Nat) (w : World) (hr : RowAt .u8 w a (natI l)) (h256 : ∀ x ∈ l, x < 256) (hl : l.length ≤ 1000) :
    Calls Tryz.prog 35 #[.slice a l.length c] w fun e w' => e = .returned (.string ⟨(hexN l).toArray⟩) ∧ Below w.heap.size w w' := by
  have hB0 : Bld w.heap.size w.heap.size [] (w.alloc (.cells #[.pointer none, .slice none 0 0] 99)) := Lib.fresh_isBuilder _ _ w
  have hb0 : Below w.heap.size w (w.alloc (.cells #[.pointer none, .slice none 0 0] 99)) := xalloc (xrefl w) _
  have hh := Lib.hid (bldStr_any w.heap.size w.heap.size [] ⟨#[48, 120]⟩ (w.alloc (.cells #[.pointer none, .slice none 0 0] 99)) hB0 (by simp; decide) (by simp))
  replace hb0 := Lib.hid hb0
  replace hr := Lib.hid hr
  clear hB0
  go_enter Tryz.func35, Tryz.ntmps35
  go_wp2_with (go_at_call 56; refine hh.out.mono ?_; rintro e w1 ⟨rfl, hB1, hb1⟩; replace hB1 := Lib.hid hB1; replace hb1 := Lib.hid (hb0.out.trans hb1); clear hh hb0)
  go_loopw [9] (fun iv wx => ∃ i : Nat, i ≤ l.length ∧ iv = .int .i64 i ∧ Hid (BldAt w.heap.size w.heap.size (.pointer (some ⟨w.heap.size, 0, none⟩)) (Lib.byteCells (48 :: 120 :: hexL (natI (l.take i)))) wx) ∧ Hid (Below w.heap.size w wx)) (fun iv _ => l.length - (intOf iv).toNat)
  case atStart => exact ⟨0, by omega, rfl, Lib.hid hB1.out, hb1⟩
  case round =>
    clear hB1 hb1
    obtain ⟨i, hi, rfl, hB, hb⟩ := hrel
    have hws := hb.out.size
    by_cases hlt : i < l.length
    · have hltI : (i : Int) < l.length := by omega
      obtain ⟨yb, yo, rfl, hc⟩ := (hr.out.below hb.out) i (by rw [natI_len]; exact hlt)
      rw [natI_get] at hc
      have hcl := h256 l[i] (List.getElem_mem hlt)
      have htk : hexL (natI (l.take (i + 1))) = hexL (natI (l.take i)) ++ [hexc (l[i] / 16), hexc (l[i] % 16)] := by
        rw [List.take_succ_eq_append_getElem hlt, hexL_app, hexL_cons, hexL_nil]
      generalize l[i] = c at *
      have h15 := bits15 ⟨c, hcl⟩
      simp only at h15
      obtain ⟨d, hd⟩ : ∃ d : Nat, d = c / 16 := ⟨_, rfl⟩
      obtain ⟨e, he⟩ : ∃ e : Nat, e = c % 16 := ⟨_, rfl⟩
      have hdI : (c : Int) / 16 = (d : Int) := by omega
      have hd16 := run_dig d (by omega)
      have he16 := run_dig e (by omega)
      rw [← he] at h15
      rw [← hd, ← he] at htk
      have hlen : (hexL (natI (l.take i))).length ≤ 2000 := by rw [hexL_len, natI_len, List.length_take]; omega
      generalize hexL (natI (l.take i)) = H at *
      generalize hexc d = hx at *
      generalize hexc e = hy at *
      have hw1 := Lib.hid (bldByte_any w.heap.size w.heap.size _ (hx.toNat : Nat) wr (.inr hB.out) (by simp [Lib.byteCells]; omega) hws)
      have hd255 : (d : Int) < 256 := by omega
      have he255 : (e : Int) < 256 := by omega
      clear hd he hcl
      replace htk := Lib.hid htk
      go_wp2_with (first
        | (go_at_call 57; (with_reducible refine hw1.out.mono ?_); rintro e2 w2 ⟨rfl, hB2, hb2⟩; have hq2 := hb.out.trans hb2; have hw2 := Lib.hid (bldByte_any w.heap.size w.heap.size _ (hy.toNat : Nat) w2 (.inr hB2) (by simp [Lib.byteCells]; omega) hq2.size); replace hq2 := Lib.hid hq2; clear hw1)
        | (go_at_call 57; (with_reducible refine hw2.out.mono ?_); rintro e3 w3 ⟨rfl, hB3, hb3⟩; have hq3 := Lib.hid (hq2.out.trans hb3); replace hB3 := Lib.hid hB3; clear hw2))
      go_roundw
      case rel => exact ⟨i + 1, by omega, by go_num, Lib.hid (by rw [htk.out]; simpa [Lib.byteCells] using hB3.out), hq3⟩
      case measure => simp [intOf] <;> omega
    · obtain rfl : i = l.length := by omega
      have hfin : Hid (Bld w.heap.size w.heap.size (Lib.byteCells (hexN l)) wr) := Lib.hid (by
        have := hB.out
        rw [List.take_length] at this
        exact .inr this)
      have hst := Lib.hid (Tryz.Builder_String w.heap.size w.heap.size (hexN l) wr hfin.out (by unfold hexN; simp))
      clear hlt hB hfin
      go_wp2_with (go_at_call 58; refine hst.out.mono ?_; rintro e2 w2 ⟨rfl, hb2⟩)
      go_ret
      exact ⟨rfl, hb.out.trans hb2⟩
end Go.Proofs.YtbicfaiabpcgfaaGreatDoor
namespace Go.Proofs.YtbicfaiabpcgfaaGreatDoor
open Go.RowKit Go.Shelf

theorem run_digI : ∀ (d : Nat), d < 16 → ∀ W : World, (Instr.index 9 (.string ⟨#[48, 49, 50, 51, 52, 53, 54, 55, 56, 57, 97, 98, 99, 100, 101, 102]⟩) (.int .i64 d)).run Tryz.prog W = .ok (.int .u8 ((hexc d).toNat : Nat)) W
  | 0, _, _ => by kernel_rfl
  | 1, _, _ => by kernel_rfl
  | 2, _, _ => by kernel_rfl
  | 3, _, _ => by kernel_rfl
  | 4, _, _ => by kernel_rfl
  | 5, _, _ => by kernel_rfl
  | 6, _, _ => by kernel_rfl
  | 7, _, _ => by kernel_rfl
  | 8, _, _ => by kernel_rfl
  | 9, _, _ => by kernel_rfl
  | 10, _, _ => by kernel_rfl
  | 11, _, _ => by kernel_rfl
  | 12, _, _ => by kernel_rfl
  | 13, _, _ => by kernel_rfl
  | 14, _, _ => by kernel_rfl
  | 15, _, _ => by kernel_rfl
  | n + 16, h, _ => absurd h (by omega)
theorem named_look (s : List UInt8) (h : ∀ c, c < 256 → (namedN c && (infoN c).name == s) = false) : namedO s = none := by
  unfold namedO
  rw [List.find?_eq_none]
  intro c hc
  rw [h c (List.mem_range.1 hc)]
  simp
set_option maxRecDepth 100000 in
set_option maxHeartbeats 8000000 in
theorem refNamed_any (s : List UInt8) (w : World) : Calls Tryz.prog 12 #[.string ⟨s.toArray⟩] w fun e w' => e = .returned (.tuple #[.int .u8 ((namedO s).getD 0 : Nat), .bool (namedO s).isSome]) ∧ Below w.heap.size w w' := by
  have hI := Lib.hid fun (c : Nat) W (hc : c < 256) => refInfo_any c W hc
  have h0 : Hid (Below w.heap.size w w) := Lib.hid (xrefl w)
  go_enter Tryz.func12, Tryz.ntmps12
  go_wp2
  go_loopw [4] (fun iv wx => ∃ i : Nat, i ≤ 256 ∧ iv = .int .i64 i ∧ Hid (∀ c, c < i → (namedN c && (infoN c).name == s) = false) ∧ Hid (Below w.heap.size w wx)) (fun iv _ => 256 - (intOf iv).toNat)
  case atStart => exact ⟨0, by omega, rfl, Lib.hid fun c h => by omega, h0⟩
  case round =>
    clear h0
    obtain ⟨i, hi, rfl, hno, hb⟩ := hrel
    by_cases hlt : i < 256
    · have hltI : (i : Int) < 256 := by omega
      have hw8 : IntKind.u8.wrap (i : Int) = (i : Int) := by simp [IntKind.wrap, IntKind.bits, IntKind.signed]; omega
      have hIi := Lib.hid (hI.out i wr hlt)
      have hnm := info_named i hlt
      have hhit : Hid (namedN i = true → ((infoN i).name == s) = true → namedO s = some i) := Lib.hid fun h1 h2 => by rw [← eq_of_beq h2]; exact named_name i hlt h1
      have hnx : Hid ((namedN i && (infoN i).name == s) = false → ∀ c, c < i + 1 → (namedN c && (infoN c).name == s) = false) := Lib.hid fun h c hc => by
        by_cases e : c = i
        · subst e; exact h
        · exact hno.out c (by omega)
      generalize infoN i = X at *
      generalize namedN i = nb at *
      have hws := hb.out.size
      obtain ⟨nm, iN, oN, gN, qN, zN⟩ := X
      by_cases he : nm = []
      · subst he
        have hnf : nb = false := by cases nb with
          | false => rfl
          | true => simp at hnm
        subst hnf
        have hn2 := Lib.hid (hnx.out rfl)
        clear hnx hhit hnm
        unfold infoV at hIi
        go_wp2_with (first
          | (go_at_call 10; refine hIi.out.mono ?_; rintro e w4 ⟨rfl, hb4⟩; have hq4 := Lib.hid (xtrans hb.out hb4); clear hb4)
          | (refine wpList_store_blkG rfl 25 _ _ rfl w4.heap.size rfl 25 noV (infL ⟨[], iN, oN, gN, qN, zN⟩) (BlkG.new w4 _ _) rfl rfl (by kernel_rfl) rfl ?_; intro w5 hX5 ho5; have hb5 := ho5.below (xalloc (xrefl w4) _) (by rw [World.size_alloc]; omega) (by rintro k rfl; exact Nat.le_refl _); have hc5 := hX5.cell 0 (by show 0 < 6; omega); simp only [infL, List.getElem_cons_zero] at hc5; replace hb5 := Lib.hid (xtrans hq4.out hb5); clear ho5 hX5))
        exact ⟨⟨i + 1, by omega, by go_num, hn2, hb5⟩, by simp [intOf] <;> omega⟩
      · have hie : nm.isEmpty = false := by cases nm with
          | nil => exact absurd rfl he
          | cons _ _ => rfl
        have hnt : nb = true := by cases nb with
          | true => rfl
          | false => simp [he] at hnm
        subst hnt
        cases ht : (nm == s) with
        | true =>
          have hq := hhit.out rfl ht
          clear hnx hhit hnm
          go_wp2_with (first
            | (go_at_call 10; refine hIi.out.mono ?_; rintro e w4 ⟨rfl, hb4⟩; have hq4 := Lib.hid (xtrans hb.out hb4); clear hb4)
            | (refine wpList_store_blkG rfl 25 _ _ rfl w4.heap.size rfl 25 noV (infL ⟨nm, iN, oN, gN, qN, zN⟩) (BlkG.new w4 _ _) rfl rfl (by kernel_rfl) rfl ?_; intro w5 hX5 ho5; have hb5 := ho5.below (xalloc (xrefl w4) _) (by rw [World.size_alloc]; omega) (by rintro k rfl; exact Nat.le_refl _); have hc5 := hX5.cell 0 (by show 0 < 6; omega); simp only [infL, List.getElem_cons_zero] at hc5; replace hb5 := Lib.hid (xtrans hq4.out hb5); clear ho5 hX5))
          go_ret2
          rw [hq]
          exact ⟨rfl, hb5.out⟩
        | false =>
          have hn2 := Lib.hid (hnx.out (by simpa using ht))
          clear hnx hhit hnm
          go_wp2_with (first
            | (go_at_call 10; refine hIi.out.mono ?_; rintro e w4 ⟨rfl, hb4⟩; have hq4 := Lib.hid (xtrans hb.out hb4); clear hb4)
            | (refine wpList_store_blkG rfl 25 _ _ rfl w4.heap.size rfl 25 noV (infL ⟨nm, iN, oN, gN, qN, zN⟩) (BlkG.new w4 _ _) rfl rfl (by kernel_rfl) rfl ?_; intro w5 hX5 ho5; have hb5 := ho5.below (xalloc (xrefl w4) _) (by rw [World.size_alloc]; omega) (by rintro k rfl; exact Nat.le_refl _); have hc5 := hX5.cell 0 (by show 0 < 6; omega); simp only [infL, List.getElem_cons_zero] at hc5; replace hb5 := Lib.hid (xtrans hq4.out hb5); clear ho5 hX5))
          exact ⟨⟨i + 1, by omega, by go_num, hn2, hb5⟩, by simp [intOf] <;> omega⟩
    · obtain rfl : i = 256 := by omega
      have hq := named_look s hno.out
      go_wp2
      go_ret2
      rw [hq]
      exact ⟨rfl, hb.out⟩
theorem digO_look {c : Nat} (hc : c < 256) (h : ∀ d, d < 16 → (hexc d).toNat ≠ c) : digO (UInt8.ofNat c) = none := by
  unfold digO
  rw [List.find?_eq_none]
  intro d hd
  have := h d (List.mem_range.1 hd)
  simp only [beq_iff_eq]
  intro e
  rw [e] at this
  simp at this
  omega
theorem digO_hit {c d : Nat} (hd : d < 16) (h : (hexc d).toNat = c) : digO (UInt8.ofNat c) = some d := by
  have : UInt8.ofNat c = hexc d := by rw [← h]; simp
  rw [this]; exact dig_hex d hd
def digI (c : Nat) : Int := match digO (UInt8.ofNat c) with | some d => (d : Int) | none => -1
set_option maxRecDepth 100000 in
set_option maxHeartbeats 4000000 in
theorem refDigit_any (c : Nat) (w : World) (hc : c < 256) : Calls Tryz.prog 64 #[.int .u8 c] w fun e w' => e = .returned (.int .i64 (digI c)) ∧ w' = w := by
  have hdg := Lib.hid fun d h W => run_dig d h W
  go_enter Tryz.func64, Tryz.ntmps64
  go_wp2
  go_loopw [3] (fun iv wx => ∃ i : Nat, i ≤ 16 ∧ iv = .int .i64 i ∧ Hid (∀ d, d < i → (hexc d).toNat ≠ c) ∧ wx = w) (fun iv _ => 16 - (intOf iv).toNat)
  case atStart => exact ⟨0, by omega, rfl, Lib.hid fun c h => by omega, rfl⟩
  case round =>
    obtain ⟨i, hi, rfl, hno, rfl⟩ := hrel
    by_cases hlt : i < 16
    · have hltI : (i : Int) < 16 := by omega
      have hdi := fun W => hdg.out i hlt W
      have hdi2 : ∀ W, (Instr.index 9 (.string ⟨#[48, 49, 50, 51, 52, 53, 54, 55, 56, 57, 97, 98, 99, 100, 101, 102]⟩) (.int .i64 i)).run Tryz.prog W = .ok (.int .u8 ((hexc i).toNat : Nat)) W := run_digI i hlt
      have hnx : Hid ((hexc i).toNat ≠ c → ∀ d, d < i + 1 → (hexc d).toNat ≠ c) := Lib.hid fun h d hd => by
        by_cases e : d = i
        · subst e; exact h
        · exact hno.out d (by omega)
      have hhit : Hid ((hexc i).toNat = c → digI c = i) := Lib.hid fun h => by unfold digI; rw [digO_hit hlt h]
      clear hdi
      generalize (hexc i).toNat = u at *
      by_cases hu : u = c
      · have hq := hhit.out hu
        subst hu
        clear hnx hhit
        replace hq := Lib.hid hq
        go_wp2
        go_ret
        rw [hq.out]
        exact ⟨rfl, rfl⟩
      · have hn2 := Lib.hid (hnx.out hu)
        have huI : ((u : Int) == (c : Int)) = false := by simp; omega
        have huI2 : ¬ (u : Int) = (c : Int) := by omega
        clear hnx hhit hu
        go_wp2
        exact ⟨⟨i + 1, by omega, by go_num, hn2, trivial⟩, by simp [intOf] <;> omega⟩
    · obtain rfl : i = 16 := by omega
      have hq : digI c = -1 := by unfold digI; rw [digO_look hc hno.out]
      go_wp2
      go_ret
      rw [hq]
      exact ⟨rfl, rfl⟩
end Go.Proofs.YtbicfaiabpcgfaaGreatDoor
namespace Go.Proofs.YtbicfaiabpcgfaaGreatDoor
open Go.RowKit

theorem refSize_any (c : Nat) (w : World) (hc : c < 256) : Calls Tryz.prog 10 #[.int .u8 c] w fun e w' => (∃ nm i o g q, e = .returned (.agg #[.string nm, .int .i64 i, .int .i64 o, .int .u64 g, .bool q, .int .i64 (szN c)])) ∧ Below w.heap.size w w' :=
  (refInfo_any c w hc).mono fun e w' h => ⟨⟨⟨(infoN c).name.toArray⟩, (infoN c).ins, (infoN c).outs, (infoN c).gas, (infoN c).quiet, by rw [h.1]; unfold infoV; rw [info_size c hc]⟩, h.2⟩
@[go_sem high] theorem field_size (v0 v1 v2 v3 v4 v5 : Value) (w : World) : (Instr.field 25 (.agg #[v0, v1, v2, v3, v4, v5]) 5).run Tryz.prog w = .ok v5 w := by kernel_rfl
def inN (l : List Nat) (n : Int) : Bool := l.any fun x => (x : Int) == n
theorem inN_nat (l : List Nat) (n : Nat) : inN l n = decide (n ∈ l) := by
  unfold inN
  rw [Bool.eq_iff_iff, List.any_eq_true, decide_eq_true_eq]
  constructor
  · rintro ⟨x, h1, h2⟩
    rw [beq_iff_eq, Int.ofNat_inj] at h2
    rw [← h2]; exact h1
  · intro h; exact ⟨n, h, by simp⟩
end Go.Proofs.YtbicfaiabpcgfaaGreatDoor
namespace Go.Proofs.YtbicfaiabpcgfaaGreatDoor
open Go.RowKit

theorem marks_step {cs : List Nat} {k : Nat} (h : k < (opsL cs).length) : ((opsL cs).take (k + 1)).filter (fun i => byN cs i == 91) = ((opsL cs).take k).filter (fun i => byN cs i == 91) ++ if byN cs (opsL cs)[k] = 91 then [(opsL cs)[k]] else [] := by
  rw [List.take_succ_eq_append_getElem h, List.filter_append]
  congr 1
  by_cases e : byN cs (opsL cs)[k] = 91
  · simp [e]
  · simp [e]
/-! Bytes as a word. -/
theorem numN_byte : ∀ (r : List Nat) (i : Nat), (∀ x ∈ r, x < 256) → byteAt (numN r.reverse) i = r.getD i 0
  | [], i, _ => by simp [numN, byteAt]
  | b :: r, 0, h => by
    have := h b (by simp)
    rw [List.reverse_cons, numN_snoc]
    unfold byteAt
    simp
    omega
  | b :: r, i + 1, h => by
    have hb := h b (by simp)
    rw [List.reverse_cons, numN_snoc]
    have e : byteAt (numN r.reverse * 256 + b) (i + 1) = byteAt (numN r.reverse) i := by
      unfold byteAt
      rw [Nat.pow_succ, Nat.mul_comm (256 ^ i), ← Nat.div_div_eq_div_mul]
      congr 2
      omega
    rw [e, numN_byte r i fun x hx => h x (by simp [hx])]
    simp
end Go.Proofs.YtbicfaiabpcgfaaGreatDoor
namespace Go.Proofs.YtbicfaiabpcgfaaGreatDoor
open Go.RowKit

theorem info_u8 : (Tryz.prog.info? 5).map (fun i => (i.zero, i.size, i.bytes)) = some (some (Value.int .u8 0), 1, 1) := by kernel_rfl
end Go.Proofs.YtbicfaiabpcgfaaGreatDoor
