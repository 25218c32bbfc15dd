/- Texts of this claim, merged; no condition. -/
import Derived.Lib.Join
import Derived.Test.YtbicfaiabpcgfaaGreatDoorC00
import Derived.Test.YtbicfaiabpcgfaaGreatDoorC05
import Derived.Test.YtbicfaiabpcgfaaGreatDoorC03
set_option linter.all false
namespace Go.Proofs.YtbicfaiabpcgfaaGreatDoor

/-! Bytes as text. -/
def hexN (l : List Nat) : List UInt8 := [48, 120] ++ hexL (natI l)
def digO (c : UInt8) : Option Nat := (List.range 16).find? fun d => hexc d == c
def unhexP : List UInt8 → Option (List Nat)
  | [] => some []
  | [_] => none
  | a :: b :: l => match digO a, digO b, unhexP l with
    | some x, some y, some r => some ((16 * x + y) :: r)
    | _, _, _ => none
def unhexN : List UInt8 → Option (List Nat)
  | 48 :: 120 :: l => unhexP l
  | _ => none
theorem dig_hex : ∀ d, d < 16 → digO (hexc d) = some d := by decide
theorem dig_some {c : UInt8} {d : Nat} (h : digO c = some d) : d < 16 ∧ hexc d = c := by
  unfold digO at h
  have h1 := List.mem_of_find?_eq_some h
  have h2 := List.find?_some h
  exact ⟨List.mem_range.1 h1, by simpa using h2⟩
theorem hexL_nil : hexL (natI []) = [] := rfl
theorem hexL_cons (n : Nat) (l : List Nat) : hexL (natI (n :: l)) = hexc (n / 16) :: hexc (n % 16) :: hexL (natI l) := by
  unfold hexL natI
  rw [List.map_cons, List.flatMap_cons]
  have e1 : ((n : Int) / 16).toNat = n / 16 := by omega
  have e2 : ((n : Int) % 16).toNat = n % 16 := by omega
  simp [hexB, e1, e2]
theorem hexL_app (l m : List Nat) : hexL (natI (l ++ m)) = hexL (natI l) ++ hexL (natI m) := by unfold hexL natI; simp
theorem unhex_hex : ∀ l : List Nat, (∀ b ∈ l, b < 256) → unhexP (hexL (natI l)) = some l
  | [], _ => rfl
  | n :: l, h => by
    have hn := h n (by simp)
    rw [hexL_cons, unhexP, dig_hex _ (by omega), dig_hex _ (by omega), unhex_hex l fun b hb => h b (List.mem_cons_of_mem _ hb)]
    simp; omega
theorem unhexN_hex (l : List Nat) (h : ∀ b ∈ l, b < 256) : unhexN (hexN l) = some l := unhex_hex l h
theorem unhexP_some : ∀ {s : List UInt8} {l : List Nat}, unhexP s = some l → hexL (natI l) = s ∧ (∀ b ∈ l, b < 256) ∧ s.length = 2 * l.length
  | [], l, h => by cases h; exact ⟨rfl, by simp, rfl⟩
  | [_], l, h => by cases h
  | a :: b :: s, l, h => by
    rw [unhexP] at h
    cases h1 : digO a with
    | none => rw [h1] at h; cases h
    | some x => cases h2 : digO b with
      | none => rw [h1, h2] at h; cases h
      | some y => cases h3 : unhexP s with
        | none => rw [h1, h2, h3] at h; cases h
        | some r =>
          rw [h1, h2, h3] at h
          cases h
          obtain ⟨i1, i2, i3⟩ := unhexP_some h3
          obtain ⟨d1, e1⟩ := dig_some h1
          obtain ⟨d2, e2⟩ := dig_some h2
          refine ⟨?_, ?_, by simp [i3]; omega⟩
          · rw [hexL_cons, show (16 * x + y) / 16 = x by omega, show (16 * x + y) % 16 = y by omega, e1, e2, i1]
          · intro c hc
            rcases List.mem_cons.1 hc with rfl | hc
            · omega
            · exact i2 c hc
theorem unhexN_some {s : List UInt8} {l : List Nat} (h : unhexN s = some l) : hexN l = s ∧ ∀ b ∈ l, b < 256 := by
  unfold unhexN at h
  split at h
  · obtain ⟨h1, h2, -⟩ := unhexP_some h
    exact ⟨by unfold hexN; rw [h1]; rfl, h2⟩
  · cases h

/-! The ops of names. -/
def namedO (s : List UInt8) : Option Nat := (List.range 256).find? fun c => namedN c && (infoN c).name == s
theorem named_name : ∀ c : Nat, c < 256 → namedN c = true → namedO (infoN c).name = some c := by decide +kernel
theorem named_some {s : List UInt8} {c : Nat} (h : namedO s = some c) : c < 256 ∧ namedN c = true ∧ (infoN c).name = s := by
  unfold namedO at h
  have h1 := List.mem_of_find?_eq_some h
  have h2 := List.find?_some h
  simp only [Bool.and_eq_true, beq_iff_eq] at h2
  exact ⟨List.mem_range.1 h1, h2.1, h2.2⟩
theorem named_head : ∀ c : Nat, c < 256 → namedN c = true → (infoN c).name.head? ≠ some 48 := by decide +kernel
theorem named_hex (l : List UInt8) : namedO (48 :: l) = none := by
  cases h : namedO (48 :: l) with
  | none => rfl
  | some c =>
    obtain ⟨h1, h2, h3⟩ := named_some h
    exact absurd (by rw [h3]; rfl) (named_head c h1 h2)
theorem named_hexN (l : List Nat) : namedO (hexN l) = none := named_hex _
theorem size_named : ∀ c : Nat, c < 256 → 0 < szN c → namedN c = true := by decide +kernel

/-! The words of a text. -/
def opW (cs : List Nat) (i : Nat) : List (List UInt8) :=
  if namedN (byN cs i) = true then (infoN (byN cs i)).name :: (if 0 < szN (byN cs i) then [hexN (restN cs i)] else []) else [hexN [byN cs i]]
def wordsN (cs : List Nat) : List (List UInt8) := (opsL cs).flatMap (opW cs)
def textC (cs : List Nat) : List UInt8 := Lib.join (wordsN cs) [32]
def parseW : List (List UInt8) → Option (List Nat)
  | [] => some []
  | w :: r => match namedO w with
    | some op => if szN op = 0 then (parseW r).map (op :: ·) else match r with
      | [] => none
      | h :: r' => match unhexN h with
        | none => none
        | some bs => if bs.length = szN op then (parseW r').map fun l => op :: (bs ++ l) else none
    | none => match unhexN w with
      | some [b] => if namedN b = true then none else (parseW r).map (b :: ·)
      | _ => none

/-! Ops behind a first one. -/
theorem byN_app (p l : List Nat) (i : Nat) : byN (p ++ l) (p.length + i) = byN l i := by unfold byN; rw [List.getD_eq_getElem?_getD, List.getD_eq_getElem?_getD, List.getElem?_append_right (by omega), Nat.add_sub_cancel_left]
theorem opsF_app (p l : List Nat) : ∀ f i, opsF (p ++ l) f (p.length + i) = (opsF l f i).map (p.length + ·)
  | 0, _ => rfl
  | f + 1, i => by
    unfold opsF
    have e : (p.length + i < (p ++ l).length) = (i < l.length) := by rw [List.length_append]; exact propext (by omega)
    have en : nxN (p ++ l) (p.length + i) = p.length + nxN l i := by unfold nxN; rw [byN_app]; omega
    simp only [e]
    split
    · rw [en, opsF_app p l f, List.map_cons]
    · rfl
theorem opsA_app (p l : List Nat) : opsA (p ++ l) p.length = (opsL l).map (p.length + ·) := by
  have := opsF_app p l (l.length) 0
  unfold opsL opsA
  rw [Nat.add_zero] at this
  rw [List.length_append, Nat.add_sub_cancel_left, Nat.sub_zero]
  exact this
theorem restN_get (cs : List Nat) (i j : Nat) (h : j < (restN cs i).length) : (restN cs i)[j] = byN cs (i + 1 + j) := by simp [restN]
theorem restN_app (p l : List Nat) (i : Nat) : restN (p ++ l) (p.length + i) = restN l i := by
  unfold restN
  rw [byN_app]
  apply List.map_congr_left
  intro j _
  rw [show p.length + i + 1 + j = p.length + (i + 1 + j) by omega, byN_app]
theorem opW_app (p l : List Nat) (i : Nat) : opW (p ++ l) (p.length + i) = opW l i := by unfold opW; rw [byN_app, restN_app]
theorem flatMap_eq {α β : Type} {l : List α} {f g : α → List β} (h : ∀ x ∈ l, f x = g x) : l.flatMap f = l.flatMap g := by
  induction l with
  | nil => rfl
  | cons x l ih => rw [List.flatMap_cons, List.flatMap_cons, h x (by simp), ih fun y hy => h y (List.mem_cons_of_mem _ hy)]
theorem words_app (c : Nat) (bs l : List Nat) (h : bs.length = szN c) : wordsN (c :: (bs ++ l)) = opW (c :: (bs ++ l)) 0 ++ wordsN l := by
  unfold wordsN
  have e : opsL (c :: (bs ++ l)) = 0 :: (opsL l).map ((c :: bs).length + ·) := by
    have h1 := opsA_lt (cs := c :: (bs ++ l)) (i := 0) (by simp)
    have h2 : nxN (c :: (bs ++ l)) 0 = (c :: bs).length := by
      show 0 + 1 + szN c = _
      rw [List.length_cons]; omega
    rw [h2] at h1
    have h3 := opsA_app (c :: bs) l
    rw [List.cons_append] at h3
    rw [h3] at h1
    exact h1
  rw [e, List.flatMap_cons, List.flatMap_map]
  congr 1
  apply flatMap_eq
  intro i _
  exact opW_app (c :: bs) l i
theorem opW_head (c : Nat) (bs l : List Nat) (h : bs.length = szN c) (h0 : namedN c = true) : opW (c :: (bs ++ l)) 0 = (infoN c).name :: (if 0 < szN c then [hexN bs] else []) := by
  have hb : byN (c :: (bs ++ l)) 0 = c := rfl
  unfold opW
  rw [hb, if_pos h0]
  congr 1
  split
  · congr 2
    apply List.ext_getElem
    · rw [restN_len, hb, h]
    · intro j h1 h2
      rw [restN_get]
      show (c :: (bs ++ l)).getD (0 + 1 + j) 0 = _
      rw [show 0 + 1 + j = j + 1 by omega, List.getD_cons_succ, List.getD_eq_getElem?_getD, List.getElem?_append_left h2, List.getElem?_eq_getElem h2]
      rfl
  · rfl
theorem opW_bare (c : Nat) (l : List Nat) (h0 : namedN c = false) : opW (c :: l) 0 = [hexN [c]] := by
  have hb : byN (c :: l) 0 = c := rfl
  unfold opW
  rw [hb, h0]
  rfl
/-- What is read from words, written again, is these words. -/
theorem parse_words : ∀ (n : Nat) (ws : List (List UInt8)) (l : List Nat), ws.length ≤ n → parseW ws = some l → wordsN l = ws ∧ ∀ b ∈ l, b < 256
  | n, [], l, _, h => by rw [parseW] at h; cases h; exact ⟨rfl, by simp⟩
  | 0, w :: r, l, hl, _ => by simp at hl
  | n + 1, w :: r, l, hl, h => by
    rw [List.length_cons] at hl
    rw [parseW] at h
    cases hw : namedO w with
    | some op =>
      obtain ⟨h1, h2, h3⟩ := named_some hw
      rw [hw] at h
      dsimp only at h
      by_cases hz : szN op = 0
      · rw [if_pos hz] at h
        obtain ⟨l', hl', rfl⟩ := Option.map_eq_some_iff.1 h
        obtain ⟨i1, i2⟩ := parse_words n r l' (by omega) hl'
        have e := words_app op [] l' (by rw [hz]; rfl)
        have e2 := opW_head op [] l' (by rw [hz]; rfl) h2
        rw [List.nil_append] at e e2
        refine ⟨by rw [e, e2, if_neg (by omega), h3, i1]; rfl, fun b hb => ?_⟩
        rcases List.mem_cons.1 hb with rfl | hb
        · exact h1
        · exact i2 b hb
      · rw [if_neg hz] at h
        cases r with
        | nil => cases h
        | cons x r' =>
          dsimp only at h
          cases hx : unhexN x with
          | none => rw [hx] at h; cases h
          | some bs =>
            rw [hx] at h
            dsimp only at h
            by_cases hb : bs.length = szN op
            · rw [if_pos hb] at h
              obtain ⟨l', hl', rfl⟩ := Option.map_eq_some_iff.1 h
              obtain ⟨i1, i2⟩ := parse_words n r' l' (by simp at hl; omega) hl'
              obtain ⟨u1, u2⟩ := unhexN_some hx
              refine ⟨by rw [words_app op bs l' hb, opW_head op bs l' hb h2, if_pos (by omega), h3, u1, i1]; rfl, fun b hb' => ?_⟩
              rcases List.mem_cons.1 hb' with rfl | hb'
              · exact h1
              · rcases List.mem_append.1 hb' with hb' | hb'
                · exact u2 b hb'
                · exact i2 b hb'
            · rw [if_neg hb] at h; cases h
    | none =>
      rw [hw] at h
      dsimp only at h
      split at h
      · rename_i b hu
        by_cases hn : namedN b = true
        · rw [if_pos hn] at h; cases h
        · rw [if_neg hn] at h
          obtain ⟨l', hl', rfl⟩ := Option.map_eq_some_iff.1 h
          obtain ⟨i1, i2⟩ := parse_words n r l' (by omega) hl'
          obtain ⟨u1, u2⟩ := unhexN_some hu
          have hb := u2 b (by simp)
          have hz : szN b = 0 := by
            cases hh : szN b with
            | zero => rfl
            | succ m => exact absurd (size_named b hb (by omega)) hn
          have e := words_app b [] l' (by rw [hz]; rfl)
          rw [List.nil_append] at e
          refine ⟨by rw [e, opW_bare b l' (by simpa using hn), i1, u1]; rfl, fun c hc => ?_⟩
          rcases List.mem_cons.1 hc with rfl | hc
          · exact hb
          · exact i2 c hc
      · cases h
/-- Code, and as many noughts as its last op lacks. -/
def padC : Nat → List Nat → List Nat
  | 0, l => l
  | _, [] => []
  | f + 1, c :: r => if szN c ≤ r.length then c :: (r.take (szN c) ++ padC f (r.drop (szN c))) else c :: (r ++ List.replicate (szN c - r.length) 0)
def paddedC (l : List Nat) : List Nat := padC l.length l
theorem pad_shape : ∀ (f : Nat) (l : List Nat), l.length ≤ f → ∃ k, k ≤ 32 ∧ padC f l = l ++ List.replicate k 0
  | 0, l, h => ⟨0, by omega, by rw [padC]; simp⟩
  | f + 1, [], _ => ⟨0, by omega, rfl⟩
  | f + 1, c :: r, h => by
    rw [padC]
    have hz := szN_le c
    by_cases hs : szN c ≤ r.length
    · rw [if_pos hs]
      obtain ⟨k, h1, h2⟩ := pad_shape f (r.drop (szN c)) (by rw [List.length_drop]; simp at h; omega)
      refine ⟨k, h1, ?_⟩
      rw [h2, ← List.append_assoc, List.take_append_drop]
      rfl
    · rw [if_neg hs]
      exact ⟨szN c - r.length, by omega, rfl⟩
theorem opW_short (c : Nat) (r : List Nat) (h : r.length < szN c) (h0 : namedN c = true) : opW (c :: r) 0 = [(infoN c).name, hexN (r ++ List.replicate (szN c - r.length) 0)] := by
  have hb : byN (c :: r) 0 = c := rfl
  unfold opW
  rw [hb, if_pos h0, if_pos (by omega)]
  congr 3
  apply List.ext_getElem
  · rw [restN_len, hb]; simp; omega
  · intro j h1 h2
    rw [restN_get]
    show (c :: r).getD (0 + 1 + j) 0 = _
    rw [show 0 + 1 + j = j + 1 by omega, List.getD_cons_succ, List.getD_eq_getElem?_getD, List.getElem_append]
    split
    · rename_i h3; rw [List.getElem?_eq_getElem h3]; rfl
    · rename_i h3; rw [List.getElem?_eq_none (by omega), List.getElem_replicate]; rfl
theorem words_short (c : Nat) (r : List Nat) (h : r.length < szN c) : wordsN (c :: r) = opW (c :: r) 0 := by
  unfold wordsN
  have h1 := opsA_lt (cs := c :: r) (i := 0) (by simp)
  have h2 : opsA (c :: r) (nxN (c :: r) 0) = [] := opsA_ge (by show (c :: r).length ≤ 0 + 1 + szN c; rw [List.length_cons]; omega)
  rw [h2] at h1
  have h3 : opsL (c :: r) = [0] := h1
  rw [h3]; simp
/-- A code's words are read as the code, and as many noughts as its last op lacks. -/
theorem words_parse : ∀ (f : Nat) (l : List Nat), l.length ≤ f → (∀ b ∈ l, b < 256) → parseW (wordsN l) = some (padC f l)
  | 0, l, h, _ => by rw [List.eq_nil_of_length_eq_zero (Nat.le_zero.1 h)]; rfl
  | f + 1, [], _, _ => rfl
  | f + 1, c :: r, h, hb => by
    rw [List.length_cons] at h
    have hc := hb c (by simp)
    have hr : ∀ b ∈ r, b < 256 := fun b h => hb b (List.mem_cons_of_mem _ h)
    rw [padC]
    by_cases hs : szN c ≤ r.length
    · rw [if_pos hs]
      have ih := words_parse f (r.drop (szN c)) (by rw [List.length_drop]; omega) fun b h => hr b (List.mem_of_mem_drop h)
      have hl : (r.take (szN c)).length = szN c := by rw [List.length_take]; omega
      have e := words_app c (r.take (szN c)) (r.drop (szN c)) hl
      rw [List.take_append_drop] at e
      by_cases hn : namedN c = true
      · have e2 := opW_head c (r.take (szN c)) (r.drop (szN c)) hl hn
        rw [List.take_append_drop] at e2
        rw [e, e2]
        by_cases hz : szN c = 0
        · rw [if_neg (by omega), List.singleton_append, parseW, named_name c hc hn]
          dsimp only
          rw [if_pos hz, ih, hz]; rfl
        · rw [if_pos (by omega)]
          show parseW ((infoN c).name :: hexN (r.take (szN c)) :: wordsN (r.drop (szN c))) = _
          rw [parseW, named_name c hc hn]
          dsimp only
          rw [if_neg hz, unhexN_hex _ fun b h => hr b (List.mem_of_mem_take h)]
          dsimp only
          rw [if_pos hl, ih]; rfl
      · have hz : szN c = 0 := by
          cases hh : szN c with
          | zero => rfl
          | succ m => exact absurd (size_named c hc (by omega)) hn
        rw [e, opW_bare c r (by simpa using hn), List.singleton_append, parseW, named_hexN]
        dsimp only
        rw [unhexN_hex _ (by simpa using hc)]
        dsimp only
        rw [if_neg hn, ih, hz]; rfl
    · rw [if_neg hs]
      have hn := size_named c hc (by omega)
      rw [words_short c r (by omega), opW_short c r (by omega) hn, parseW, named_name c hc hn]
      dsimp only
      rw [if_neg (by omega), unhexN_hex _ (fun b h => by
        rcases List.mem_append.1 h with h | h
        · exact hr b h
        · rw [List.eq_of_mem_replicate h]; omega)]
      dsimp only
      rw [if_pos (by simp; omega), parseW]
      simp

/-! Text and words. -/
def splS (c : UInt8) : List UInt8 → List (List UInt8)
  | [] => [[]]
  | x :: l => if x = c then [] :: splS c l else match splS c l with
    | [] => [[x]]
    | w :: r => (x :: w) :: r
theorem spl_ne (c : UInt8) : ∀ l, splS c l ≠ []
  | [] => by simp [splS]
  | x :: l => by
    unfold splS
    split
    · simp
    · split <;> simp
theorem join_cons2 (w x : List UInt8) (r : List (List UInt8)) (s : List UInt8) : Lib.join (w :: x :: r) s = w ++ s ++ Lib.join (x :: r) s := by
  rw [Lib.join_cons, Lib.join_cons]; simp [Lib.joinTail]
theorem join_spl (c : UInt8) : ∀ l, Lib.join (splS c l) [c] = l
  | [] => by rw [splS, Lib.join_one]
  | x :: l => by
    have ih := join_spl c l
    unfold splS
    split
    · rename_i h
      subst h
      cases h2 : splS x l with
      | nil => exact absurd h2 (spl_ne x l)
      | cons w r => rw [h2] at ih; rw [join_cons2, ih]; rfl
    · cases h2 : splS c l with
      | nil => exact absurd h2 (spl_ne c l)
      | cons w r => rw [h2] at ih; dsimp only; rw [Lib.join_cons] at ih ⊢; rw [← ih]; rfl
theorem spl_word (c : UInt8) : ∀ w : List UInt8, c ∉ w → splS c w = [w]
  | [], _ => rfl
  | x :: w, h => by
    rw [List.mem_cons, not_or] at h
    rw [splS, if_neg fun e => h.1 e.symm, spl_word c w h.2]
theorem spl_more (c : UInt8) (l : List UInt8) : ∀ w : List UInt8, c ∉ w → splS c (w ++ c :: l) = w :: splS c l
  | [], _ => by show splS c (c :: l) = _; rw [splS, if_pos rfl]
  | x :: w, h => by
    rw [List.mem_cons, not_or] at h
    rw [List.cons_append, splS, if_neg fun e => h.1 e.symm, spl_more c l w h.2]
theorem spl_join (c : UInt8) : ∀ ws : List (List UInt8), ws ≠ [] → (∀ w ∈ ws, c ∉ w) → splS c (Lib.join ws [c]) = ws
  | [], h, _ => absurd rfl h
  | [w], _, h => by rw [Lib.join_one, spl_word c w (h w (by simp))]
  | w :: x :: r, _, h => by
    rw [join_cons2, List.append_assoc, List.singleton_append, spl_more c _ w (h w (by simp)), spl_join c (x :: r) (by simp) fun y hy => h y (List.mem_cons_of_mem _ hy)]
theorem name_chars : ∀ c : Nat, c < 256 → (32 : UInt8) ∉ (infoN c).name ∧ (infoN c).name.length ≤ 14 := by decide +kernel
theorem hexc_space : ∀ d, d < 16 → hexc d ≠ 32 := by decide
theorem hexL_space : ∀ l : List Nat, (∀ b ∈ l, b < 256) → (32 : UInt8) ∉ hexL (natI l)
  | [], _ => by simp [hexL, natI]
  | n :: l, h => by
    have hn := h n (by simp)
    rw [hexL_cons]
    have h1 := hexc_space (n / 16) (by omega)
    have h2 := hexc_space (n % 16) (by omega)
    have h3 := hexL_space l fun b hb => h b (List.mem_cons_of_mem _ hb)
    simp only [List.mem_cons, not_or]
    exact ⟨Ne.symm h1, Ne.symm h2, h3⟩
theorem hexN_space (l : List Nat) (h : ∀ b ∈ l, b < 256) : (32 : UInt8) ∉ hexN l := by
  unfold hexN
  have := hexL_space l h
  simpa using this
theorem hexN_len (l : List Nat) : (hexN l).length = 2 + 2 * l.length := by unfold hexN; rw [List.length_append, hexL_len, natI_len]; rfl
theorem opW_good {cs : List Nat} (h : ∀ b ∈ cs, b < 256) (i : Nat) : ∀ w ∈ opW cs i, (32 : UInt8) ∉ w ∧ w.length ≤ 66 := by
  have hb := byN_lt h i
  obtain ⟨n1, n2⟩ := name_chars _ hb
  intro w hw
  unfold opW at hw
  split at hw
  · rcases List.mem_cons.1 hw with rfl | hw
    · exact ⟨n1, by omega⟩
    · split at hw
      · rw [List.mem_singleton] at hw
        subst hw
        exact ⟨hexN_space _ (restN_lt h i), by rw [hexN_len, restN_len]; have := szN_le (byN cs i); omega⟩
      · cases hw
  · rw [List.mem_singleton] at hw
    subst hw
    exact ⟨hexN_space _ (by simpa using hb), by rw [hexN_len]; simp⟩
theorem words_good {cs : List Nat} (h : ∀ b ∈ cs, b < 256) : ∀ w ∈ wordsN cs, (32 : UInt8) ∉ w ∧ w.length ≤ 66 := by
  intro w hw
  obtain ⟨i, -, hi⟩ := List.mem_flatMap.1 hw
  exact opW_good h i w hi
theorem opW_len (cs : List Nat) (i : Nat) : (opW cs i).length ≤ 2 ∧ opW cs i ≠ [] := by
  unfold opW
  split
  · refine ⟨?_, by simp⟩
    split <;> simp
  · simp
theorem words_len (cs : List Nat) : (wordsN cs).length ≤ 2 * cs.length := by
  have h := opsL_len cs
  have key : ∀ l : List Nat, (l.flatMap (opW cs)).length ≤ 2 * l.length := by
    intro l
    induction l with
    | nil => simp
    | cons x l ih => rw [List.flatMap_cons, List.length_append, List.length_cons]; have := (opW_len cs x).1; omega
  have := key (opsL cs)
  unfold wordsN
  omega
theorem join_len (m : Nat) (s : List UInt8) : ∀ ws : List (List UInt8), (∀ w ∈ ws, w.length ≤ m) → (Lib.join ws s).length ≤ ws.length * (m + s.length)
  | [], _ => by simp [Lib.join]
  | [w], h => by rw [Lib.join_one]; have := h w (by simp); simp; omega
  | w :: x :: r, h => by
    have ih := join_len m s (x :: r) fun y hy => h y (List.mem_cons_of_mem _ hy)
    have := h w (by simp)
    rw [join_cons2, List.length_append, List.length_append, List.length_cons, Nat.succ_mul]
    omega
theorem text_len {cs : List Nat} (h : ∀ b ∈ cs, b < 256) : (textC cs).length ≤ 134 * cs.length := by
  have h1 := join_len 66 [32] (wordsN cs) fun w hw => (words_good h w hw).2
  have h2 := words_len cs
  unfold textC
  have : (wordsN cs).length * (66 + [(32 : UInt8)].length) ≤ 2 * cs.length * (66 + [(32 : UInt8)].length) := Nat.mul_le_mul h2 (Nat.le_refl _)
  simp only [List.length_singleton] at this h1
  omega
/-- The code of a text. -/
def parseC (s : List UInt8) : Option (List Nat) := if s = [] then some [] else parseW (splS 32 s)
theorem words_empty {cs : List Nat} (h : wordsN cs = []) : cs = [] := by
  cases cs with
  | nil => rfl
  | cons c r =>
    have h1 := opsA_lt (cs := c :: r) (i := 0) (by simp)
    have h2 : opsL (c :: r) = _ := h1
    unfold wordsN at h
    rw [h2, List.flatMap_cons, List.append_eq_nil_iff] at h
    exact absurd h.1 (opW_len _ _).2
theorem word_ne {cs : List Nat} (i : Nat) (h : ∀ b ∈ cs, b < 256) : ∀ w ∈ opW cs i, w ≠ [] := by
  intro w hw e
  subst e
  have hb := byN_lt h i
  unfold opW at hw
  split at hw
  · rename_i hn
    rcases List.mem_cons.1 hw with e | hw
    · have := info_named _ hb
      rw [hn, ← e] at this
      cases this
    · split at hw
      · rw [List.mem_singleton] at hw; simp [hexN] at hw
      · cases hw
  · rw [List.mem_singleton] at hw; simp [hexN] at hw
theorem text_empty {cs : List Nat} (h : ∀ b ∈ cs, b < 256) (e : textC cs = []) : cs = [] := by
  apply words_empty
  unfold textC at e
  have hw : ∀ w ∈ wordsN cs, w ≠ [] := fun w hw => by
    obtain ⟨i, -, hi⟩ := List.mem_flatMap.1 hw
    exact word_ne i h w hi
  cases hc : wordsN cs with
  | nil => rfl
  | cons w r =>
    rw [hc, Lib.join_cons, List.append_eq_nil_iff] at e
    exact absurd e.1 (hw w (by rw [hc]; simp))
theorem text_parse {cs : List Nat} (h : ∀ b ∈ cs, b < 256) : parseC (textC cs) = some (paddedC cs) := by
  unfold parseC
  by_cases e : textC cs = []
  · rw [if_pos e, text_empty h e]; rfl
  · rw [if_neg e]
    have hw : wordsN cs ≠ [] := fun e2 => e (by unfold textC; rw [e2]; rfl)
    unfold textC
    rw [spl_join 32 _ hw fun w hw => (words_good h w hw).1]
    exact words_parse _ cs (Nat.le_refl _) h
theorem parse_text {s : List UInt8} {l : List Nat} (h : parseC s = some l) : textC l = s ∧ ∀ b ∈ l, b < 256 := by
  unfold parseC at h
  split at h
  · rename_i e; cases h; subst e; exact ⟨rfl, by simp⟩
  · obtain ⟨h1, h2⟩ := parse_words _ _ _ (Nat.le_refl _) h
    exact ⟨by unfold textC; rw [h1, join_spl], h2⟩
theorem padded_text {cs : List Nat} (h : ∀ b ∈ cs, b < 256) : textC (paddedC cs) = textC cs := (parse_text (text_parse h)).1
theorem padded_shape (cs : List Nat) : ∃ k, k ≤ 32 ∧ paddedC cs = cs ++ List.replicate k 0 := pad_shape _ cs (Nat.le_refl _)
end Go.Proofs.YtbicfaiabpcgfaaGreatDoor
namespace Go.Proofs.YtbicfaiabpcgfaaGreatDoor
open Go.RowKit Go.Shelf

theorem bits15 : ∀ c : Fin 256, bits .and .u8 (c.1 : Int) 15 = ((c.1 % 16 : Nat) : Int) := by decide +kernel
theorem run_dig : ∀ (d : Nat), d < 16 → ∀ W : World, (Instr.index 9 (.string ⟨#[48, 49, 50, 51, 52, 53, 54, 55, 56, 57, 97, 98, 99, 100, 101, 102]⟩) (.int .u8 d)).run Tryz.prog W = .ok (.int .u8 ((hexc d).toNat : Nat)) W
  | 0, _, _ => by kernel_rfl
  | 1, _, _ => by kernel_rfl
  | 2, _, _ => by kernel_rfl
  | 3, _, _ => by kernel_rfl
  | 4, _, _ => by kernel_rfl
  | 5, _, _ => by kernel_rfl
  | 6, _, _ => by kernel_rfl
  | 7, _, _ => by kernel_rfl
  | 8, _, _ => by kernel_rfl
  | 9, _, _ => by kernel_rfl
  | 10, _, _ => by kernel_rfl
  | 11, _, _ => by kernel_rfl
  | 12, _, _ => by kernel_rfl
  | 13, _, _ => by kernel_rfl
  | 14, _, _ => by kernel_rfl
  | 15, _, _ => by kernel_rfl
  | n + 16, h, _ => absurd h (by omega)
set_option maxRecDepth 100000 in
set_option maxHeartbeats 4000000 in
theorem hexP_any (l : List Nat) (a : Option Addr) (c : Nat) (w : World) (hr : RowAt .u8 w a (natI l)) (h256 : ∀ x ∈ l, x < 256) (hl : l.length ≤ 1000) :
    Calls Tryz.prog 35 #[.slice a l.length c] w fun e w' => e = .returned (.string ⟨(hexN l).toArray⟩) ∧ Below w.heap.size w w' := by
  have hB0 : Bld w.heap.size w.heap.size [] (w.alloc (.cells #[.pointer none, .slice none 0 0] 99)) := Lib.fresh_isBuilder _ _ w
  have hb0 : Below w.heap.size w (w.alloc (.cells #[.pointer none, .slice none 0 0] 99)) := xalloc (xrefl w) _
  have hh := Lib.hid (bldStr_any w.heap.size w.heap.size [] ⟨#[48, 120]⟩ (w.alloc (.cells #[.pointer none, .slice none 0 0] 99)) hB0 (by simp; decide) (by simp))
  replace hb0 := Lib.hid hb0
  replace hr := Lib.hid hr
  clear hB0
  go_enter Tryz.func35, Tryz.ntmps35
  go_wp2_with (go_at_call 56; refine hh.out.mono ?_; rintro e w1 ⟨rfl, hB1, hb1⟩; replace hB1 := Lib.hid hB1; replace hb1 := Lib.hid (hb0.out.trans hb1); clear hh hb0)
  go_loopw [9] (fun iv wx => ∃ i : Nat, i ≤ l.length ∧ iv = .int .i64 i ∧ Hid (BldAt w.heap.size w.heap.size (.pointer (some ⟨w.heap.size, 0, none⟩)) (Lib.byteCells (48 :: 120 :: hexL (natI (l.take i)))) wx) ∧ Hid (Below w.heap.size w wx)) (fun iv _ => l.length - (intOf iv).toNat)
  case atStart => exact ⟨0, by omega, rfl, Lib.hid hB1.out, hb1⟩
  case round =>
    clear hB1 hb1
    obtain ⟨i, hi, rfl, hB, hb⟩ := hrel
    have hws := hb.out.size
    by_cases hlt : i < l.length
    · have hltI : (i : Int) < l.length := by omega
      obtain ⟨yb, yo, rfl, hc⟩ := (hr.out.below hb.out) i (by rw [natI_len]; exact hlt)
      rw [natI_get] at hc
      have hcl := h256 l[i] (List.getElem_mem hlt)
      have htk : hexL (natI (l.take (i + 1))) = hexL (natI (l.take i)) ++ [hexc (l[i] / 16), hexc (l[i] % 16)] := by
        rw [List.take_succ_eq_append_getElem hlt, hexL_app, hexL_cons, hexL_nil]
      generalize l[i] = c at *
      have h15 := bits15 ⟨c, hcl⟩
      simp only at h15
      obtain ⟨d, hd⟩ : ∃ d : Nat, d = c / 16 := ⟨_, rfl⟩
      obtain ⟨e, he⟩ : ∃ e : Nat, e = c % 16 := ⟨_, rfl⟩
      have hdI : (c : Int) / 16 = (d : Int) := by omega
      have hd16 := run_dig d (by omega)
      have he16 := run_dig e (by omega)
      rw [← he] at h15
      rw [← hd, ← he] at htk
      have hlen : (hexL (natI (l.take i))).length ≤ 2000 := by rw [hexL_len, natI_len, List.length_take]; omega
      generalize hexL (natI (l.take i)) = H at *
      generalize hexc d = hx at *
      generalize hexc e = hy at *
      have hw1 := Lib.hid (bldByte_any w.heap.size w.heap.size _ (hx.toNat : Nat) wr (.inr hB.out) (by simp [Lib.byteCells]; omega) hws)
      have hd255 : (d : Int) < 256 := by omega
      have he255 : (e : Int) < 256 := by omega
      clear hd he hcl
      replace htk := Lib.hid htk
      go_wp2_with (first
        | (go_at_call 57; (with_reducible refine hw1.out.mono ?_); rintro e2 w2 ⟨rfl, hB2, hb2⟩; have hq2 := hb.out.trans hb2; have hw2 := Lib.hid (bldByte_any w.heap.size w.heap.size _ (hy.toNat : Nat) w2 (.inr hB2) (by simp [Lib.byteCells]; omega) hq2.size); replace hq2 := Lib.hid hq2; clear hw1)
        | (go_at_call 57; (with_reducible refine hw2.out.mono ?_); rintro e3 w3 ⟨rfl, hB3, hb3⟩; have hq3 := Lib.hid (hq2.out.trans hb3); replace hB3 := Lib.hid hB3; clear hw2))
      go_roundw
      case rel => exact ⟨i + 1, by omega, by go_num, Lib.hid (by rw [htk.out]; simpa [Lib.byteCells] using hB3.out), hq3⟩
      case measure => simp [intOf] <;> omega
    · obtain rfl : i = l.length := by omega
      have hfin : Hid (Bld w.heap.size w.heap.size (Lib.byteCells (hexN l)) wr) := Lib.hid (by
        have := hB.out
        rw [List.take_length] at this
        exact .inr this)
      have hst := Lib.hid (Tryz.Builder_String w.heap.size w.heap.size (hexN l) wr hfin.out (by unfold hexN; simp))
      clear hlt hB hfin
      go_wp2_with (go_at_call 58; refine hst.out.mono ?_; rintro e2 w2 ⟨rfl, hb2⟩)
      go_ret
      exact ⟨rfl, hb.out.trans hb2⟩
end Go.Proofs.YtbicfaiabpcgfaaGreatDoor
