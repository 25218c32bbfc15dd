/- Texts of this claim, merged; no condition. -/
import Derived.Test.YtijkdabmegbcjaaGreatDoorT00
import Derived.Test.YtijkdabmegbcjaaGreatDoorTA
set_option linter.all false
namespace Go.Proofs.YtijkdabmegbcjaaGreatDoor
section
def natI (l : List Nat) : List Int := l.map fun n : Nat => (n : Int)
theorem natI_len (l : List Nat) : (natI l).length = l.length := by simp [natI]
theorem natI_get (l : List Nat) (i : Nat) (h : i < (natI l).length) : (natI l)[i] = (l[i]'(by simpa [natI] using h) : Int) := by simp [natI]
theorem natI_app (a b : List Nat) : natI (a ++ b) = natI a ++ natI b := by simp [natI]
theorem natI_cons (x : Nat) (l : List Nat) : natI (x :: l) = (x : Int) :: natI l := rfl
def SL (l : List Nat) : Prop := l.Pairwise (· < ·)
theorem sl_ext : ∀ {a b : List Nat}, SL a → SL b → (∀ x, x ∈ a ↔ x ∈ b) → a = b
  | [], [], _, _, _ => rfl
  | [], y :: b, _, _, h => absurd ((h y).2 (by simp)) (by simp)
  | x :: a, [], _, _, h => absurd ((h x).1 (by simp)) (by simp)
  | x :: a, y :: b, ha, hb, h => by
    have ha' := List.pairwise_cons.1 ha
    have hb' := List.pairwise_cons.1 hb
    have e : x = y := by
      rcases List.mem_cons.1 ((h x).1 (by simp)) with e | e
      · exact e
      · rcases List.mem_cons.1 ((h y).2 (by simp)) with e2 | e2
        · exact e2.symm
        · have := hb'.1 x e
          have := ha'.1 y e2
          omega
    subst e
    rw [sl_ext ha'.2 hb'.2 fun z => ?_]
    constructor
    · intro hz
      rcases List.mem_cons.1 ((h z).1 (by simp [hz])) with e | e
      · have := ha'.1 z hz; omega
      · exact e
    · intro hz
      rcases List.mem_cons.1 ((h z).2 (by simp [hz])) with e | e
      · have := hb'.1 z hz; omega
      · exact e
theorem SL.nodup {l : List Nat} (h : SL l) : l.Nodup := List.Pairwise.imp (fun h => Nat.ne_of_lt h) h
theorem SL.get {l : List Nat} (h : SL l) {i j : Nat} (hj : j < l.length) (hij : i < j) : l[i] < l[j] := List.pairwise_iff_getElem.1 h i j (by omega) hj hij
def insW (n : Nat) : List Nat → List Nat
  | [] => [n]
  | x :: l => if x < n then x :: insW n l else n :: (x :: l).filter (fun y => y ≠ n)
theorem mem_insW (n x : Nat) : ∀ l : List Nat, x ∈ insW n l ↔ x = n ∨ x ∈ l
  | [] => by simp [insW]
  | y :: l => by
    unfold insW
    split
    · rw [List.mem_cons, mem_insW n x l, List.mem_cons]
      constructor
      · rintro (h | h | h)
        · exact .inr (.inl h)
        · exact .inl h
        · exact .inr (.inr h)
      · rintro (h | h | h)
        · exact .inr (.inl h)
        · exact .inl h
        · exact .inr (.inr h)
    · rw [List.mem_cons, List.mem_filter]
      by_cases e : x = n
      · simp [e]
      · simp [e]
theorem sl_insW (n : Nat) : ∀ l : List Nat, SL l → SL (insW n l)
  | [], _ => by unfold insW SL; simp
  | y :: l, h => by
    have h' := List.pairwise_cons.1 h
    unfold insW
    split
    · refine List.pairwise_cons.2 ⟨fun z hz => ?_, sl_insW n l h'.2⟩
      rcases (mem_insW n z l).1 hz with e | e
      · omega
      · exact h'.1 z e
    · refine List.pairwise_cons.2 ⟨fun z hz => ?_, List.Pairwise.filter _ h⟩
      obtain ⟨h1, h2⟩ := List.mem_filter.1 hz
      simp at h2
      rcases List.mem_cons.1 h1 with e | e
      · omega
      · have := h'.1 z e; omega
def setL (l : List Nat) : List Nat := l.foldl (fun a n => insW n a) []
theorem foldW (l : List Nat) : ∀ a : List Nat, (SL a → SL (l.foldl (fun a n => insW n a) a)) ∧ ∀ x, x ∈ l.foldl (fun a n => insW n a) a ↔ x ∈ a ∨ x ∈ l := by
  induction l with
  | nil => intro a; simp
  | cons y l ih =>
    intro a
    refine ⟨fun h => (ih (insW y a)).1 (sl_insW y a h), fun x => ?_⟩
    rw [List.foldl_cons, (ih (insW y a)).2 x, mem_insW, List.mem_cons]
    constructor
    · rintro ((h | h) | h)
      · exact .inr (.inl h)
      · exact .inl h
      · exact .inr (.inr h)
    · rintro (h | h | h)
      · exact .inl (.inr h)
      · exact .inl (.inl h)
      · exact .inr h
theorem setL_sl (l : List Nat) : SL (setL l) := (foldW l []).1 List.Pairwise.nil
theorem mem_setL (l : List Nat) (x : Nat) : x ∈ setL l ↔ x ∈ l := by
  unfold setL; rw [(foldW l []).2 x]; simp
theorem setL_snoc (l : List Nat) (n : Nat) : setL (l ++ [n]) = insW n (setL l) := by unfold setL; rw [List.foldl_append]; rfl
theorem setL_len (l : List Nat) : (setL l).length ≤ l.length := by
  have hn := (setL_sl l).nodup
  exact hn.length_le_of_subset fun x hx => (mem_setL l x).1 hx
theorem insW_parts (n : Nat) : ∀ l : List Nat, insW n l = l.takeWhile (fun y => decide (y < n)) ++ n :: (l.dropWhile (fun y => decide (y < n))).filter (fun y => y ≠ n)
  | [] => by simp [insW]
  | x :: l => by
    unfold insW
    by_cases h : x < n
    · rw [if_pos h, insW_parts n l]
      simp [h]
    · rw [if_neg h]
      simp [h]
theorem nodup_le {l : List Nat} {n : Nat} (hn : l.Nodup) (h : ∀ x ∈ l, x < n) : l.length ≤ n := by
  have := hn.length_le_of_subset (l₂ := List.range n) fun x hx => List.mem_range.2 (h x hx)
  simpa using this
def byN (cs : List Nat) (i : Nat) : Nat := cs.getD i 0
def szN (c : Nat) : Nat := if 96 ≤ c ∧ c ≤ 127 then c - 95 else 0
def nxN (cs : List Nat) (i : Nat) : Nat := i + 1 + szN (byN cs i)
def opsF (cs : List Nat) : Nat → Nat → List Nat
  | 0, _ => []
  | f + 1, i => if i < cs.length then i :: opsF cs f (nxN cs i) else []
def opsA (cs : List Nat) (i : Nat) : List Nat := opsF cs (cs.length - i) i
def opsL (cs : List Nat) : List Nat := opsA cs 0
theorem nxN_lt (cs : List Nat) (i : Nat) : i < nxN cs i := by unfold nxN; omega
theorem opsF_eq (cs : List Nat) : ∀ f g i, cs.length - i ≤ f → cs.length - i ≤ g → opsF cs f i = opsF cs g i
  | 0, 0, _, _, _ => rfl
  | 0, g + 1, i, h, _ => by simp [opsF]; omega
  | f + 1, 0, i, _, h => by simp [opsF]; omega
  | f + 1, g + 1, i, hf, hg => by
    unfold opsF
    split
    · have := nxN_lt cs i
      rw [opsF_eq cs f g (nxN cs i) (by omega) (by omega)]
    · rfl
theorem opsA_lt {cs : List Nat} {i : Nat} (h : i < cs.length) : opsA cs i = i :: opsA cs (nxN cs i) := by
  have := nxN_lt cs i
  unfold opsA
  obtain ⟨k, hk⟩ : ∃ k, cs.length - i = k + 1 := ⟨cs.length - i - 1, by omega⟩
  rw [hk, opsF, if_pos h, opsF_eq cs k (cs.length - nxN cs i) _ (by omega) (by omega)]
theorem opsA_ge {cs : List Nat} {i : Nat} (h : cs.length ≤ i) : opsA cs i = [] := by
  unfold opsA
  rw [show cs.length - i = 0 by omega]; rfl
theorem opsF_facts (cs : List Nat) : ∀ f i, SL (opsF cs f i) ∧ ∀ x ∈ opsF cs f i, i ≤ x ∧ x < cs.length
  | 0, i => ⟨List.Pairwise.nil, by simp [opsF]⟩
  | f + 1, i => by
    have ih := opsF_facts cs f (nxN cs i)
    have := nxN_lt cs i
    unfold opsF
    split
    · refine ⟨List.pairwise_cons.2 ⟨fun x hx => ?_, ih.1⟩, fun x hx => ?_⟩
      · have := ih.2 x hx; omega
      · rcases List.mem_cons.1 hx with e | e
        · omega
        · have := ih.2 x e; omega
    · exact ⟨List.Pairwise.nil, by simp⟩
theorem opsL_sl (cs : List Nat) : SL (opsL cs) := (opsF_facts cs _ 0).1
theorem opsL_lt {cs : List Nat} {x : Nat} (h : x ∈ opsL cs) : x < cs.length := ((opsF_facts cs _ 0).2 x h).2
theorem opsA_len (cs : List Nat) (i : Nat) : (opsA cs i).length ≤ cs.length - i := by
  have h : ∀ f i, (opsF cs f i).length ≤ f := by
    intro f
    induction f with
    | zero => intro i; simp [opsF]
    | succ f ih =>
      intro i
      unfold opsF
      split
      · have := ih (nxN cs i); simp; omega
      · simp
  exact h _ _
theorem opsL_len (cs : List Nat) : (opsL cs).length ≤ cs.length := by have := opsA_len cs 0; unfold opsL; omega
theorem opsA_split (cs : List Nat) : ∀ (pre : List Nat) (i x : Nat) (r : List Nat), opsA cs i = pre ++ x :: r → x < cs.length ∧ r = opsA cs (nxN cs x)
  | [], i, x, r, h => by
    by_cases hi : i < cs.length
    · rw [opsA_lt hi] at h
      simp at h
      obtain ⟨rfl, rfl⟩ := h
      exact ⟨hi, rfl⟩
    · rw [opsA_ge (by omega)] at h
      simp at h
  | y :: pre, i, x, r, h => by
    by_cases hi : i < cs.length
    · rw [opsA_lt hi] at h
      simp at h
      exact opsA_split cs pre _ x r h.2
    · rw [opsA_ge (by omega)] at h
      simp at h
theorem opsL_at {cs : List Nat} {k : Nat} (h : k < (opsL cs).length) : (opsL cs).drop (k + 1) = opsA cs (nxN cs (opsL cs)[k]) := by
  refine (opsA_split cs ((opsL cs).take k) 0 (opsL cs)[k] ((opsL cs).drop (k + 1)) ?_).2
  show opsL cs = _
  rw [← List.drop_eq_getElem_cons h, List.take_append_drop]
theorem opsL_next {cs : List Nat} {k : Nat} (h : k + 1 < (opsL cs).length) : (opsL cs)[k + 1] = nxN cs (opsL cs)[k] ∧ nxN cs (opsL cs)[k] < cs.length := by
  have e := opsL_at (cs := cs) (k := k) (by omega)
  rw [List.drop_eq_getElem_cons h] at e
  by_cases hn : nxN cs (opsL cs)[k] < cs.length
  · rw [opsA_lt hn] at e
    exact ⟨(List.cons.inj e).1, hn⟩
  · rw [opsA_ge (by omega)] at e
    cases e
theorem opsL_last {cs : List Nat} {k : Nat} (h : k + 1 = (opsL cs).length) : cs.length ≤ nxN cs ((opsL cs)[k]'(by omega)) := by
  have e := opsL_at (cs := cs) (k := k) (by omega)
  rw [List.drop_eq_nil_of_le (by omega)] at e
  by_cases hn : nxN cs ((opsL cs)[k]'(by omega)) < cs.length
  · rw [opsA_lt hn] at e
    simp at e
  · omega
def marksL (cs : List Nat) : List Nat := (opsL cs).filter fun i => byN cs i == 91
theorem marksL_sl (cs : List Nat) : SL (marksL cs) := List.Pairwise.filter _ (opsL_sl cs)
theorem marksL_lt {cs : List Nat} {x : Nat} (h : x ∈ marksL cs) : x < cs.length ∧ byN cs x = 91 := by
  obtain ⟨h1, h2⟩ := List.mem_filter.1 h
  exact ⟨opsL_lt h1, by simpa using h2⟩
def markN (cs : List Nat) (n : Nat) : Bool := decide (n < cs.length) && decide (n ∈ marksL cs)
def namedN (c : Nat) : Bool := (c ≤ 11 || 16 ≤ c && c ≤ 29 || c == 32 || 48 ≤ c && c ≤ 72 || 80 ≤ c && c ≤ 91 || 95 ≤ c && c ≤ 164 || 240 ≤ c && c ≤ 245 || c == 250 || 253 ≤ c && c ≤ 255)
def endN (c : Nat) : Bool := c == 0 || c == 243 || c == 253 || c == 254 || c == 255 || !namedN c
def stopN (c : Nat) : Bool := endN c || c == 86 || c == 87
def grpA (f : Nat → Nat) : List Nat → List Nat → List (List Nat)
  | now, [] => if now = [] then [] else [now]
  | now, x :: r => if f x = 91 ∧ now ≠ [] then now :: grpA f [x] r else if stopN (f x) then (now ++ [x]) :: grpA f [] r else grpA f (now ++ [x]) r
def cutN (f : Nat → Nat) (x : Nat) (r : List Nat) : Bool := stopN (f x) || match r with | [] => true | y :: _ => f y == 91
theorem grpA_mark (f : Nat → Nat) (now : List Nat) (x : Nat) (r : List Nat) (hn : now ≠ []) (h : f x = 91) : grpA f now (x :: r) = now :: grpA f [] (x :: r) := by
  rw [grpA, if_pos ⟨h, hn⟩]
  rw [grpA, if_neg (by simp), if_neg (by rw [h]; decide)]
  rfl
theorem grpA_cut (f : Nat → Nat) (now : List Nat) (x : Nat) (r : List Nat) (h : now = [] ∨ f x ≠ 91) : grpA f now (x :: r) = if cutN f x r then (now ++ [x]) :: grpA f [] r else grpA f (now ++ [x]) r := by
  rw [grpA, if_neg (by rintro ⟨h1, h2⟩; rcases h with h | h; exact h2 h; exact h h1)]
  unfold cutN
  by_cases hs : stopN (f x) = true
  · simp [hs]
  · simp only [hs, Bool.false_or, Bool.false_eq_true, if_false]
    cases r with
    | nil => simp [grpA]
    | cons y r =>
      by_cases hy : f y = 91
      · simp only [hy, BEq.rfl, if_true]
        exact grpA_mark f _ y r (by simp) hy
      · simp [hy]
theorem grpA_join (f : Nat → Nat) : ∀ l now, (grpA f now l).flatten = now ++ l
  | [], now => by
    unfold grpA
    split
    · rename_i h; simp [h]
    · simp
  | x :: r, now => by
    unfold grpA
    split
    · simp [grpA_join f r]
    · split
      · simp [grpA_join f r]
      · simp [grpA_join f r]
theorem grpA_ne (f : Nat → Nat) : ∀ l now, ∀ g ∈ grpA f now l, g ≠ []
  | [], now, g, h => by
    unfold grpA at h
    split at h
    · simp at h
    · simp at h; rw [h]; assumption
  | x :: r, now, g, h => by
    unfold grpA at h
    split at h
    · rename_i hh
      rcases List.mem_cons.1 h with e | e
      · rw [e]; exact hh.2
      · exact grpA_ne f r _ g e
    · split at h
      · rcases List.mem_cons.1 h with e | e
        · rw [e]; simp
        · exact grpA_ne f r _ g e
      · exact grpA_ne f r _ g h
theorem grpA_mid (f : Nat → Nat) : ∀ l now, (∀ x ∈ now, stopN (f x) = false) → ∀ g ∈ grpA f now l, ∀ x ∈ g.dropLast, stopN (f x) = false
  | [], now, hn, g, h, x, hx => by
    unfold grpA at h
    split at h
    · simp at h
    · simp at h; rw [h] at hx; exact hn x ((List.dropLast_sublist _).subset hx)
  | y :: r, now, hn, g, h, x, hx => by
    unfold grpA at h
    split at h
    · rename_i hh
      rcases List.mem_cons.1 h with e | e
      · rw [e] at hx; exact hn x ((List.dropLast_sublist _).subset hx)
      · refine grpA_mid f r [y] (fun z hz => ?_) g e x hx
        rw [List.mem_singleton] at hz
        rw [hz, hh.1]; decide
    · split at h
      · rcases List.mem_cons.1 h with e | e
        · rw [e, List.dropLast_concat] at hx; exact hn x hx
        · exact grpA_mid f r [] (by simp) g e x hx
      · rename_i hs
        refine grpA_mid f r (now ++ [y]) (fun z hz => ?_) g h x hx
        rcases List.mem_append.1 hz with e | e
        · exact hn z e
        · rw [List.mem_singleton] at e; rw [e]; simpa using hs
theorem grpA_mk (f : Nat → Nat) : ∀ l now, (∀ x ∈ now.tail, f x ≠ 91) → ∀ g ∈ grpA f now l, ∀ x ∈ g.tail, f x ≠ 91
  | [], now, hn, g, h, x, hx => by
    unfold grpA at h
    split at h
    · simp at h
    · simp at h; rw [h] at hx; exact hn x hx
  | y :: r, now, hn, g, h, x, hx => by
    unfold grpA at h
    split at h
    · rename_i hh
      rcases List.mem_cons.1 h with e | e
      · rw [e] at hx; exact hn x hx
      · exact grpA_mk f r [y] (by simp) g e x hx
    · rename_i hm
      have ht : ∀ x ∈ (now ++ [y]).tail, f x ≠ 91 := by
        intro z hz
        cases now with
        | nil => simp at hz
        | cons a b =>
          simp at hz
          rcases hz with e | e
          · exact hn z (by simpa using e)
          · rw [e]; intro e2; exact hm ⟨e2, by simp⟩
      split at h
      · rcases List.mem_cons.1 h with e | e
        · rw [e] at hx; exact ht x hx
        · exact grpA_mk f r [] (by simp) g e x hx
      · exact grpA_mk f r _ ht g h x hx
def grps (cs : List Nat) : List (List Nat) := grpA (byN cs) [] (opsL cs)
theorem grps_join (cs : List Nat) : (grps cs).flatten = opsL cs := by unfold grps; rw [grpA_join]; rfl
theorem grps_ne {cs : List Nat} {g : List Nat} (h : g ∈ grps cs) : g ≠ [] := grpA_ne _ _ _ g h
theorem grps_sl {cs : List Nat} {g : List Nat} (h : g ∈ grps cs) : SL g := by
  have := opsL_sl cs
  rw [← grps_join] at this
  exact (List.pairwise_flatten.1 this).1 g h
theorem grps_mem {cs : List Nat} {g : List Nat} {x : Nat} (h : g ∈ grps cs) (hx : x ∈ g) : x ∈ opsL cs := by
  rw [← grps_join]; exact List.mem_flatten.2 ⟨g, h, hx⟩
theorem grps_len (cs : List Nat) : (grps cs).length ≤ cs.length := by
  have h1 : ∀ gs : List (List Nat), (∀ g ∈ gs, g ≠ []) → gs.length ≤ gs.flatten.length := by
    intro gs
    induction gs with
    | nil => simp
    | cons g gs ih =>
      intro h
      have := ih fun g hg => h g (by simp [hg])
      have h0 : 0 < g.length := List.length_pos_iff.2 (h g (by simp))
      simp; simp at this; omega
  have := h1 (grps cs) fun g h => grps_ne h
  rw [grps_join] at this
  have := opsL_len cs
  omega
def fstN (g : List Nat) : Nat := g.headD 0
def lstN (g : List Nat) : Nat := g.getLastD 0
theorem fst_mem {g : List Nat} (h : g ≠ []) : fstN g ∈ g := by
  cases g with
  | nil => exact absurd rfl h
  | cons x g => simp [fstN]
theorem lst_mem {g : List Nat} (h : g ≠ []) : lstN g ∈ g := by
  unfold lstN
  rw [List.getLastD_eq_getLast?, List.getLast?_eq_some_getLast h]
  exact List.getLast_mem h
theorem lst_get {g : List Nat} (h : 0 < g.length) : lstN g = g[g.length - 1] := by
  unfold lstN
  rw [List.getLastD_eq_getLast?, List.getLast?_eq_getElem?, List.getElem?_eq_getElem (by omega)]
  rfl
theorem fst_get {g : List Nat} (h : 0 < g.length) : fstN g = g[0] := by
  cases g with
  | nil => simp at h
  | cons x g => rfl
theorem sl_bounds {g : List Nat} (h : SL g) {x : Nat} (hx : x ∈ g) : fstN g ≤ x ∧ x ≤ lstN g := by
  obtain ⟨i, hi, rfl⟩ := List.getElem_of_mem hx
  have h0 : 0 < g.length := by omega
  rw [fst_get h0, lst_get h0]
  constructor
  · by_cases e : i = 0
    · subst e; exact Nat.le_refl _
    · exact Nat.le_of_lt (h.get hi (by omega))
  · by_cases e : i = g.length - 1
    · subst e; exact Nat.le_refl _
    · exact Nat.le_of_lt (h.get (by omega) (by omega))
theorem of_eq {gs : List (List Nat)} (hs : SL gs.flatten) (hne : ∀ g ∈ gs, g ≠ []) {x : Nat} (hx : x ∈ gs.flatten) {g : List Nat} (hg : g ∈ gs) : (fstN g ≤ x ∧ x ≤ lstN g) ↔ x ∈ g := by
  constructor
  · rintro ⟨h1, h2⟩
    obtain ⟨A, B, rfl⟩ := List.append_of_mem hg
    rw [List.flatten_append, List.flatten_cons] at hx hs
    have hs' := List.pairwise_append.1 hs
    have hs2 := List.pairwise_append.1 hs'.2.1
    rcases List.mem_append.1 hx with e | e
    · have := hs'.2.2 x e (fstN g) (List.mem_append.2 (.inl (fst_mem (hne g hg))))
      omega
    · rcases List.mem_append.1 e with e | e
      · exact e
      · have := hs2.2.2 (lstN g) (lst_mem (hne g hg)) x e
        omega
  · intro h
    exact sl_bounds ((List.pairwise_flatten.1 hs).1 g hg) h
end
section
def numN (l : List Nat) : Nat := l.foldl (fun a b => a * 256 + b) 0
theorem numN_snoc (l : List Nat) (b : Nat) : numN (l ++ [b]) = numN l * 256 + b := by unfold numN; rw [List.foldl_append]; rfl
theorem numN_lt (l : List Nat) (h : ∀ b ∈ l, b < 256) : numN l < 256 ^ l.length := by
  have : ∀ (l : List Nat) (a k : Nat), (∀ b ∈ l, b < 256) → a < 256 ^ k → l.foldl (fun a b => a * 256 + b) a < 256 ^ (k + l.length) := by
    intro l
    induction l with
    | nil => intro a k _ h; simpa using h
    | cons b l ih =>
      intro a k hb ha
      have h1 := hb b (by simp)
      have h2 : a * 256 + b < 256 ^ (k + 1) := by rw [Nat.pow_succ]; omega
      have := ih (a * 256 + b) (k + 1) (fun c hc => hb c (by simp [hc])) h2
      rw [List.foldl_cons, List.length_cons, show k + (l.length + 1) = k + 1 + l.length by omega]
      exact this
  have := this l 0 0 h (by simp)
  simpa [numN] using this
def restN (cs : List Nat) (i : Nat) : List Nat := (List.range (szN (byN cs i))).map fun j => byN cs (i + 1 + j)
theorem byN_lt {cs : List Nat} (h : ∀ c ∈ cs, c < 256) (i : Nat) : byN cs i < 256 := by
  unfold byN
  rw [List.getD_eq_getElem?_getD]
  by_cases hi : i < cs.length
  · rw [List.getElem?_eq_getElem hi]; exact h _ (List.getElem_mem hi)
  · rw [List.getElem?_eq_none (by omega)]; decide
theorem szN_le (c : Nat) : szN c ≤ 32 := by unfold szN; split <;> omega
theorem restN_len (cs : List Nat) (i : Nat) : (restN cs i).length = szN (byN cs i) := by simp [restN]
theorem restN_lt {cs : List Nat} (h : ∀ c ∈ cs, c < 256) (i : Nat) : ∀ b ∈ restN cs i, b < 256 := by
  intro b hb
  unfold restN at hb
  obtain ⟨j, _, rfl⟩ := List.mem_map.1 hb
  exact byN_lt h _
def pushV (cs : List Nat) (i : Nat) : Option Nat := if 95 ≤ byN cs i ∧ byN cs i ≤ 127 then some (numN (restN cs i)) else none
def pushN (cs : List Nat) (i : Nat) : Option Nat := if i ∈ opsL cs then pushV cs i else none
theorem pushV_lt {cs : List Nat} (h : ∀ c ∈ cs, c < 256) {i n : Nat} (hp : pushV cs i = some n) : n < 2 ^ 256 := by
  unfold pushV at hp
  split at hp
  · simp at hp
    rw [← hp]
    have h1 := numN_lt _ (restN_lt h i)
    rw [restN_len] at h1
    refine Nat.lt_of_lt_of_le h1 ?_
    rw [show (2 : Nat) ^ 256 = 256 ^ 32 by decide]
    exact Nat.pow_le_pow_right (by decide) (szN_le _)
  · simp at hp
theorem pushN_lt {cs : List Nat} (h : ∀ c ∈ cs, c < 256) {i n : Nat} (hp : pushN cs i = some n) : n < 2 ^ 256 := by
  unfold pushN at hp
  split at hp
  · exact pushV_lt h hp
  · simp at hp
def fixG (cs : List Nat) (g : List Nat) : Option Nat :=
  if g.length < 2 ∨ (byN cs (lstN g) ≠ 86 ∧ byN cs (lstN g) ≠ 87) then none else pushN cs (g.getD (g.length - 2) 0)
def fixedN (cs : List Nat) (i : Nat) : Option Nat := match (grps cs).find? (fun g => decide (lstN g = i)) with | some g => fixG cs g | none => none
theorem fixG_lt {cs : List Nat} (h : ∀ c ∈ cs, c < 256) {g : List Nat} {n : Nat} (hp : fixG cs g = some n) : n < 2 ^ 256 := by
  unfold fixG at hp
  split at hp
  · simp at hp
  · exact pushN_lt h hp
theorem fixedN_lt {cs : List Nat} (h : ∀ c ∈ cs, c < 256) {i n : Nat} (hp : fixedN cs i = some n) : n < 2 ^ 256 := by
  unfold fixedN at hp
  split at hp
  · exact fixG_lt h hp
  · simp at hp
structure BlkN where
  first : Nat
  last : Nat
  next : List Nat
  exit : Bool
def tosJ (cs : List Nat) (g : List Nat) : List Nat × Bool :=
  if byN cs (lstN g) ≠ 86 ∧ byN cs (lstN g) ≠ 87 then ([], false)
  else match fixG cs g with
    | none => (marksL cs, true)
    | some n => if markN cs n then ([n], false) else ([], true)
def tosF (cs : List Nat) (g : List Nat) : List Nat × Bool :=
  if byN cs (lstN g) = 86 then ([], false) else if endN (byN cs (lstN g)) = true ∨ cs.length ≤ nxN cs (lstN g) then ([], true) else ([nxN cs (lstN g)], false)
def blkN (cs : List Nat) (g : List Nat) : BlkN := ⟨fstN g, lstN g, setL ((tosJ cs g).1 ++ (tosF cs g).1), (tosJ cs g).2 || (tosF cs g).2⟩
def blksN (cs : List Nat) : List BlkN := (grps cs).map (blkN cs)
def atN (cs : List Nat) (i : Nat) : Option Nat := ((grps cs).find? (fun g => decide (i ∈ g))).map fstN
theorem tosJ_lt (cs : List Nat) (g : List Nat) : ∀ x ∈ (tosJ cs g).1, x ∈ marksL cs := by
  intro x hx
  unfold tosJ at hx
  split at hx
  · simp at hx
  · split at hx
    · exact hx
    · split at hx
      · rename_i h
        simp at hx
        subst hx
        unfold markN at h
        simp at h
        exact h.2
      · simp at hx
theorem tosF_lt (cs : List Nat) (g : List Nat) : ∀ x ∈ (tosF cs g).1, x = nxN cs (lstN g) ∧ x < cs.length := by
  intro x hx
  unfold tosF at hx
  split at hx
  · simp at hx
  · split at hx
    · simp at hx
    · rename_i h
      simp at hx
      rw [not_or] at h
      exact ⟨hx, by omega⟩
theorem next_lt {cs : List Nat} {b : BlkN} (h : b ∈ blksN cs) : ∀ x ∈ b.next, x < cs.length := by
  intro x hx
  obtain ⟨g, _, rfl⟩ := List.mem_map.1 h
  have hx' : x ∈ setL ((tosJ cs g).1 ++ (tosF cs g).1) := hx
  rw [mem_setL, List.mem_append] at hx'
  rcases hx' with e | e
  · exact (marksL_lt (tosJ_lt cs g x e)).1
  · exact (tosF_lt cs g x e).2
theorem next_sl {cs : List Nat} {b : BlkN} (h : b ∈ blksN cs) : SL b.next := by
  obtain ⟨g, _, rfl⟩ := List.mem_map.1 h
  exact setL_sl _
theorem blksN_len (cs : List Nat) : (blksN cs).length ≤ cs.length := by unfold blksN; rw [List.length_map]; exact grps_len cs
theorem next_len {cs : List Nat} {b : BlkN} (h : b ∈ blksN cs) : b.next.length ≤ cs.length := nodup_le (next_sl h).nodup (next_lt h)
def findB (bs : List BlkN) (k : Nat) : Option BlkN := bs.find? fun b => decide (b.first = k)
def nextOf (bs : List BlkN) (k : Nat) : List Nat := match findB bs k with | some b => b.next | none => []
end
section
theorem span_step (f : Nat → Nat) (l : List Nat) (i a : Nat) (hi : i < l.length) (ha : a ≤ i) (hm : a = i ∨ f l[i] ≠ 91) :
    grpA f ((l.take i).drop a) (l.drop i) = if cutN f l[i] (l.drop (i + 1)) then ((l.take (i + 1)).drop a) :: grpA f [] (l.drop (i + 1)) else grpA f ((l.take (i + 1)).drop a) (l.drop (i + 1)) := by
  have e : (l.take (i + 1)).drop a = (l.take i).drop a ++ [l[i]] := by
    rw [List.take_succ_eq_append_getElem hi, List.drop_append_of_le_length (by rw [List.length_take]; omega)]
  rw [List.drop_eq_getElem_cons hi, grpA_cut, e]
  rcases hm with h | h
  · left; subst h; simp
  · exact .inr h
theorem span_ends (l : List Nat) (i a : Nat) (hi : i < l.length) (ha : a ≤ i) : fstN ((l.take (i + 1)).drop a) = l[a] ∧ lstN ((l.take (i + 1)).drop a) = l[i] := by
  have hl : ((l.take (i + 1)).drop a).length = i + 1 - a := by rw [List.length_drop, List.length_take]; omega
  rw [fst_get (by omega), lst_get (by omega)]
  constructor
  · simp
  · simp only [List.getElem_drop, List.getElem_take]
    congr 1
    rw [hl]; omega
theorem span_none (l : List Nat) (i : Nat) : (l.take i).drop i = [] := List.drop_eq_nil_of_le (by rw [List.length_take]; omega)
theorem cutN_not {f : Nat → Nat} {x : Nat} {r : List Nat} (h : cutN f x r = false) : ∃ y r', r = y :: r' ∧ f y ≠ 91 := by
  unfold cutN at h
  cases r with
  | nil => simp at h
  | cons y r' => exact ⟨y, r', rfl, by simp at h; exact h.2⟩
theorem grps_of {cs : List Nat} {x : Nat} (hx : x ∈ opsL cs) : (grps cs).find? (fun g => decide (fstN g ≤ x) && decide (x ≤ lstN g)) = (grps cs).find? (fun g => decide (x ∈ g)) := by
  have hs := opsL_sl cs
  rw [← grps_join] at hs
  have hx' : x ∈ (grps cs).flatten := by rw [grps_join]; exact hx
  have key : ∀ gs : List (List Nat), (∀ g ∈ gs, g ∈ grps cs) → gs.find? (fun g => decide (fstN g ≤ x) && decide (x ≤ lstN g)) = gs.find? (fun g => decide (x ∈ g)) := by
    intro gs
    induction gs with
    | nil => intro _; rfl
    | cons g gs ih =>
      intro h
      have e := of_eq hs (fun g h => grps_ne h) hx' (h g (by simp))
      have e2 : (decide (fstN g ≤ x) && decide (x ≤ lstN g)) = decide (x ∈ g) := by
        rw [← Bool.decide_and]; exact decide_eq_decide.2 e
      rw [List.find?_cons, List.find?_cons, e2, ih fun g hg => h g (by simp [hg])]
  exact key _ fun _ h => h
theorem grps_find {cs : List Nat} {x : Nat} (hx : x ∈ opsL cs) : ∃ g, g ∈ grps cs ∧ x ∈ g ∧ (grps cs).find? (fun g => decide (x ∈ g)) = some g := by
  rw [← grps_join] at hx
  obtain ⟨g, hg, hxg⟩ := List.mem_flatten.1 hx
  cases h : (grps cs).find? (fun g => decide (x ∈ g)) with
  | none =>
    have := List.find?_eq_none.1 h g hg
    simp [hxg] at this
  | some g' => exact ⟨g', List.mem_of_find?_eq_some h, by simpa using List.find?_some h, rfl⟩
theorem grps_one {cs : List Nat} {g g' : List Nat} {x : Nat} (hg : g ∈ grps cs) (hg' : g' ∈ grps cs) (hx : x ∈ g) (hx' : x ∈ g') : g = g' := by
  have hs := opsL_sl cs
  rw [← grps_join] at hs
  obtain ⟨A, B, e⟩ := List.append_of_mem hg
  rw [e] at hg' hs
  rw [List.flatten_append, List.flatten_cons] at hs
  have hs' := List.pairwise_append.1 hs
  have hs2 := List.pairwise_append.1 hs'.2.1
  rcases List.mem_append.1 hg' with h | h
  · have := hs'.2.2 x (List.mem_flatten.2 ⟨g', h, hx'⟩) x (List.mem_append.2 (.inl hx))
    omega
  · rcases List.mem_cons.1 h with h | h
    · exact h.symm
    · have := hs2.2.2 x hx x (List.mem_flatten.2 ⟨g', h, hx'⟩)
      omega
theorem atN_out {cs : List Nat} {x : Nat} (h : x ∉ opsL cs) : atN cs x = none := by
  unfold atN
  rw [List.find?_eq_none.2 fun g hg => ?_]
  · rfl
  · simp only [decide_eq_true_eq]
    intro hx
    exact h (grps_mem hg hx)
theorem grps_stop {cs : List Nat} {g : List Nat} {x : Nat} (hg : g ∈ grps cs) (hx : x ∈ g) (hs : stopN (byN cs x) = true) : lstN g = x := by
  have hm := grpA_mid (byN cs) (opsL cs) [] (by simp) g hg x
  have hne := grps_ne hg
  have e : g = g.dropLast ++ [lstN g] := by
    rw [lst_get (List.length_pos_iff.2 hne), ← List.getLast_eq_getElem hne]
    exact (List.dropLast_concat_getLast hne).symm
  rw [e] at hx
  rcases List.mem_append.1 hx with h | h
  · rw [hm h] at hs; cases hs
  · simpa using (List.mem_singleton.1 h).symm
theorem grps_ahead {cs : List Nat} {g : List Nat} (hg : g ∈ grps cs) : (opsL cs).filter (fun y => decide (fstN g ≤ y) && decide (y < lstN g)) = g.dropLast := by
  have hne := grps_ne hg
  have hs := opsL_sl cs
  have hs2 := hs
  rw [← grps_join] at hs2
  have e : g = g.dropLast ++ [lstN g] := by
    rw [lst_get (List.length_pos_iff.2 hne), ← List.getLast_eq_getElem hne]
    exact (List.dropLast_concat_getLast hne).symm
  have hsg := grps_sl hg
  have hsd : SL g.dropLast := List.Pairwise.sublist (List.dropLast_sublist g) hsg
  refine sl_ext (List.Pairwise.filter _ hs) hsd fun y => ?_
  rw [List.mem_filter, Bool.and_eq_true, decide_eq_true_eq, decide_eq_true_eq]
  constructor
  · rintro ⟨h1, h2, h3⟩
    have hy : y ∈ g := (of_eq hs2 (fun g h => grps_ne h) (by rw [grps_join]; exact h1) hg).1 ⟨h2, by omega⟩
    rw [e] at hy
    rcases List.mem_append.1 hy with h | h
    · exact h
    · have := List.mem_singleton.1 h; omega
  · intro h
    have hy : y ∈ g := (List.dropLast_sublist g).subset h
    refine ⟨grps_mem hg hy, (sl_bounds hsg hy).1, ?_⟩
    rw [e] at hsg
    exact (List.pairwise_append.1 hsg).2.2 y h _ (by simp)
def aheadN (cs : List Nat) (a x : Nat) : Option Nat := ((opsL cs).filter (fun y => decide (a ≤ y) && decide (y < x))).getLast?
theorem fixed_ref {cs : List Nat} {x : Nat} {g : List Nat} (hg : g ∈ grps cs) (hx : x ∈ g) (hj : byN cs x = 86 ∨ byN cs x = 87) : fixedN cs x = match aheadN cs (fstN g) x with | none => none | some y => pushN cs y := by
  have hst : stopN (byN cs x) = true := by rcases hj with h | h <;> (rw [h]; decide)
  have hl := grps_stop hg hx hst
  have hf : (grps cs).find? (fun g => decide (lstN g = x)) = some g := by
    cases h : (grps cs).find? (fun g => decide (lstN g = x)) with
    | none =>
      have := List.find?_eq_none.1 h g hg
      simp [hl] at this
    | some g' =>
      have h1 := List.mem_of_find?_eq_some h
      have h2 := List.find?_some h
      simp at h2
      rw [grps_one h1 hg (by rw [← h2]; exact lst_mem (grps_ne h1)) hx]
  unfold fixedN
  rw [hf]
  unfold aheadN
  subst hl
  rw [grps_ahead hg]
  show fixG cs g = _
  unfold fixG
  have hn : ¬ (byN cs (lstN g) ≠ 86 ∧ byN cs (lstN g) ≠ 87) := by rcases hj with h | h <;> simp [h]
  have h0 := List.length_pos_iff.2 (grps_ne hg)
  by_cases h2 : g.length < 2
  · rw [if_pos (.inl h2)]
    have : g.dropLast = [] := List.eq_nil_of_length_eq_zero (by rw [List.length_dropLast]; omega)
    rw [this]; rfl
  · rw [if_neg (by rintro (h | h); exact h2 h; exact hn h)]
    rw [List.getLast?_eq_getElem?, List.length_dropLast, List.getElem?_eq_getElem (by rw [List.length_dropLast]; omega), List.getElem_dropLast]
    simp only [List.getD_eq_getElem?_getD]
    rw [List.getElem?_eq_getElem (by omega)]
    rfl
theorem fixed_out {cs : List Nat} {x : Nat} (h : x ∉ opsL cs ∨ (byN cs x ≠ 86 ∧ byN cs x ≠ 87)) : fixedN cs x = none := by
  unfold fixedN
  split
  · rename_i g hg
    have h1 := List.mem_of_find?_eq_some hg
    have h2 := List.find?_some hg
    simp at h2
    rcases h with h | h
    · exact absurd (grps_mem h1 (lst_mem (grps_ne h1))) (by rw [h2]; exact h)
    · unfold fixG
      rw [h2, if_pos (.inr h)]
  · rfl
theorem next_head {cs : List Nat} {g : List Nat} (hg : g ∈ grps cs) (hn : nxN cs (lstN g) < cs.length) : ∃ h ∈ grps cs, fstN h = nxN cs (lstN g) := by
  obtain ⟨A, B, e⟩ := List.append_of_mem hg
  have hj := grps_join cs
  rw [e] at hj
  have hne := grps_ne hg
  have e1 : g = g.dropLast ++ [lstN g] := by
    rw [lst_get (List.length_pos_iff.2 hne), ← List.getLast_eq_getElem hne]
    exact (List.dropLast_concat_getLast hne).symm
  have h0 : opsA cs 0 = (A.flatten ++ g.dropLast) ++ lstN g :: B.flatten := by
    show opsL cs = _
    rw [← hj, List.flatten_append, List.flatten_cons]
    conv => lhs; rw [e1]
    simp
  have h1 := (opsA_split cs _ 0 _ _ h0).2
  rw [opsA_lt hn] at h1
  cases B with
  | nil => simp at h1
  | cons b B =>
    have hb : b ∈ grps cs := by rw [e]; simp
    have hbn := grps_ne hb
    refine ⟨b, hb, ?_⟩
    cases b with
    | nil => exact absurd rfl hbn
    | cons y b =>
      simp at h1
      exact h1.1
theorem mark_head {cs : List Nat} {x : Nat} (hx : x ∈ marksL cs) : ∃ h ∈ grps cs, fstN h = x := by
  obtain ⟨h1, h2⟩ := List.mem_filter.1 hx
  obtain ⟨g, hg, hxg, -⟩ := grps_find h1
  refine ⟨g, hg, ?_⟩
  have hm := grpA_mk (byN cs) (opsL cs) [] (by simp) g hg x
  cases g with
  | nil => simp at hxg
  | cons y g =>
    rcases List.mem_cons.1 hxg with e | e
    · exact e.symm
    · exact absurd (by simpa using h2) (hm e)
theorem next_block {cs : List Nat} {b : BlkN} (hb : b ∈ blksN cs) {x : Nat} (hx : x ∈ b.next) : ∃ b' ∈ blksN cs, b'.first = x := by
  obtain ⟨g, hg, rfl⟩ := List.mem_map.1 hb
  have hx' : x ∈ setL ((tosJ cs g).1 ++ (tosF cs g).1) := hx
  rw [mem_setL, List.mem_append] at hx'
  have : ∃ h ∈ grps cs, fstN h = x := by
    rcases hx' with e | e
    · exact mark_head (tosJ_lt cs g x e)
    · obtain ⟨rfl, h⟩ := tosF_lt cs g x e
      exact next_head hg h
  obtain ⟨h, hh, rfl⟩ := this
  exact ⟨blkN cs h, List.mem_map.2 ⟨h, hh, rfl⟩, rfl⟩
end
end Go.Proofs.YtijkdabmegbcjaaGreatDoor
