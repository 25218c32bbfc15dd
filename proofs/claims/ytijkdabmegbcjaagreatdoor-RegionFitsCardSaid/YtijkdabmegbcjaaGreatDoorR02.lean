/- Texts of this claim, merged; no condition. -/
import Derived.Test.YtijkdabmegbcjaaGreatDoorR00
import Derived.Lib.AppendZerosOnto
import Derived.Lib.AppendZeros
set_option linter.all false
namespace Go.Proofs.YtijkdabmegbcjaaGreatDoor

def natI (l : List Nat) : List Int := l.map fun n : Nat => (n : Int)
theorem natI_len (l : List Nat) : (natI l).length = l.length := by simp [natI]
theorem natI_get (l : List Nat) (i : Nat) (h : i < (natI l).length) : (natI l)[i] = (l[i]'(by simpa [natI] using h) : Int) := by simp [natI]
theorem natI_app (a b : List Nat) : natI (a ++ b) = natI a ++ natI b := by simp [natI]
theorem natI_cons (x : Nat) (l : List Nat) : natI (x :: l) = (x : Int) :: natI l := rfl
/-! Rising lists. -/
def SL (l : List Nat) : Prop := l.Pairwise (· < ·)
theorem sl_ext : ∀ {a b : List Nat}, SL a → SL b → (∀ x, x ∈ a ↔ x ∈ b) → a = b
  | [], [], _, _, _ => rfl
  | [], y :: b, _, _, h => absurd ((h y).2 (by simp)) (by simp)
  | x :: a, [], _, _, h => absurd ((h x).1 (by simp)) (by simp)
  | x :: a, y :: b, ha, hb, h => by
    have ha' := List.pairwise_cons.1 ha
    have hb' := List.pairwise_cons.1 hb
    have e : x = y := by
      rcases List.mem_cons.1 ((h x).1 (by simp)) with e | e
      · exact e
      · rcases List.mem_cons.1 ((h y).2 (by simp)) with e2 | e2
        · exact e2.symm
        · have := hb'.1 x e
          have := ha'.1 y e2
          omega
    subst e
    rw [sl_ext ha'.2 hb'.2 fun z => ?_]
    constructor
    · intro hz
      rcases List.mem_cons.1 ((h z).1 (by simp [hz])) with e | e
      · have := ha'.1 z hz; omega
      · exact e
    · intro hz
      rcases List.mem_cons.1 ((h z).2 (by simp [hz])) with e | e
      · have := hb'.1 z hz; omega
      · exact e
theorem SL.nodup {l : List Nat} (h : SL l) : l.Nodup := List.Pairwise.imp (fun h => Nat.ne_of_lt h) h
theorem SL.get {l : List Nat} (h : SL l) {i j : Nat} (hj : j < l.length) (hij : i < j) : l[i] < l[j] := List.pairwise_iff_getElem.1 h i j (by omega) hj hij

/-- With one more number. -/
def insW (n : Nat) : List Nat → List Nat
  | [] => [n]
  | x :: l => if x < n then x :: insW n l else n :: (x :: l).filter (fun y => y ≠ n)
theorem mem_insW (n x : Nat) : ∀ l : List Nat, x ∈ insW n l ↔ x = n ∨ x ∈ l
  | [] => by simp [insW]
  | y :: l => by
    unfold insW
    split
    · rw [List.mem_cons, mem_insW n x l, List.mem_cons]
      constructor
      · rintro (h | h | h)
        · exact .inr (.inl h)
        · exact .inl h
        · exact .inr (.inr h)
      · rintro (h | h | h)
        · exact .inr (.inl h)
        · exact .inl h
        · exact .inr (.inr h)
    · rw [List.mem_cons, List.mem_filter]
      by_cases e : x = n
      · simp [e]
      · simp [e]
theorem sl_insW (n : Nat) : ∀ l : List Nat, SL l → SL (insW n l)
  | [], _ => by unfold insW SL; simp
  | y :: l, h => by
    have h' := List.pairwise_cons.1 h
    unfold insW
    split
    · refine List.pairwise_cons.2 ⟨fun z hz => ?_, sl_insW n l h'.2⟩
      rcases (mem_insW n z l).1 hz with e | e
      · omega
      · exact h'.1 z e
    · refine List.pairwise_cons.2 ⟨fun z hz => ?_, List.Pairwise.filter _ h⟩
      obtain ⟨h1, h2⟩ := List.mem_filter.1 hz
      simp at h2
      rcases List.mem_cons.1 h1 with e | e
      · omega
      · have := h'.1 z e; omega
def setL (l : List Nat) : List Nat := l.foldl (fun a n => insW n a) []
theorem foldW (l : List Nat) : ∀ a : List Nat, (SL a → SL (l.foldl (fun a n => insW n a) a)) ∧ ∀ x, x ∈ l.foldl (fun a n => insW n a) a ↔ x ∈ a ∨ x ∈ l := by
  induction l with
  | nil => intro a; simp
  | cons y l ih =>
    intro a
    refine ⟨fun h => (ih (insW y a)).1 (sl_insW y a h), fun x => ?_⟩
    rw [List.foldl_cons, (ih (insW y a)).2 x, mem_insW, List.mem_cons]
    constructor
    · rintro ((h | h) | h)
      · exact .inr (.inl h)
      · exact .inl h
      · exact .inr (.inr h)
    · rintro (h | h | h)
      · exact .inl (.inr h)
      · exact .inl (.inl h)
      · exact .inr h
theorem setL_sl (l : List Nat) : SL (setL l) := (foldW l []).1 List.Pairwise.nil
theorem mem_setL (l : List Nat) (x : Nat) : x ∈ setL l ↔ x ∈ l := by
  unfold setL; rw [(foldW l []).2 x]; simp
theorem setL_len (l : List Nat) : (setL l).length ≤ l.length := by
  have hn := (setL_sl l).nodup
  exact hn.length_le_of_subset fun x hx => (mem_setL l x).1 hx
/-- What lies below a bound, each once, is no more than the bound. -/
theorem nodup_le {l : List Nat} {n : Nat} (hn : l.Nodup) (h : ∀ x ∈ l, x < n) : l.length ≤ n := by
  have := hn.length_le_of_subset (l₂ := List.range n) fun x hx => List.mem_range.2 (h x hx)
  simpa using this

/-! Ops. -/
def byN (cs : List Nat) (i : Nat) : Nat := cs.getD i 0
def szN (c : Nat) : Nat := if 96 ≤ c ∧ c ≤ 127 then c - 95 else 0
def nxN (cs : List Nat) (i : Nat) : Nat := i + 1 + szN (byN cs i)
def opsF (cs : List Nat) : Nat → Nat → List Nat
  | 0, _ => []
  | f + 1, i => if i < cs.length then i :: opsF cs f (nxN cs i) else []
def opsA (cs : List Nat) (i : Nat) : List Nat := opsF cs (cs.length - i) i
def opsL (cs : List Nat) : List Nat := opsA cs 0
theorem nxN_lt (cs : List Nat) (i : Nat) : i < nxN cs i := by unfold nxN; omega
theorem opsF_eq (cs : List Nat) : ∀ f g i, cs.length - i ≤ f → cs.length - i ≤ g → opsF cs f i = opsF cs g i
  | 0, 0, _, _, _ => rfl
  | 0, g + 1, i, h, _ => by simp [opsF]; omega
  | f + 1, 0, i, _, h => by simp [opsF]; omega
  | f + 1, g + 1, i, hf, hg => by
    unfold opsF
    split
    · have := nxN_lt cs i
      rw [opsF_eq cs f g (nxN cs i) (by omega) (by omega)]
    · rfl
theorem opsA_lt {cs : List Nat} {i : Nat} (h : i < cs.length) : opsA cs i = i :: opsA cs (nxN cs i) := by
  have := nxN_lt cs i
  unfold opsA
  obtain ⟨k, hk⟩ : ∃ k, cs.length - i = k + 1 := ⟨cs.length - i - 1, by omega⟩
  rw [hk, opsF, if_pos h, opsF_eq cs k (cs.length - nxN cs i) _ (by omega) (by omega)]
theorem opsA_ge {cs : List Nat} {i : Nat} (h : cs.length ≤ i) : opsA cs i = [] := by
  unfold opsA
  rw [show cs.length - i = 0 by omega]; rfl
theorem opsF_facts (cs : List Nat) : ∀ f i, SL (opsF cs f i) ∧ ∀ x ∈ opsF cs f i, i ≤ x ∧ x < cs.length
  | 0, i => ⟨List.Pairwise.nil, by simp [opsF]⟩
  | f + 1, i => by
    have ih := opsF_facts cs f (nxN cs i)
    have := nxN_lt cs i
    unfold opsF
    split
    · refine ⟨List.pairwise_cons.2 ⟨fun x hx => ?_, ih.1⟩, fun x hx => ?_⟩
      · have := ih.2 x hx; omega
      · rcases List.mem_cons.1 hx with e | e
        · omega
        · have := ih.2 x e; omega
    · exact ⟨List.Pairwise.nil, by simp⟩
theorem opsL_sl (cs : List Nat) : SL (opsL cs) := (opsF_facts cs _ 0).1
theorem opsL_lt {cs : List Nat} {x : Nat} (h : x ∈ opsL cs) : x < cs.length := ((opsF_facts cs _ 0).2 x h).2
theorem opsA_len (cs : List Nat) (i : Nat) : (opsA cs i).length ≤ cs.length - i := by
  have h : ∀ f i, (opsF cs f i).length ≤ f := by
    intro f
    induction f with
    | zero => intro i; simp [opsF]
    | succ f ih =>
      intro i
      unfold opsF
      split
      · have := ih (nxN cs i); simp; omega
      · simp
  exact h _ _
theorem opsL_len (cs : List Nat) : (opsL cs).length ≤ cs.length := by have := opsA_len cs 0; unfold opsL; omega
theorem opsA_split (cs : List Nat) : ∀ (pre : List Nat) (i x : Nat) (r : List Nat), opsA cs i = pre ++ x :: r → x < cs.length ∧ r = opsA cs (nxN cs x)
  | [], i, x, r, h => by
    by_cases hi : i < cs.length
    · rw [opsA_lt hi] at h
      simp at h
      obtain ⟨rfl, rfl⟩ := h
      exact ⟨hi, rfl⟩
    · rw [opsA_ge (by omega)] at h
      simp at h
  | y :: pre, i, x, r, h => by
    by_cases hi : i < cs.length
    · rw [opsA_lt hi] at h
      simp at h
      exact opsA_split cs pre _ x r h.2
    · rw [opsA_ge (by omega)] at h
      simp at h
theorem opsL_at {cs : List Nat} {k : Nat} (h : k < (opsL cs).length) : (opsL cs).drop (k + 1) = opsA cs (nxN cs (opsL cs)[k]) := by
  refine (opsA_split cs ((opsL cs).take k) 0 (opsL cs)[k] ((opsL cs).drop (k + 1)) ?_).2
  show opsL cs = _
  rw [← List.drop_eq_getElem_cons h, List.take_append_drop]
theorem opsL_next {cs : List Nat} {k : Nat} (h : k + 1 < (opsL cs).length) : (opsL cs)[k + 1] = nxN cs (opsL cs)[k] ∧ nxN cs (opsL cs)[k] < cs.length := by
  have e := opsL_at (cs := cs) (k := k) (by omega)
  rw [List.drop_eq_getElem_cons h] at e
  by_cases hn : nxN cs (opsL cs)[k] < cs.length
  · rw [opsA_lt hn] at e
    exact ⟨(List.cons.inj e).1, hn⟩
  · rw [opsA_ge (by omega)] at e
    cases e
theorem opsL_last {cs : List Nat} {k : Nat} (h : k + 1 = (opsL cs).length) : cs.length ≤ nxN cs ((opsL cs)[k]'(by omega)) := by
  have e := opsL_at (cs := cs) (k := k) (by omega)
  rw [List.drop_eq_nil_of_le (by omega)] at e
  by_cases hn : nxN cs ((opsL cs)[k]'(by omega)) < cs.length
  · rw [opsA_lt hn] at e
    simp at e
  · omega
def marksL (cs : List Nat) : List Nat := (opsL cs).filter fun i => byN cs i == 91
theorem marksL_sl (cs : List Nat) : SL (marksL cs) := List.Pairwise.filter _ (opsL_sl cs)
theorem marksL_lt {cs : List Nat} {x : Nat} (h : x ∈ marksL cs) : x < cs.length ∧ byN cs x = 91 := by
  obtain ⟨h1, h2⟩ := List.mem_filter.1 h
  exact ⟨opsL_lt h1, by simpa using h2⟩
def markN (cs : List Nat) (n : Nat) : Bool := decide (n < cs.length) && decide (n ∈ marksL cs)

/-- Which ops there are. -/
def namedN (c : Nat) : Bool := (c ≤ 11 || 16 ≤ c && c ≤ 29 || c == 32 || 48 ≤ c && c ≤ 72 || 80 ≤ c && c ≤ 91 || 95 ≤ c && c ≤ 164 || 240 ≤ c && c ≤ 245 || c == 250 || 253 ≤ c && c ≤ 255)
def endN (c : Nat) : Bool := c == 0 || c == 243 || c == 253 || c == 254 || c == 255 || !namedN c
def stopN (c : Nat) : Bool := endN c || c == 86 || c == 87

/-! Blocks: the ops of each. -/
def grpA (f : Nat → Nat) : List Nat → List Nat → List (List Nat)
  | now, [] => if now = [] then [] else [now]
  | now, x :: r => if f x = 91 ∧ now ≠ [] then now :: grpA f [x] r else if stopN (f x) then (now ++ [x]) :: grpA f [] r else grpA f (now ++ [x]) r
theorem grpA_join (f : Nat → Nat) : ∀ l now, (grpA f now l).flatten = now ++ l
  | [], now => by
    unfold grpA
    split
    · rename_i h; simp [h]
    · simp
  | x :: r, now => by
    unfold grpA
    split
    · simp [grpA_join f r]
    · split
      · simp [grpA_join f r]
      · simp [grpA_join f r]
theorem grpA_ne (f : Nat → Nat) : ∀ l now, ∀ g ∈ grpA f now l, g ≠ []
  | [], now, g, h => by
    unfold grpA at h
    split at h
    · simp at h
    · simp at h; rw [h]; assumption
  | x :: r, now, g, h => by
    unfold grpA at h
    split at h
    · rename_i hh
      rcases List.mem_cons.1 h with e | e
      · rw [e]; exact hh.2
      · exact grpA_ne f r _ g e
    · split at h
      · rcases List.mem_cons.1 h with e | e
        · rw [e]; simp
        · exact grpA_ne f r _ g e
      · exact grpA_ne f r _ g h
/-- A mark is the first of its block. -/
theorem grpA_mk (f : Nat → Nat) : ∀ l now, (∀ x ∈ now.tail, f x ≠ 91) → ∀ g ∈ grpA f now l, ∀ x ∈ g.tail, f x ≠ 91
  | [], now, hn, g, h, x, hx => by
    unfold grpA at h
    split at h
    · simp at h
    · simp at h; rw [h] at hx; exact hn x hx
  | y :: r, now, hn, g, h, x, hx => by
    unfold grpA at h
    split at h
    · rename_i hh
      rcases List.mem_cons.1 h with e | e
      · rw [e] at hx; exact hn x hx
      · exact grpA_mk f r [y] (by simp) g e x hx
    · rename_i hm
      have ht : ∀ x ∈ (now ++ [y]).tail, f x ≠ 91 := by
        intro z hz
        cases now with
        | nil => simp at hz
        | cons a b =>
          simp at hz
          rcases hz with e | e
          · exact hn z (by simpa using e)
          · rw [e]; intro e2; exact hm ⟨e2, by simp⟩
      split at h
      · rcases List.mem_cons.1 h with e | e
        · rw [e] at hx; exact ht x hx
        · exact grpA_mk f r [] (by simp) g e x hx
      · exact grpA_mk f r _ ht g h x hx
def grps (cs : List Nat) : List (List Nat) := grpA (byN cs) [] (opsL cs)
theorem grps_join (cs : List Nat) : (grps cs).flatten = opsL cs := by unfold grps; rw [grpA_join]; rfl
theorem grps_ne {cs : List Nat} {g : List Nat} (h : g ∈ grps cs) : g ≠ [] := grpA_ne _ _ _ g h
theorem grps_sl {cs : List Nat} {g : List Nat} (h : g ∈ grps cs) : SL g := by
  have := opsL_sl cs
  rw [← grps_join] at this
  exact (List.pairwise_flatten.1 this).1 g h
theorem grps_mem {cs : List Nat} {g : List Nat} {x : Nat} (h : g ∈ grps cs) (hx : x ∈ g) : x ∈ opsL cs := by
  rw [← grps_join]; exact List.mem_flatten.2 ⟨g, h, hx⟩
theorem grps_len (cs : List Nat) : (grps cs).length ≤ cs.length := by
  have h1 : ∀ gs : List (List Nat), (∀ g ∈ gs, g ≠ []) → gs.length ≤ gs.flatten.length := by
    intro gs
    induction gs with
    | nil => simp
    | cons g gs ih =>
      intro h
      have := ih fun g hg => h g (by simp [hg])
      have h0 : 0 < g.length := List.length_pos_iff.2 (h g (by simp))
      simp; simp at this; omega
  have := h1 (grps cs) fun g h => grps_ne h
  rw [grps_join] at this
  have := opsL_len cs
  omega
def fstN (g : List Nat) : Nat := g.headD 0
def lstN (g : List Nat) : Nat := g.getLastD 0
theorem fst_mem {g : List Nat} (h : g ≠ []) : fstN g ∈ g := by
  cases g with
  | nil => exact absurd rfl h
  | cons x g => simp [fstN]
theorem lst_mem {g : List Nat} (h : g ≠ []) : lstN g ∈ g := by
  unfold lstN
  rw [List.getLastD_eq_getLast?, List.getLast?_eq_some_getLast h]
  exact List.getLast_mem h
theorem lst_get {g : List Nat} (h : 0 < g.length) : lstN g = g[g.length - 1] := by
  unfold lstN
  rw [List.getLastD_eq_getLast?, List.getLast?_eq_getElem?, List.getElem?_eq_getElem (by omega)]
  rfl
theorem fst_get {g : List Nat} (h : 0 < g.length) : fstN g = g[0] := by
  cases g with
  | nil => simp at h
  | cons x g => rfl
end Go.Proofs.YtijkdabmegbcjaaGreatDoor
namespace Go.Proofs.YtijkdabmegbcjaaGreatDoor

/-- The number of bytes, the highest first. -/
def numN (l : List Nat) : Nat := l.foldl (fun a b => a * 256 + b) 0
theorem numN_snoc (l : List Nat) (b : Nat) : numN (l ++ [b]) = numN l * 256 + b := by unfold numN; rw [List.foldl_append]; rfl
theorem numN_lt (l : List Nat) (h : ∀ b ∈ l, b < 256) : numN l < 256 ^ l.length := by
  have : ∀ (l : List Nat) (a k : Nat), (∀ b ∈ l, b < 256) → a < 256 ^ k → l.foldl (fun a b => a * 256 + b) a < 256 ^ (k + l.length) := by
    intro l
    induction l with
    | nil => intro a k _ h; simpa using h
    | cons b l ih =>
      intro a k hb ha
      have h1 := hb b (by simp)
      have h2 : a * 256 + b < 256 ^ (k + 1) := by rw [Nat.pow_succ]; omega
      have := ih (a * 256 + b) (k + 1) (fun c hc => hb c (by simp [hc])) h2
      rw [List.foldl_cons, List.length_cons, show k + (l.length + 1) = k + 1 + l.length by omega]
      exact this
  have := this l 0 0 h (by simp)
  simpa [numN] using this
def restN (cs : List Nat) (i : Nat) : List Nat := (List.range (szN (byN cs i))).map fun j => byN cs (i + 1 + j)
theorem byN_lt {cs : List Nat} (h : ∀ c ∈ cs, c < 256) (i : Nat) : byN cs i < 256 := by
  unfold byN
  rw [List.getD_eq_getElem?_getD]
  by_cases hi : i < cs.length
  · rw [List.getElem?_eq_getElem hi]; exact h _ (List.getElem_mem hi)
  · rw [List.getElem?_eq_none (by omega)]; decide
theorem szN_le (c : Nat) : szN c ≤ 32 := by unfold szN; split <;> omega
theorem restN_len (cs : List Nat) (i : Nat) : (restN cs i).length = szN (byN cs i) := by simp [restN]
theorem restN_lt {cs : List Nat} (h : ∀ c ∈ cs, c < 256) (i : Nat) : ∀ b ∈ restN cs i, b < 256 := by
  intro b hb
  unfold restN at hb
  obtain ⟨j, _, rfl⟩ := List.mem_map.1 hb
  exact byN_lt h _
def pushV (cs : List Nat) (i : Nat) : Option Nat := if 95 ≤ byN cs i ∧ byN cs i ≤ 127 then some (numN (restN cs i)) else none
def pushN (cs : List Nat) (i : Nat) : Option Nat := if i ∈ opsL cs then pushV cs i else none
theorem pushV_lt {cs : List Nat} (h : ∀ c ∈ cs, c < 256) {i n : Nat} (hp : pushV cs i = some n) : n < 2 ^ 256 := by
  unfold pushV at hp
  split at hp
  · simp at hp
    rw [← hp]
    have h1 := numN_lt _ (restN_lt h i)
    rw [restN_len] at h1
    refine Nat.lt_of_lt_of_le h1 ?_
    rw [show (2 : Nat) ^ 256 = 256 ^ 32 by decide]
    exact Nat.pow_le_pow_right (by decide) (szN_le _)
  · simp at hp
theorem pushN_lt {cs : List Nat} (h : ∀ c ∈ cs, c < 256) {i n : Nat} (hp : pushN cs i = some n) : n < 2 ^ 256 := by
  unfold pushN at hp
  split at hp
  · exact pushV_lt h hp
  · simp at hp
/-- Where the last op of a block jumps to, if that is fixed. -/
def fixG (cs : List Nat) (g : List Nat) : Option Nat :=
  if g.length < 2 ∨ (byN cs (lstN g) ≠ 86 ∧ byN cs (lstN g) ≠ 87) then none else pushN cs (g.getD (g.length - 2) 0)
def fixedN (cs : List Nat) (i : Nat) : Option Nat := match (grps cs).find? (fun g => decide (lstN g = i)) with | some g => fixG cs g | none => none
theorem fixG_lt {cs : List Nat} (h : ∀ c ∈ cs, c < 256) {g : List Nat} {n : Nat} (hp : fixG cs g = some n) : n < 2 ^ 256 := by
  unfold fixG at hp
  split at hp
  · simp at hp
  · exact pushN_lt h hp
structure BlkN where
  first : Nat
  last : Nat
  next : List Nat
  exit : Bool
def tosJ (cs : List Nat) (g : List Nat) : List Nat × Bool :=
  if byN cs (lstN g) ≠ 86 ∧ byN cs (lstN g) ≠ 87 then ([], false)
  else match fixG cs g with
    | none => (marksL cs, true)
    | some n => if markN cs n then ([n], false) else ([], true)
def tosF (cs : List Nat) (g : List Nat) : List Nat × Bool :=
  if byN cs (lstN g) = 86 then ([], false) else if endN (byN cs (lstN g)) = true ∨ cs.length ≤ nxN cs (lstN g) then ([], true) else ([nxN cs (lstN g)], false)
def blkN (cs : List Nat) (g : List Nat) : BlkN := ⟨fstN g, lstN g, setL ((tosJ cs g).1 ++ (tosF cs g).1), (tosJ cs g).2 || (tosF cs g).2⟩
def blksN (cs : List Nat) : List BlkN := (grps cs).map (blkN cs)
def atN (cs : List Nat) (i : Nat) : Option Nat := ((grps cs).find? (fun g => decide (i ∈ g))).map fstN
theorem tosJ_lt (cs : List Nat) (g : List Nat) : ∀ x ∈ (tosJ cs g).1, x ∈ marksL cs := by
  intro x hx
  unfold tosJ at hx
  split at hx
  · simp at hx
  · split at hx
    · exact hx
    · split at hx
      · rename_i h
        simp at hx
        subst hx
        unfold markN at h
        simp at h
        exact h.2
      · simp at hx
theorem tosF_lt (cs : List Nat) (g : List Nat) : ∀ x ∈ (tosF cs g).1, x = nxN cs (lstN g) ∧ x < cs.length := by
  intro x hx
  unfold tosF at hx
  split at hx
  · simp at hx
  · split at hx
    · simp at hx
    · rename_i h
      simp at hx
      rw [not_or] at h
      exact ⟨hx, by omega⟩
theorem next_lt {cs : List Nat} {b : BlkN} (h : b ∈ blksN cs) : ∀ x ∈ b.next, x < cs.length := by
  intro x hx
  obtain ⟨g, _, rfl⟩ := List.mem_map.1 h
  have hx' : x ∈ setL ((tosJ cs g).1 ++ (tosF cs g).1) := hx
  rw [mem_setL, List.mem_append] at hx'
  rcases hx' with e | e
  · exact (marksL_lt (tosJ_lt cs g x e)).1
  · exact (tosF_lt cs g x e).2
theorem next_sl {cs : List Nat} {b : BlkN} (h : b ∈ blksN cs) : SL b.next := by
  obtain ⟨g, _, rfl⟩ := List.mem_map.1 h
  exact setL_sl _
theorem blksN_len (cs : List Nat) : (blksN cs).length ≤ cs.length := by unfold blksN; rw [List.length_map]; exact grps_len cs
theorem next_len {cs : List Nat} {b : BlkN} (h : b ∈ blksN cs) : b.next.length ≤ cs.length := nodup_le (next_sl h).nodup (next_lt h)
/-! Walks. -/
def findB (bs : List BlkN) (k : Nat) : Option BlkN := bs.find? fun b => decide (b.first = k)
def nextOf (bs : List BlkN) (k : Nat) : List Nat := match findB bs k with | some b => b.next | none => []
end Go.Proofs.YtijkdabmegbcjaaGreatDoor
namespace Go.Proofs.YtijkdabmegbcjaaGreatDoor

theorem grps_find {cs : List Nat} {x : Nat} (hx : x ∈ opsL cs) : ∃ g, g ∈ grps cs ∧ x ∈ g ∧ (grps cs).find? (fun g => decide (x ∈ g)) = some g := by
  rw [← grps_join] at hx
  obtain ⟨g, hg, hxg⟩ := List.mem_flatten.1 hx
  cases h : (grps cs).find? (fun g => decide (x ∈ g)) with
  | none =>
    have := List.find?_eq_none.1 h g hg
    simp [hxg] at this
  | some g' => exact ⟨g', List.mem_of_find?_eq_some h, by simpa using List.find?_some h, rfl⟩
theorem grps_one {cs : List Nat} {g g' : List Nat} {x : Nat} (hg : g ∈ grps cs) (hg' : g' ∈ grps cs) (hx : x ∈ g) (hx' : x ∈ g') : g = g' := by
  have hs := opsL_sl cs
  rw [← grps_join] at hs
  obtain ⟨A, B, e⟩ := List.append_of_mem hg
  rw [e] at hg' hs
  rw [List.flatten_append, List.flatten_cons] at hs
  have hs' := List.pairwise_append.1 hs
  have hs2 := List.pairwise_append.1 hs'.2.1
  rcases List.mem_append.1 hg' with h | h
  · have := hs'.2.2 x (List.mem_flatten.2 ⟨g', h, hx'⟩) x (List.mem_append.2 (.inl hx))
    omega
  · rcases List.mem_cons.1 h with h | h
    · exact h.symm
    · have := hs2.2.2 x hx x (List.mem_flatten.2 ⟨g', h, hx'⟩)
      omega
theorem atN_out {cs : List Nat} {x : Nat} (h : x ∉ opsL cs) : atN cs x = none := by
  unfold atN
  rw [List.find?_eq_none.2 fun g hg => ?_]
  · rfl
  · simp only [decide_eq_true_eq]
    intro hx
    exact h (grps_mem hg hx)
theorem next_head {cs : List Nat} {g : List Nat} (hg : g ∈ grps cs) (hn : nxN cs (lstN g) < cs.length) : ∃ h ∈ grps cs, fstN h = nxN cs (lstN g) := by
  obtain ⟨A, B, e⟩ := List.append_of_mem hg
  have hj := grps_join cs
  rw [e] at hj
  have hne := grps_ne hg
  have e1 : g = g.dropLast ++ [lstN g] := by
    rw [lst_get (List.length_pos_iff.2 hne), ← List.getLast_eq_getElem hne]
    exact (List.dropLast_concat_getLast hne).symm
  have h0 : opsA cs 0 = (A.flatten ++ g.dropLast) ++ lstN g :: B.flatten := by
    show opsL cs = _
    rw [← hj, List.flatten_append, List.flatten_cons]
    conv => lhs; rw [e1]
    simp
  have h1 := (opsA_split cs _ 0 _ _ h0).2
  rw [opsA_lt hn] at h1
  cases B with
  | nil => simp at h1
  | cons b B =>
    have hb : b ∈ grps cs := by rw [e]; simp
    have hbn := grps_ne hb
    refine ⟨b, hb, ?_⟩
    cases b with
    | nil => exact absurd rfl hbn
    | cons y b =>
      simp at h1
      exact h1.1
theorem mark_head {cs : List Nat} {x : Nat} (hx : x ∈ marksL cs) : ∃ h ∈ grps cs, fstN h = x := by
  obtain ⟨h1, h2⟩ := List.mem_filter.1 hx
  obtain ⟨g, hg, hxg, -⟩ := grps_find h1
  refine ⟨g, hg, ?_⟩
  have hm := grpA_mk (byN cs) (opsL cs) [] (by simp) g hg x
  cases g with
  | nil => simp at hxg
  | cons y g =>
    rcases List.mem_cons.1 hxg with e | e
    · exact e.symm
    · exact absurd (by simpa using h2) (hm e)
theorem next_block {cs : List Nat} {b : BlkN} (hb : b ∈ blksN cs) {x : Nat} (hx : x ∈ b.next) : ∃ b' ∈ blksN cs, b'.first = x := by
  obtain ⟨g, hg, rfl⟩ := List.mem_map.1 hb
  have hx' : x ∈ setL ((tosJ cs g).1 ++ (tosF cs g).1) := hx
  rw [mem_setL, List.mem_append] at hx'
  have : ∃ h ∈ grps cs, fstN h = x := by
    rcases hx' with e | e
    · exact mark_head (tosJ_lt cs g x e)
    · obtain ⟨rfl, h⟩ := tosF_lt cs g x e
      exact next_head hg h
  obtain ⟨h, hh, rfl⟩ := this
  exact ⟨blkN cs h, List.mem_map.2 ⟨h, hh, rfl⟩, rfl⟩
end Go.Proofs.YtijkdabmegbcjaaGreatDoor
namespace Go.Proofs.YtijkdabmegbcjaaGreatDoor

structure InfoN where
  name : List UInt8
  ins : Nat
  outs : Nat
  gas : Nat
  quiet : Bool
  size : Nat
  deriving DecidableEq
def noInfo : InfoN := ⟨[], 0, 0, 0, false, 0⟩
def infoV (x : InfoN) : Value := .agg #[.string ⟨x.name.toArray⟩, .int .i64 x.ins, .int .i64 x.outs, .int .u64 x.gas, .bool x.quiet, .int .i64 x.size]
def rowGet (c : Nat) : List (Nat × InfoN) → InfoN
  | [] => noInfo
  | x :: l => if c = x.1 then x.2 else rowGet c l
def lowRows : List (Nat × InfoN) := [
  (0, ⟨[83, 84, 79, 80], 0, 0, 0, false, 0⟩),
  (1, ⟨[65, 68, 68], 2, 1, 3, true, 0⟩),
  (2, ⟨[77, 85, 76], 2, 1, 5, true, 0⟩),
  (3, ⟨[83, 85, 66], 2, 1, 3, true, 0⟩),
  (4, ⟨[68, 73, 86], 2, 1, 5, true, 0⟩),
  (5, ⟨[83, 68, 73, 86], 2, 1, 5, true, 0⟩),
  (6, ⟨[77, 79, 68], 2, 1, 5, true, 0⟩),
  (7, ⟨[83, 77, 79, 68], 2, 1, 5, true, 0⟩),
  (8, ⟨[65, 68, 68, 77, 79, 68], 3, 1, 8, true, 0⟩),
  (9, ⟨[77, 85, 76, 77, 79, 68], 3, 1, 8, true, 0⟩),
  (10, ⟨[69, 88, 80], 2, 1, 10, false, 0⟩),
  (11, ⟨[83, 73, 71, 78, 69, 88, 84, 69, 78, 68], 2, 1, 5, true, 0⟩),
  (16, ⟨[76, 84], 2, 1, 3, true, 0⟩),
  (17, ⟨[71, 84], 2, 1, 3, true, 0⟩),
  (18, ⟨[83, 76, 84], 2, 1, 3, true, 0⟩),
  (19, ⟨[83, 71, 84], 2, 1, 3, true, 0⟩),
  (20, ⟨[69, 81], 2, 1, 3, true, 0⟩),
  (21, ⟨[73, 83, 90, 69, 82, 79], 1, 1, 3, true, 0⟩),
  (22, ⟨[65, 78, 68], 2, 1, 3, true, 0⟩),
  (23, ⟨[79, 82], 2, 1, 3, true, 0⟩),
  (24, ⟨[88, 79, 82], 2, 1, 3, true, 0⟩),
  (25, ⟨[78, 79, 84], 1, 1, 3, true, 0⟩),
  (26, ⟨[66, 89, 84, 69], 2, 1, 3, true, 0⟩),
  (27, ⟨[83, 72, 76], 2, 1, 3, true, 0⟩),
  (28, ⟨[83, 72, 82], 2, 1, 3, true, 0⟩)]
def middleRows : List (Nat × InfoN) := [
  (29, ⟨[83, 65, 82], 2, 1, 3, true, 0⟩),
  (32, ⟨[75, 69, 67, 67, 65, 75, 50, 53, 54], 2, 1, 30, false, 0⟩),
  (48, ⟨[65, 68, 68, 82, 69, 83, 83], 0, 1, 2, true, 0⟩),
  (49, ⟨[66, 65, 76, 65, 78, 67, 69], 1, 1, 0, false, 0⟩),
  (50, ⟨[79, 82, 73, 71, 73, 78], 0, 1, 2, true, 0⟩),
  (51, ⟨[67, 65, 76, 76, 69, 82], 0, 1, 2, true, 0⟩),
  (52, ⟨[67, 65, 76, 76, 86, 65, 76, 85, 69], 0, 1, 2, true, 0⟩),
  (53, ⟨[67, 65, 76, 76, 68, 65, 84, 65, 76, 79, 65, 68], 1, 1, 3, false, 0⟩),
  (54, ⟨[67, 65, 76, 76, 68, 65, 84, 65, 83, 73, 90, 69], 0, 1, 2, true, 0⟩),
  (55, ⟨[67, 65, 76, 76, 68, 65, 84, 65, 67, 79, 80, 89], 3, 0, 3, false, 0⟩),
  (56, ⟨[67, 79, 68, 69, 83, 73, 90, 69], 0, 1, 2, true, 0⟩),
  (57, ⟨[67, 79, 68, 69, 67, 79, 80, 89], 3, 0, 3, false, 0⟩),
  (58, ⟨[71, 65, 83, 80, 82, 73, 67, 69], 0, 1, 2, true, 0⟩),
  (59, ⟨[69, 88, 84, 67, 79, 68, 69, 83, 73, 90, 69], 1, 1, 0, false, 0⟩),
  (60, ⟨[69, 88, 84, 67, 79, 68, 69, 67, 79, 80, 89], 4, 0, 0, false, 0⟩),
  (61, ⟨[82, 69, 84, 85, 82, 78, 68, 65, 84, 65, 83, 73, 90, 69], 0, 1, 2, true, 0⟩),
  (62, ⟨[82, 69, 84, 85, 82, 78, 68, 65, 84, 65, 67, 79, 80, 89], 3, 0, 3, false, 0⟩),
  (63, ⟨[69, 88, 84, 67, 79, 68, 69, 72, 65, 83, 72], 1, 1, 0, false, 0⟩),
  (64, ⟨[66, 76, 79, 67, 75, 72, 65, 83, 72], 1, 1, 20, false, 0⟩),
  (65, ⟨[67, 79, 73, 78, 66, 65, 83, 69], 0, 1, 2, true, 0⟩),
  (66, ⟨[84, 73, 77, 69, 83, 84, 65, 77, 80], 0, 1, 2, true, 0⟩),
  (67, ⟨[78, 85, 77, 66, 69, 82], 0, 1, 2, true, 0⟩),
  (68, ⟨[80, 82, 69, 86, 82, 65, 78, 68, 65, 79], 0, 1, 2, true, 0⟩),
  (69, ⟨[71, 65, 83, 76, 73, 77, 73, 84], 0, 1, 2, true, 0⟩),
  (70, ⟨[67, 72, 65, 73, 78, 73, 68], 0, 1, 2, true, 0⟩)]
def highRows : List (Nat × InfoN) := [
  (71, ⟨[83, 69, 76, 70, 66, 65, 76, 65, 78, 67, 69], 0, 1, 5, false, 0⟩),
  (72, ⟨[66, 65, 83, 69, 70, 69, 69], 0, 1, 2, true, 0⟩),
  (80, ⟨[80, 79, 80], 1, 0, 2, true, 0⟩),
  (81, ⟨[77, 76, 79, 65, 68], 1, 1, 3, false, 0⟩),
  (82, ⟨[77, 83, 84, 79, 82, 69], 2, 0, 3, false, 0⟩),
  (83, ⟨[77, 83, 84, 79, 82, 69, 56], 2, 0, 3, false, 0⟩),
  (84, ⟨[83, 76, 79, 65, 68], 1, 1, 0, false, 0⟩),
  (85, ⟨[83, 83, 84, 79, 82, 69], 2, 0, 0, false, 0⟩),
  (86, ⟨[74, 85, 77, 80], 1, 0, 8, false, 0⟩),
  (87, ⟨[74, 85, 77, 80, 73], 2, 0, 10, false, 0⟩),
  (88, ⟨[80, 67], 0, 1, 2, true, 0⟩),
  (89, ⟨[77, 83, 73, 90, 69], 0, 1, 2, true, 0⟩),
  (90, ⟨[71, 65, 83], 0, 1, 2, false, 0⟩),
  (91, ⟨[74, 85, 77, 80, 68, 69, 83, 84], 0, 0, 1, true, 0⟩),
  (95, ⟨[80, 85, 83, 72, 48], 0, 1, 2, true, 0⟩),
  (240, ⟨[67, 82, 69, 65, 84, 69], 3, 1, 32000, false, 0⟩),
  (241, ⟨[67, 65, 76, 76], 7, 1, 0, false, 0⟩),
  (242, ⟨[67, 65, 76, 76, 67, 79, 68, 69], 7, 1, 0, false, 0⟩),
  (243, ⟨[82, 69, 84, 85, 82, 78], 2, 0, 0, false, 0⟩),
  (244, ⟨[68, 69, 76, 69, 71, 65, 84, 69, 67, 65, 76, 76], 6, 1, 0, false, 0⟩),
  (245, ⟨[67, 82, 69, 65, 84, 69, 50], 4, 1, 32000, false, 0⟩),
  (250, ⟨[83, 84, 65, 84, 73, 67, 67, 65, 76, 76], 6, 1, 0, false, 0⟩),
  (253, ⟨[82, 69, 86, 69, 82, 84], 2, 0, 0, false, 0⟩),
  (254, ⟨[73, 78, 86, 65, 76, 73, 68], 0, 0, 0, false, 0⟩),
  (255, ⟨[83, 69, 76, 70, 68, 69, 83, 84, 82, 85, 67, 84], 1, 0, 5000, false, 0⟩)]
def digN (n : Nat) : List UInt8 := if n < 10 then [UInt8.ofNat (48 + n)] else [UInt8.ofNat (48 + n / 10), UInt8.ofNat (48 + n % 10)]
def famN (c : Nat) : Option InfoN :=
  if 96 ≤ c ∧ c ≤ 127 then some ⟨[80, 85, 83, 72] ++ digN (c - 95), 0, 1, 3, true, c - 95⟩
  else if 128 ≤ c ∧ c ≤ 143 then some ⟨[68, 85, 80] ++ digN (c - 127), c - 127, c - 126, 3, true, 0⟩
  else if 144 ≤ c ∧ c ≤ 159 then some ⟨[83, 87, 65, 80] ++ digN (c - 143), c - 142, c - 142, 3, true, 0⟩
  else if 160 ≤ c ∧ c ≤ 164 then some ⟨[76, 79, 71] ++ digN (c - 160), c - 158, 0, 375 * (c - 159), false, 0⟩
  else none
def infoN (c : Nat) : InfoN := match famN c with | some x => x | none => rowGet c (lowRows ++ middleRows ++ highRows)
theorem info_named : ∀ c : Nat, c < 256 → (infoN c).name.isEmpty = !namedN c := by decide +kernel
theorem info_small : ∀ c : Nat, c < 256 → (infoN c).ins ≤ 17 ∧ (infoN c).outs ≤ 17 ∧ (infoN c).gas ≤ 32000 := by decide +kernel
end Go.Proofs.YtijkdabmegbcjaaGreatDoor
namespace Go.Proofs.YtijkdabmegbcjaaGreatDoor
open Go.RowKit

/-- The slice at 'a' holds the integers 'zs'. -/
def RowAt (q : IntKind) (w : World) (a : Option Addr) (zs : List Int) : Prop :=
  ∀ i (h : i < zs.length), ∃ b o, a = some ⟨b, o, none⟩ ∧ w.cell? ⟨b, o + i, none⟩ = some (.int q zs[i])

theorem RowAt.below {q : IntKind} {w w' : World} {a : Option Addr} {zs : List Int} (h : RowAt q w a zs) (hb : Below w.heap.size w w') : RowAt q w' a zs := fun i hi => by
  obtain ⟨b, o, h1, h2⟩ := h i hi
  exact ⟨b, o, h1, cbel hb h2⟩
theorem RowAt.nil {q : IntKind} {w : World} {a : Option Addr} : RowAt q w a [] := fun i hi => absurd hi (by simp)

/-- An owned row of integers can be read. -/
theorem rowAt_own {w : World} {base : Nat} {e : TypeId} {q : IntKind} {v : Value} {n : Nat} {zs : List Int} (h : w.ownsRow base e 1 v n (zs.map (Value.int q))) :
    ∃ a c, v = .slice a zs.length c ∧ RowAt q w a zs ∧ (a = none → c = 0) ∧ (∀ x, a = some x → base ≤ x.block) ∧ n = zs.length := by
  have hlen := h.1
  simp at hlen
  rcases h.2 with ⟨rfl, rfl⟩ | ⟨g, cap, cur, rfl, hg, _⟩
  · have : zs = [] := List.length_eq_zero_iff.1 hlen
    subst this
    exact ⟨none, 0, rfl, RowAt.nil, fun _ => rfl, by simp, rfl⟩
  · refine ⟨_, cap, by rw [hlen], fun i hi => ⟨g, 0, rfl, ?_⟩, by simp, by rintro x ⟨⟩; exact hg, hlen.symm⟩
    have := h.cellAt i (by omega)
    simpa [List.getElem?_eq_getElem hi] using this

end Go.Proofs.YtijkdabmegbcjaaGreatDoor
namespace Go.Proofs.YtijkdabmegbcjaaGreatDoor
open Go.RowKit

def limb (N j : Nat) : Nat := N / 2 ^ (64 * j) % 18446744073709551616
def byteAt (N i : Nat) : Nat := N / 256 ^ i % 256
theorem limb_lt (N j : Nat) : limb N j < 18446744073709551616 := Nat.mod_lt _ (by decide)
theorem byteAt_lt (N i : Nat) : byteAt N i < 256 := Nat.mod_lt _ (by decide)
/-- A word as Go holds it. -/
def wordL (N : Nat) : List Int := [limb N 0, limb N 1, limb N 2, limb N 3]
def wordV (N : Nat) : Value := .agg #[.int .u64 (limb N 0), .int .u64 (limb N 1), .int .u64 (limb N 2), .int .u64 (limb N 3)]
theorem val_limbs (N : Nat) (h : N < 2 ^ 256) : N = limb N 0 + limb N 1 * 2 ^ 64 + limb N 2 * 2 ^ 128 + limb N 3 * 2 ^ 192 := by
  unfold limb
  simp at *
  omega
/-! A block that holds integers. -/
def Blk (q : IntKind) (w : World) (b : Nat) (T : TypeId) (l : List Int) : Prop := w.heap[b]? = some (.cells (l.map (Value.int q)).toArray T (0, 0))
theorem Blk.cell {q : IntKind} {w : World} {b : Nat} {T : TypeId} {l : List Int} (h : Blk q w b T l) (i : Nat) (hi : i < l.length) : w.cell? ⟨b, i, none⟩ = some (.int q l[i]) := by
  rw [cell_of_row w b i _ T (0, 0) h]; simp [hi]
theorem Blk.frozen {q : IntKind} {w : World} {b : Nat} {T : TypeId} {l : List Int} (h : Blk q w b T l) (i : Nat) : w.frozen? ⟨b, i, none⟩ = false := frozen_of_row w b i _ T h
theorem Blk.lt {q : IntKind} {w : World} {b : Nat} {T : TypeId} {l : List Int} (h : Blk q w b T l) : b < w.heap.size := (Array.getElem?_eq_some_iff.1 h).1
theorem Blk.set {q : IntKind} {w : World} {b : Nat} {T : TypeId} {l : List Int} (h : Blk q w b T l) (i : Nat) (v : Int) : Blk q (w.setCell ⟨b, i, none⟩ (.int q v)) b T (l.set i v) := by
  unfold Blk at *
  rw [heap_setCell_same w b i _ T _ h]
  congr 2
  apply Array.ext'
  simp [List.map_set]
theorem xsetb {a w : World} (h : Below a.heap.size a w) {c i : Nat} (hp : a.heap.size ≤ c) (u : Value) : Below a.heap.size a (w.setCell ⟨c, i, none⟩ u) := h.setCell hp u
theorem Blk.below {q : IntKind} {w w' : World} {b : Nat} {T : TypeId} {l : List Int} (h : Blk q w b T l) (hb : Below w.heap.size w w') : Blk q w' b T l := (hb.block b h.lt).trans h
theorem Blk.new {q : IntKind} (w : World) (T : TypeId) (l : List Int) : Blk q (w.alloc (.cells (l.map (Value.int q)).toArray T)) w.heap.size T l := by
  show (w.heap.push _)[_]? = _
  simp

theorem wordL_get (N j : Nat) (h : j < (wordL N).length) : (wordL N)[j] = limb N j := by
  have : j < 4 := h
  match j, this with
  | 0, _ => rfl
  | 1, _ => rfl
  | 2, _ => rfl
  | 3, _ => rfl
theorem cases32 (k : Nat) (h : k < 32) : k = 0 ∨ k = 1 ∨ k = 2 ∨ k = 3 ∨ k = 4 ∨ k = 5 ∨ k = 6 ∨ k = 7 ∨ k = 8 ∨ k = 9 ∨ k = 10 ∨ k = 11 ∨ k = 12 ∨ k = 13 ∨ k = 14 ∨ k = 15 ∨ k = 16 ∨ k = 17 ∨ k = 18 ∨ k = 19 ∨ k = 20 ∨ k = 21 ∨ k = 22 ∨ k = 23 ∨ k = 24 ∨ k = 25 ∨ k = 26 ∨ k = 27 ∨ k = 28 ∨ k = 29 ∨ k = 30 ∨ k = 31 := by omega
theorem byte_small (N k : Nat) : byteAt N k * 2 ^ (8 * (k % 8)) < 18446744073709551616 := by
  have h1 := byteAt_lt N k
  have h2 : 2 ^ (8 * (k % 8)) ≤ 2 ^ 56 := Nat.pow_le_pow_right (by decide) (by omega)
  have h3 : byteAt N k * 2 ^ (8 * (k % 8)) ≤ 255 * 2 ^ 56 := Nat.mul_le_mul (by omega) h2
  omega
end Go.Proofs.YtijkdabmegbcjaaGreatDoor
