/- The document's way to cut code into blocks, and the program's: the same. What is reached. Plain laws. What ops have: the table. The document's words (layer 1): Of, From. Numbers of 32 and 64 bits as bit vectors behind a name: what Go's operators do to them. -/
import Derived.Test.YtijkdabmegbcjaaDoorM07
import Derived.Test.YtijkdabmegbcjaaDoorM01
import Derived.Test.YtijkdabmegbcjaaDoorM00
set_option linter.all false
namespace Go.Proofs.YtijkdabmegbcjaaDoor

theorem span_step (f : Nat → Nat) (l : List Nat) (i a : Nat) (hi : i < l.length) (ha : a ≤ i) (hm : a = i ∨ f l[i] ≠ 91) :
    grpA f ((l.take i).drop a) (l.drop i) = if cutN f l[i] (l.drop (i + 1)) then ((l.take (i + 1)).drop a) :: grpA f [] (l.drop (i + 1)) else grpA f ((l.take (i + 1)).drop a) (l.drop (i + 1)) := by
  have e : (l.take (i + 1)).drop a = (l.take i).drop a ++ [l[i]] := by
    rw [List.take_succ_eq_append_getElem hi, List.drop_append_of_le_length (by rw [List.length_take]; omega)]
  rw [List.drop_eq_getElem_cons hi, grpA_cut, e]
  rcases hm with h | h
  · left; subst h; simp
  · exact .inr h
theorem span_ends (l : List Nat) (i a : Nat) (hi : i < l.length) (ha : a ≤ i) : fstN ((l.take (i + 1)).drop a) = l[a] ∧ lstN ((l.take (i + 1)).drop a) = l[i] := by
  have hl : ((l.take (i + 1)).drop a).length = i + 1 - a := by rw [List.length_drop, List.length_take]; omega
  rw [fst_get (by omega), lst_get (by omega)]
  constructor
  · simp
  · simp only [List.getElem_drop, List.getElem_take]
    congr 1
    rw [hl]; omega
theorem span_none (l : List Nat) (i : Nat) : (l.take i).drop i = [] := List.drop_eq_nil_of_le (by rw [List.length_take]; omega)
theorem cutN_not {f : Nat → Nat} {x : Nat} {r : List Nat} (h : cutN f x r = false) : ∃ y r', r = y :: r' ∧ f y ≠ 91 := by
  unfold cutN at h
  cases r with
  | nil => simp at h
  | cons y r' => exact ⟨y, r', rfl, by simp at h; exact h.2⟩

/-- The block of an op, either way. -/
theorem grps_of {cs : List Nat} {x : Nat} (hx : x ∈ opsL cs) : (grps cs).find? (fun g => decide (fstN g ≤ x) && decide (x ≤ lstN g)) = (grps cs).find? (fun g => decide (x ∈ g)) := by
  have hs := opsL_sl cs
  rw [← grps_join] at hs
  have hx' : x ∈ (grps cs).flatten := by rw [grps_join]; exact hx
  have key : ∀ gs : List (List Nat), (∀ g ∈ gs, g ∈ grps cs) → gs.find? (fun g => decide (fstN g ≤ x) && decide (x ≤ lstN g)) = gs.find? (fun g => decide (x ∈ g)) := by
    intro gs
    induction gs with
    | nil => intro _; rfl
    | cons g gs ih =>
      intro h
      have e := of_eq hs (fun g h => grps_ne h) hx' (h g (by simp))
      have e2 : (decide (fstN g ≤ x) && decide (x ≤ lstN g)) = decide (x ∈ g) := by
        rw [← Bool.decide_and]; exact decide_eq_decide.2 e
      rw [List.find?_cons, List.find?_cons, e2, ih fun g hg => h g (by simp [hg])]
  exact key _ fun _ h => h
theorem grps_find {cs : List Nat} {x : Nat} (hx : x ∈ opsL cs) : ∃ g, g ∈ grps cs ∧ x ∈ g ∧ (grps cs).find? (fun g => decide (x ∈ g)) = some g := by
  rw [← grps_join] at hx
  obtain ⟨g, hg, hxg⟩ := List.mem_flatten.1 hx
  cases h : (grps cs).find? (fun g => decide (x ∈ g)) with
  | none =>
    have := List.find?_eq_none.1 h g hg
    simp [hxg] at this
  | some g' => exact ⟨g', List.mem_of_find?_eq_some h, by simpa using List.find?_some h, rfl⟩
theorem grps_one {cs : List Nat} {g g' : List Nat} {x : Nat} (hg : g ∈ grps cs) (hg' : g' ∈ grps cs) (hx : x ∈ g) (hx' : x ∈ g') : g = g' := by
  have hs := opsL_sl cs
  rw [← grps_join] at hs
  obtain ⟨A, B, e⟩ := List.append_of_mem hg
  rw [e] at hg' hs
  rw [List.flatten_append, List.flatten_cons] at hs
  have hs' := List.pairwise_append.1 hs
  have hs2 := List.pairwise_append.1 hs'.2.1
  rcases List.mem_append.1 hg' with h | h
  · have := hs'.2.2 x (List.mem_flatten.2 ⟨g', h, hx'⟩) x (List.mem_append.2 (.inl hx))
    omega
  · rcases List.mem_cons.1 h with h | h
    · exact h.symm
    · have := hs2.2.2 x hx x (List.mem_flatten.2 ⟨g', h, hx'⟩)
      omega
theorem atN_out {cs : List Nat} {x : Nat} (h : x ∉ opsL cs) : atN cs x = none := by
  unfold atN
  rw [List.find?_eq_none.2 fun g hg => ?_]
  · rfl
  · simp only [decide_eq_true_eq]
    intro hx
    exact h (grps_mem hg hx)
theorem grps_stop {cs : List Nat} {g : List Nat} {x : Nat} (hg : g ∈ grps cs) (hx : x ∈ g) (hs : stopN (byN cs x) = true) : lstN g = x := by
  have hm := grpA_mid (byN cs) (opsL cs) [] (by simp) g hg x
  have hne := grps_ne hg
  have e : g = g.dropLast ++ [lstN g] := by
    rw [lst_get (List.length_pos_iff.2 hne), ← List.getLast_eq_getElem hne]
    exact (List.dropLast_concat_getLast hne).symm
  rw [e] at hx
  rcases List.mem_append.1 hx with h | h
  · rw [hm h] at hs; cases hs
  · simpa using (List.mem_singleton.1 h).symm
/-- The ops ahead of the last one of a block. -/
theorem grps_ahead {cs : List Nat} {g : List Nat} (hg : g ∈ grps cs) : (opsL cs).filter (fun y => decide (fstN g ≤ y) && decide (y < lstN g)) = g.dropLast := by
  have hne := grps_ne hg
  have hs := opsL_sl cs
  have hs2 := hs
  rw [← grps_join] at hs2
  have e : g = g.dropLast ++ [lstN g] := by
    rw [lst_get (List.length_pos_iff.2 hne), ← List.getLast_eq_getElem hne]
    exact (List.dropLast_concat_getLast hne).symm
  have hsg := grps_sl hg
  have hsd : SL g.dropLast := List.Pairwise.sublist (List.dropLast_sublist g) hsg
  refine sl_ext (List.Pairwise.filter _ hs) hsd fun y => ?_
  rw [List.mem_filter, Bool.and_eq_true, decide_eq_true_eq, decide_eq_true_eq]
  constructor
  · rintro ⟨h1, h2, h3⟩
    have hy : y ∈ g := (of_eq hs2 (fun g h => grps_ne h) (by rw [grps_join]; exact h1) hg).1 ⟨h2, by omega⟩
    rw [e] at hy
    rcases List.mem_append.1 hy with h | h
    · exact h
    · have := List.mem_singleton.1 h; omega
  · intro h
    have hy : y ∈ g := (List.dropLast_sublist g).subset h
    refine ⟨grps_mem hg hy, (sl_bounds hsg hy).1, ?_⟩
    rw [e] at hsg
    exact (List.pairwise_append.1 hsg).2.2 y h _ (by simp)
def aheadN (cs : List Nat) (a x : Nat) : Option Nat := ((opsL cs).filter (fun y => decide (a ≤ y) && decide (y < x))).getLast?
theorem fixed_ref {cs : List Nat} {x : Nat} {g : List Nat} (hg : g ∈ grps cs) (hx : x ∈ g) (hj : byN cs x = 86 ∨ byN cs x = 87) : fixedN cs x = match aheadN cs (fstN g) x with | none => none | some y => pushN cs y := by
  have hst : stopN (byN cs x) = true := by rcases hj with h | h <;> (rw [h]; decide)
  have hl := grps_stop hg hx hst
  have hf : (grps cs).find? (fun g => decide (lstN g = x)) = some g := by
    cases h : (grps cs).find? (fun g => decide (lstN g = x)) with
    | none =>
      have := List.find?_eq_none.1 h g hg
      simp [hl] at this
    | some g' =>
      have h1 := List.mem_of_find?_eq_some h
      have h2 := List.find?_some h
      simp at h2
      rw [grps_one h1 hg (by rw [← h2]; exact lst_mem (grps_ne h1)) hx]
  unfold fixedN
  rw [hf]
  unfold aheadN
  subst hl
  rw [grps_ahead hg]
  show fixG cs g = _
  unfold fixG
  have hn : ¬ (byN cs (lstN g) ≠ 86 ∧ byN cs (lstN g) ≠ 87) := by rcases hj with h | h <;> simp [h]
  have h0 := List.length_pos_iff.2 (grps_ne hg)
  by_cases h2 : g.length < 2
  · rw [if_pos (.inl h2)]
    have : g.dropLast = [] := List.eq_nil_of_length_eq_zero (by rw [List.length_dropLast]; omega)
    rw [this]; rfl
  · rw [if_neg (by rintro (h | h); exact h2 h; exact hn h)]
    rw [List.getLast?_eq_getElem?, List.length_dropLast, List.getElem?_eq_getElem (by rw [List.length_dropLast]; omega), List.getElem_dropLast]
    simp only [List.getD_eq_getElem?_getD]
    rw [List.getElem?_eq_getElem (by omega)]
    rfl
theorem fixed_out {cs : List Nat} {x : Nat} (h : x ∉ opsL cs ∨ (byN cs x ≠ 86 ∧ byN cs x ≠ 87)) : fixedN cs x = none := by
  unfold fixedN
  split
  · rename_i g hg
    have h1 := List.mem_of_find?_eq_some hg
    have h2 := List.find?_some hg
    simp at h2
    rcases h with h | h
    · exact absurd (grps_mem h1 (lst_mem (grps_ne h1))) (by rw [h2]; exact h)
    · unfold fixG
      rw [h2, if_pos (.inr h)]
  · rfl

/-! Which blocks follow. -/
theorem grps_heads (f : Nat → Nat) : ∀ (l now : List Nat) (A : List (List Nat)) (g h : List Nat) (B : List (List Nat)), grpA f now l = A ++ g :: h :: B → ∃ pre r, now ++ l = pre ++ lstN g :: fstN h :: r := by
  intro l now A g h B e
  have hj := grpA_join f l now
  have hne := grpA_ne f l now
  rw [e] at hj hne
  have hg := hne g (by simp)
  have hh := hne h (by simp)
  refine ⟨A.flatten ++ g.dropLast, h.tail ++ B.flatten, ?_⟩
  rw [← hj]
  have e1 : g = g.dropLast ++ [lstN g] := by
    rw [lst_get (List.length_pos_iff.2 hg), ← List.getLast_eq_getElem hg]
    exact (List.dropLast_concat_getLast hg).symm
  have e2 : h = fstN h :: h.tail := by
    cases h with
    | nil => exact absurd rfl hh
    | cons a b => rfl
  rw [List.flatten_append, List.flatten_cons, List.flatten_cons]
  conv => lhs; rw [e1, e2]
  simp
theorem next_head {cs : List Nat} {g : List Nat} (hg : g ∈ grps cs) (hn : nxN cs (lstN g) < cs.length) : ∃ h ∈ grps cs, fstN h = nxN cs (lstN g) := by
  obtain ⟨A, B, e⟩ := List.append_of_mem hg
  have hj := grps_join cs
  rw [e] at hj
  have hne := grps_ne hg
  have e1 : g = g.dropLast ++ [lstN g] := by
    rw [lst_get (List.length_pos_iff.2 hne), ← List.getLast_eq_getElem hne]
    exact (List.dropLast_concat_getLast hne).symm
  have h0 : opsA cs 0 = (A.flatten ++ g.dropLast) ++ lstN g :: B.flatten := by
    show opsL cs = _
    rw [← hj, List.flatten_append, List.flatten_cons]
    conv => lhs; rw [e1]
    simp
  have h1 := (opsA_split cs _ 0 _ _ h0).2
  rw [opsA_lt hn] at h1
  cases B with
  | nil => simp at h1
  | cons b B =>
    have hb : b ∈ grps cs := by rw [e]; simp
    have hbn := grps_ne hb
    refine ⟨b, hb, ?_⟩
    cases b with
    | nil => exact absurd rfl hbn
    | cons y b =>
      simp at h1
      exact h1.1
theorem mark_head {cs : List Nat} {x : Nat} (hx : x ∈ marksL cs) : ∃ h ∈ grps cs, fstN h = x := by
  obtain ⟨h1, h2⟩ := List.mem_filter.1 hx
  obtain ⟨g, hg, hxg, -⟩ := grps_find h1
  refine ⟨g, hg, ?_⟩
  have hm := grpA_mk (byN cs) (opsL cs) [] (by simp) g hg x
  cases g with
  | nil => simp at hxg
  | cons y g =>
    rcases List.mem_cons.1 hxg with e | e
    · exact e.symm
    · exact absurd (by simpa using h2) (hm e)
theorem next_block {cs : List Nat} {b : BlkN} (hb : b ∈ blksN cs) {x : Nat} (hx : x ∈ b.next) : ∃ b' ∈ blksN cs, b'.first = x := by
  obtain ⟨g, hg, rfl⟩ := List.mem_map.1 hb
  have hx' : x ∈ setL ((tosJ cs g).1 ++ (tosF cs g).1) := hx
  rw [mem_setL, List.mem_append] at hx'
  have : ∃ h ∈ grps cs, fstN h = x := by
    rcases hx' with e | e
    · exact mark_head (tosJ_lt cs g x e)
    · obtain ⟨rfl, h⟩ := tosF_lt cs g x e
      exact next_head hg h
  obtain ⟨h, hh, rfl⟩ := this
  exact ⟨blkN cs h, List.mem_map.2 ⟨h, hh, rfl⟩, rfl⟩
theorem exit_none {cs : List Nat} {b : BlkN} (hb : b ∈ blksN cs) (hn : b.next = []) : b.exit = true := by
  obtain ⟨g, hg, rfl⟩ := List.mem_map.1 hb
  have hn' : setL ((tosJ cs g).1 ++ (tosF cs g).1) = [] := hn
  have h0 : (tosJ cs g).1 ++ (tosF cs g).1 = [] := by
    cases h : (tosJ cs g).1 ++ (tosF cs g).1 with
    | nil => rfl
    | cons y r =>
      have : y ∈ setL ((tosJ cs g).1 ++ (tosF cs g).1) := (mem_setL _ _).2 (by rw [h]; simp)
      rw [hn'] at this
      simp at this
  obtain ⟨h1, h2⟩ := List.append_eq_nil_iff.1 h0
  show ((tosJ cs g).2 || (tosF cs g).2) = true
  unfold tosJ at h1 ⊢
  unfold tosF at h2 ⊢
  by_cases hj : byN cs (lstN g) = 86
  · have hc : ¬ (byN cs (lstN g) ≠ 86 ∧ byN cs (lstN g) ≠ 87) := by simp [hj]
    rw [if_neg hc] at h1 ⊢
    split
    · simp
    · rename_i n hf
      rw [hf] at h1
      by_cases hk : markN cs n = true
      · simp [hk] at h1
      · simp [hk]
  · rw [if_neg hj] at h2 ⊢
    by_cases hc : endN (byN cs (lstN g)) = true ∨ cs.length ≤ nxN cs (lstN g)
    · rw [if_pos hc]; simp
    · rw [if_neg hc] at h2; simp at h2

/-! What is reached. -/
inductive Rch (bs : List BlkN) : Nat → Nat → Prop
  | here (a : Nat) : Rch bs a a
  | go {a b c : Nat} : Rch bs a b → c ∈ nextOf bs b → Rch bs a c
theorem Rch.trans {bs : List BlkN} {a b c : Nat} (h : Rch bs a b) (k : Rch bs b c) : Rch bs a c := by
  induction k with
  | here => exact h
  | go _ hc ih => exact .go ih hc
theorem walk_sound (bs : List BlkN) : ∀ f seen now far, ∀ x ∈ (walkF bs f seen now far).map (·.1), ∃ k ∈ now, Rch bs k x
  | 0, _, _, _, x, h => by simp [walkF] at h
  | f + 1, seen, now, far, x, h => by
    unfold walkF at h
    split at h
    · simp at h
    · rw [List.map_append, List.mem_append] at h
      rcases h with h | h
      · simp at h
        exact ⟨x, h, .here x⟩
      · obtain ⟨k, hk, hr⟩ := walk_sound bs f _ _ _ x h
        unfold layerN at hk
        rw [mem_setL, List.mem_filter, List.mem_flatMap] at hk
        obtain ⟨⟨j, hj, hjk⟩, _⟩ := hk
        exact ⟨j, hj, (Rch.go (.here j) hjk).trans hr⟩
theorem walk_closed {cs : List Nat} : ∀ f seen now far, seen.Nodup → (∀ x ∈ seen, x < cs.length) → (∀ x ∈ now, x ∈ seen) → cs.length + (if now = [] then 0 else 1) ≤ f + seen.length →
    (∀ x ∈ seen, x ∉ now → ∀ y ∈ nextOf (blksN cs) x, y ∈ seen) → ∀ x, (x ∈ seen ∨ x ∈ (walkF (blksN cs) f seen now far).map (·.1)) → ∀ y ∈ nextOf (blksN cs) x, y ∈ seen ∨ y ∈ (walkF (blksN cs) f seen now far).map (·.1)
  | f, seen, now, far, hn, hl, hs, hf, hc, x, hx, y, hy => by
    by_cases h0 : now = []
    · subst h0
      have e : walkF (blksN cs) f seen [] far = [] := by cases f <;> simp [walkF]
      rw [e] at hx ⊢
      simp at hx ⊢
      exact hc x hx (by simp) y hy
    · rw [if_neg h0] at hf
      have hle := nodup_le hn hl
      obtain ⟨f, rfl⟩ : ∃ k, f = k + 1 := ⟨f - 1, by omega⟩
      obtain ⟨L, hL⟩ : ∃ L, L = layerN (blksN cs) seen now := ⟨_, rfl⟩
      have hLm : ∀ x, x ∈ L ↔ (∃ k ∈ now, x ∈ nextOf (blksN cs) k) ∧ x ∉ seen := by
        intro x; rw [hL]; unfold layerN
        rw [mem_setL, List.mem_filter, List.mem_flatMap]; simp
      have e : walkF (blksN cs) (f + 1) seen now far = now.map (fun k => (k, far)) ++ walkF (blksN cs) f (seen ++ L) L (far + 1) := by rw [walkF, if_neg h0, ← hL]
      have hmap : (now.map (fun k => (k, far))).map (·.1) = now := by simp [Function.comp_def]
      have hLs : SL L := by rw [hL]; exact setL_sl _
      have hLl : ∀ x ∈ L, x < cs.length := fun x hx => by rw [hL] at hx; exact (layerN_mem hx).1
      have hn2 : (seen ++ L).Nodup := List.nodup_append.2 ⟨hn, hLs.nodup, fun a ha b hb e => ((hLm b).1 hb).2 (e ▸ ha)⟩
      have hl2 : ∀ x ∈ seen ++ L, x < cs.length := fun x hx => (List.mem_append.1 hx).elim (hl x) (hLl x)
      have hf2 : cs.length + (if L = [] then 0 else 1) ≤ f + (seen ++ L).length := by
        rw [List.length_append]
        split
        · omega
        · have := List.length_pos_iff.2 ‹¬ L = []›; omega
      have ih := walk_closed f (seen ++ L) L (far + 1) hn2 hl2 (fun x hx => List.mem_append.2 (.inr hx)) hf2 (fun x hx hnx y hy => by
        have hx' : x ∈ seen := (List.mem_append.1 hx).elim id fun h => absurd h hnx
        by_cases hxn : x ∈ now
        · by_cases hys : y ∈ seen
          · exact List.mem_append.2 (.inl hys)
          · exact List.mem_append.2 (.inr ((hLm y).2 ⟨⟨x, hxn, hy⟩, hys⟩))
        · exact List.mem_append.2 (.inl (hc x hx' hxn y hy)))
      rw [e] at hx ⊢
      rw [List.map_append, hmap] at hx ⊢
      have hx2 : x ∈ seen ++ L ∨ x ∈ (walkF (blksN cs) f (seen ++ L) L (far + 1)).map (·.1) := by
        rcases hx with h | h
        · exact .inl (List.mem_append.2 (.inl h))
        · rcases List.mem_append.1 h with h | h
          · exact .inl (List.mem_append.2 (.inl (hs x h)))
          · exact .inr h
      rcases ih x hx2 y hy with h | h
      · rcases List.mem_append.1 h with h | h
        · exact .inl h
        · refine .inr (List.mem_append.2 (.inr ?_))
          have hLne : L ≠ [] := fun e => by rw [e] at h; simp at h
          rw [if_neg hLne] at hf2
          have := nodup_le hn2 hl2
          obtain ⟨f', rfl⟩ : ∃ k, f = k + 1 := ⟨f - 1, by omega⟩
          unfold walkF
          rw [if_neg hLne, List.map_append]
          exact List.mem_append.2 (.inl (by simpa [Function.comp_def] using h))
      · exact .inr (List.mem_append.2 (.inr h))
theorem find_block {cs : List Nat} {b : BlkN} (hb : b ∈ blksN cs) : ∃ b', findB (blksN cs) b.first = some b' ∧ b' ∈ blksN cs ∧ b'.first = b.first := by
  cases h : findB (blksN cs) b.first with
  | none =>
    have := List.find?_eq_none.1 h b hb
    simp at this
  | some b' => exact ⟨b', rfl, List.mem_of_find?_eq_some h, by simpa using List.find?_some h⟩
theorem mem_reach {cs : List Nat} {a x : Nat} (ha : (findB (blksN cs) a).isSome = true) (hal : a < cs.length) : x ∈ reachN cs a ↔ Rch (blksN cs) a x := by
  unfold reachN walkN
  rw [mem_setL, if_pos ha]
  have hcl := walk_closed (cs := cs) (cs.length + 1) [a] [a] 0 (by simp) (by simpa using hal) (by simp) (by simp) (by simp)
  constructor
  · intro h
    obtain ⟨k, hk, hr⟩ := walk_sound _ _ _ _ _ x h
    rw [List.mem_singleton] at hk
    rw [← hk]; exact hr
  · intro h
    have h0 : a ∈ (walkF (blksN cs) (cs.length + 1) [a] [a] 0).map (·.1) := by unfold walkF; simp
    induction h with
    | here => exact h0
    | go _ hc ih =>
      rcases hcl _ (.inr ih) _ hc with e | e
      · rw [List.mem_singleton] at e; rw [e]; exact h0
      · exact e
theorem reach_self {cs : List Nat} {b : BlkN} (hb : b ∈ blksN cs) : b.first ∈ reachN cs b.first := by
  obtain ⟨b', h, -, -⟩ := find_block hb
  exact (mem_reach (by rw [h]; rfl) (first_lt hb).1).2 (.here _)
theorem blks_one {cs : List Nat} {b b' : BlkN} (hb : b ∈ blksN cs) (hb' : b' ∈ blksN cs) (h : b.first = b'.first) : b = b' := by
  obtain ⟨g, hg, rfl⟩ := List.mem_map.1 hb
  obtain ⟨g', hg', rfl⟩ := List.mem_map.1 hb'
  have h' : fstN g = fstN g' := h
  rw [grps_one hg hg' (fst_mem (grps_ne hg)) (by rw [h']; exact fst_mem (grps_ne hg'))]
theorem reach_next {cs : List Nat} {b : BlkN} (hb : b ∈ blksN cs) {x y : Nat} (hx : x ∈ b.next) (hy : y ∈ reachN cs x) : y ∈ reachN cs b.first := by
  obtain ⟨b', h, h1, h2⟩ := find_block hb
  obtain ⟨c, hc, rfl⟩ := next_block hb hx
  obtain ⟨c', k, k1, k2⟩ := find_block hc
  have hr := (mem_reach (by rw [k]; rfl) (first_lt hc).1).1 hy
  refine (mem_reach (by rw [h]; rfl) (first_lt hb).1).2 ((Rch.go (.here _) ?_).trans hr)
  unfold nextOf
  rw [h]
  show c.first ∈ b'.next
  rw [blks_one h1 hb h2]
  exact hx
end Go.Proofs.YtijkdabmegbcjaaDoor
namespace Go.Proofs.YtijkdabmegbcjaaDoor

structure InfoN where
  name : List UInt8
  ins : Nat
  outs : Nat
  gas : Nat
  quiet : Bool
  size : Nat
  deriving DecidableEq
def noInfo : InfoN := ⟨[], 0, 0, 0, false, 0⟩
def infoV (x : InfoN) : Value := .agg #[.string ⟨x.name.toArray⟩, .int .i64 x.ins, .int .i64 x.outs, .int .u64 x.gas, .bool x.quiet, .int .i64 x.size]
def rowGet (c : Nat) : List (Nat × InfoN) → InfoN
  | [] => noInfo
  | x :: l => if c = x.1 then x.2 else rowGet c l
def lowRows : List (Nat × InfoN) := [
  (0, ⟨[83, 84, 79, 80], 0, 0, 0, false, 0⟩),
  (1, ⟨[65, 68, 68], 2, 1, 3, true, 0⟩),
  (2, ⟨[77, 85, 76], 2, 1, 5, true, 0⟩),
  (3, ⟨[83, 85, 66], 2, 1, 3, true, 0⟩),
  (4, ⟨[68, 73, 86], 2, 1, 5, true, 0⟩),
  (5, ⟨[83, 68, 73, 86], 2, 1, 5, true, 0⟩),
  (6, ⟨[77, 79, 68], 2, 1, 5, true, 0⟩),
  (7, ⟨[83, 77, 79, 68], 2, 1, 5, true, 0⟩),
  (8, ⟨[65, 68, 68, 77, 79, 68], 3, 1, 8, true, 0⟩),
  (9, ⟨[77, 85, 76, 77, 79, 68], 3, 1, 8, true, 0⟩),
  (10, ⟨[69, 88, 80], 2, 1, 10, false, 0⟩),
  (11, ⟨[83, 73, 71, 78, 69, 88, 84, 69, 78, 68], 2, 1, 5, true, 0⟩),
  (16, ⟨[76, 84], 2, 1, 3, true, 0⟩),
  (17, ⟨[71, 84], 2, 1, 3, true, 0⟩),
  (18, ⟨[83, 76, 84], 2, 1, 3, true, 0⟩),
  (19, ⟨[83, 71, 84], 2, 1, 3, true, 0⟩),
  (20, ⟨[69, 81], 2, 1, 3, true, 0⟩),
  (21, ⟨[73, 83, 90, 69, 82, 79], 1, 1, 3, true, 0⟩),
  (22, ⟨[65, 78, 68], 2, 1, 3, true, 0⟩),
  (23, ⟨[79, 82], 2, 1, 3, true, 0⟩),
  (24, ⟨[88, 79, 82], 2, 1, 3, true, 0⟩),
  (25, ⟨[78, 79, 84], 1, 1, 3, true, 0⟩),
  (26, ⟨[66, 89, 84, 69], 2, 1, 3, true, 0⟩),
  (27, ⟨[83, 72, 76], 2, 1, 3, true, 0⟩),
  (28, ⟨[83, 72, 82], 2, 1, 3, true, 0⟩)]
def middleRows : List (Nat × InfoN) := [
  (29, ⟨[83, 65, 82], 2, 1, 3, true, 0⟩),
  (32, ⟨[75, 69, 67, 67, 65, 75, 50, 53, 54], 2, 1, 30, false, 0⟩),
  (48, ⟨[65, 68, 68, 82, 69, 83, 83], 0, 1, 2, true, 0⟩),
  (49, ⟨[66, 65, 76, 65, 78, 67, 69], 1, 1, 0, false, 0⟩),
  (50, ⟨[79, 82, 73, 71, 73, 78], 0, 1, 2, true, 0⟩),
  (51, ⟨[67, 65, 76, 76, 69, 82], 0, 1, 2, true, 0⟩),
  (52, ⟨[67, 65, 76, 76, 86, 65, 76, 85, 69], 0, 1, 2, true, 0⟩),
  (53, ⟨[67, 65, 76, 76, 68, 65, 84, 65, 76, 79, 65, 68], 1, 1, 3, false, 0⟩),
  (54, ⟨[67, 65, 76, 76, 68, 65, 84, 65, 83, 73, 90, 69], 0, 1, 2, true, 0⟩),
  (55, ⟨[67, 65, 76, 76, 68, 65, 84, 65, 67, 79, 80, 89], 3, 0, 3, false, 0⟩),
  (56, ⟨[67, 79, 68, 69, 83, 73, 90, 69], 0, 1, 2, true, 0⟩),
  (57, ⟨[67, 79, 68, 69, 67, 79, 80, 89], 3, 0, 3, false, 0⟩),
  (58, ⟨[71, 65, 83, 80, 82, 73, 67, 69], 0, 1, 2, true, 0⟩),
  (59, ⟨[69, 88, 84, 67, 79, 68, 69, 83, 73, 90, 69], 1, 1, 0, false, 0⟩),
  (60, ⟨[69, 88, 84, 67, 79, 68, 69, 67, 79, 80, 89], 4, 0, 0, false, 0⟩),
  (61, ⟨[82, 69, 84, 85, 82, 78, 68, 65, 84, 65, 83, 73, 90, 69], 0, 1, 2, true, 0⟩),
  (62, ⟨[82, 69, 84, 85, 82, 78, 68, 65, 84, 65, 67, 79, 80, 89], 3, 0, 3, false, 0⟩),
  (63, ⟨[69, 88, 84, 67, 79, 68, 69, 72, 65, 83, 72], 1, 1, 0, false, 0⟩),
  (64, ⟨[66, 76, 79, 67, 75, 72, 65, 83, 72], 1, 1, 20, false, 0⟩),
  (65, ⟨[67, 79, 73, 78, 66, 65, 83, 69], 0, 1, 2, true, 0⟩),
  (66, ⟨[84, 73, 77, 69, 83, 84, 65, 77, 80], 0, 1, 2, true, 0⟩),
  (67, ⟨[78, 85, 77, 66, 69, 82], 0, 1, 2, true, 0⟩),
  (68, ⟨[80, 82, 69, 86, 82, 65, 78, 68, 65, 79], 0, 1, 2, true, 0⟩),
  (69, ⟨[71, 65, 83, 76, 73, 77, 73, 84], 0, 1, 2, true, 0⟩),
  (70, ⟨[67, 72, 65, 73, 78, 73, 68], 0, 1, 2, true, 0⟩)]
def highRows : List (Nat × InfoN) := [
  (71, ⟨[83, 69, 76, 70, 66, 65, 76, 65, 78, 67, 69], 0, 1, 5, false, 0⟩),
  (72, ⟨[66, 65, 83, 69, 70, 69, 69], 0, 1, 2, true, 0⟩),
  (80, ⟨[80, 79, 80], 1, 0, 2, true, 0⟩),
  (81, ⟨[77, 76, 79, 65, 68], 1, 1, 3, false, 0⟩),
  (82, ⟨[77, 83, 84, 79, 82, 69], 2, 0, 3, false, 0⟩),
  (83, ⟨[77, 83, 84, 79, 82, 69, 56], 2, 0, 3, false, 0⟩),
  (84, ⟨[83, 76, 79, 65, 68], 1, 1, 0, false, 0⟩),
  (85, ⟨[83, 83, 84, 79, 82, 69], 2, 0, 0, false, 0⟩),
  (86, ⟨[74, 85, 77, 80], 1, 0, 8, false, 0⟩),
  (87, ⟨[74, 85, 77, 80, 73], 2, 0, 10, false, 0⟩),
  (88, ⟨[80, 67], 0, 1, 2, true, 0⟩),
  (89, ⟨[77, 83, 73, 90, 69], 0, 1, 2, true, 0⟩),
  (90, ⟨[71, 65, 83], 0, 1, 2, false, 0⟩),
  (91, ⟨[74, 85, 77, 80, 68, 69, 83, 84], 0, 0, 1, true, 0⟩),
  (95, ⟨[80, 85, 83, 72, 48], 0, 1, 2, true, 0⟩),
  (240, ⟨[67, 82, 69, 65, 84, 69], 3, 1, 32000, false, 0⟩),
  (241, ⟨[67, 65, 76, 76], 7, 1, 0, false, 0⟩),
  (242, ⟨[67, 65, 76, 76, 67, 79, 68, 69], 7, 1, 0, false, 0⟩),
  (243, ⟨[82, 69, 84, 85, 82, 78], 2, 0, 0, false, 0⟩),
  (244, ⟨[68, 69, 76, 69, 71, 65, 84, 69, 67, 65, 76, 76], 6, 1, 0, false, 0⟩),
  (245, ⟨[67, 82, 69, 65, 84, 69, 50], 4, 1, 32000, false, 0⟩),
  (250, ⟨[83, 84, 65, 84, 73, 67, 67, 65, 76, 76], 6, 1, 0, false, 0⟩),
  (253, ⟨[82, 69, 86, 69, 82, 84], 2, 0, 0, false, 0⟩),
  (254, ⟨[73, 78, 86, 65, 76, 73, 68], 0, 0, 0, false, 0⟩),
  (255, ⟨[83, 69, 76, 70, 68, 69, 83, 84, 82, 85, 67, 84], 1, 0, 5000, false, 0⟩)]
def digN (n : Nat) : List UInt8 := if n < 10 then [UInt8.ofNat (48 + n)] else [UInt8.ofNat (48 + n / 10), UInt8.ofNat (48 + n % 10)]
def famN (c : Nat) : Option InfoN :=
  if 96 ≤ c ∧ c ≤ 127 then some ⟨[80, 85, 83, 72] ++ digN (c - 95), 0, 1, 3, true, c - 95⟩
  else if 128 ≤ c ∧ c ≤ 143 then some ⟨[68, 85, 80] ++ digN (c - 127), c - 127, c - 126, 3, true, 0⟩
  else if 144 ≤ c ∧ c ≤ 159 then some ⟨[83, 87, 65, 80] ++ digN (c - 143), c - 142, c - 142, 3, true, 0⟩
  else if 160 ≤ c ∧ c ≤ 164 then some ⟨[76, 79, 71] ++ digN (c - 160), c - 158, 0, 375 * (c - 159), false, 0⟩
  else none
def infoN (c : Nat) : InfoN := match famN c with | some x => x | none => rowGet c (lowRows ++ middleRows ++ highRows)
theorem info_ref : ∀ c : Nat, c < 256 → famN c = none → infoN c = if (rowGet c lowRows).name ≠ [] then rowGet c lowRows else if (rowGet c middleRows).name ≠ [] then rowGet c middleRows else rowGet c highRows := by decide +kernel
theorem info_named : ∀ c : Nat, c < 256 → (infoN c).name.isEmpty = !namedN c := by decide +kernel
theorem info_size : ∀ c : Nat, c < 256 → (infoN c).size = szN c := by decide +kernel
theorem info_small : ∀ c : Nat, c < 256 → (infoN c).ins ≤ 17 ∧ (infoN c).outs ≤ 17 ∧ (infoN c).gas ≤ 32000 := by decide +kernel
end Go.Proofs.YtijkdabmegbcjaaDoor
namespace Go.Proofs.YtijkdabmegbcjaaDoor
open Go.RowKit

theorem refOf_any (n : Nat) (w : World) (h : n < 18446744073709551616) :
    Calls Tryd.prog 11 #[.int .u64 n] w fun e w' => e = .returned (wordV n) ∧ Below w.heap.size w w' := by
  have e : wordV n = .agg #[.int .u64 n, .int .u64 0, .int .u64 0, .int .u64 0] := by
    have h0 : limb n 0 = n := by unfold limb; simp; omega
    have h1 : limb n 1 = 0 := by unfold limb; simp; omega
    have h2 : limb n 2 = 0 := by unfold limb; simp; omega
    have h3 : limb n 3 = 0 := by unfold limb; simp; omega
    unfold wordV
    rw [h0, h1, h2, h3]; rfl
  rw [e]
  go_enter Tryd.func11, Tryd.ntmps11
  go_wp2
  refine bodyPost_ret (v := .agg #[.int .u64 n, .int .u64 0, .int .u64 0, .int .u64 0]) (by simp [results, Tryd.results11, go_sem]) rfl ⟨rfl, ?_⟩
  repeat (first | exact xrefl _ | refine xalloc ?_ _ | refine xset ?_ (by simp) _)

theorem bytesL_get (N j : Nat) (h : j < (bytesL N).length) : (bytesL N)[j] = byteAt N (31 - j) := by simp [bytesL]

theorem or_byte (x y s : Nat) (hx : x < 2 ^ s) (hx6 : x < 18446744073709551616) (hy : y * 2 ^ s < 18446744073709551616) : bits .or .u64 (x : Int) (IntKind.u64.wrap ((y : Int) * 2 ^ s)) = ((x + y * 2 ^ s : Nat) : Int) := by
  have e : ((y : Int) * 2 ^ s) = ((y * 2 ^ s : Nat) : Int) := by simp
  have w64 : ∀ n : Nat, n < 18446744073709551616 → IntKind.u64.wrap (n : Int) = n := by
    intro n hn
    simp [IntKind.wrap, IntKind.bits, IntKind.signed]; omega
  have o : ∀ n : Nat, BitVec.ofInt 64 (n : Int) = BitVec.ofNat 64 n := fun n => BitVec.ofInt_natCast 64 n
  have hs : (x ||| y * 2 ^ s) = x + y * 2 ^ s := by
    have := Nat.two_pow_add_eq_or_of_lt hx y
    rw [Nat.mul_comm y, Nat.or_comm, ← this, Nat.add_comm]
  have hlt : (x ||| y * 2 ^ s) < 2 ^ 64 := Nat.or_lt_two_pow (by simpa using hx6) (by simpa using hy)
  rw [e, w64 _ hy]
  show IntKind.u64.wrap (((BitVec.ofInt 64 (x : Int)) ||| (BitVec.ofInt 64 ((y * 2 ^ s : Nat) : Int))).toNat : Int) = _
  rw [o, o, BitVec.toNat_or, BitVec.toNat_ofNat, BitVec.toNat_ofNat, Nat.mod_eq_of_lt (by simpa using hx6), Nat.mod_eq_of_lt (by simpa using hy), w64 _ (by simpa using hlt), hs]

end Go.Proofs.YtijkdabmegbcjaaDoor
namespace Go.Proofs.YtijkdabmegbcjaaDoor
open Go.RowKit

/-- A number of 32 bits, as Go's uint32 holds it. -/
def iv32 (x : BitVec 32) : Int := x.toNat
def iv64 (x : BitVec 64) : Int := x.toNat
def iv8 (x : BitVec 8) : Int := x.toNat
theorem iv32_bd (x : BitVec 32) : 0 ≤ iv32 x ∧ iv32 x < 4294967296 := by unfold iv32; have := x.isLt; omega
theorem iv64_bd (x : BitVec 64) : 0 ≤ iv64 x ∧ iv64 x < 18446744073709551616 := by unfold iv64; have := x.isLt; omega
theorem iv8_bd (x : BitVec 8) : 0 ≤ iv8 x ∧ iv8 x < 256 := by unfold iv8; have := x.isLt; omega
theorem iv32_inj {x y : BitVec 32} : iv32 x = iv32 y ↔ x = y := by unfold iv32; rw [BitVec.toNat_eq]; omega
theorem iv64_inj {x y : BitVec 64} : iv64 x = iv64 y ↔ x = y := by unfold iv64; rw [BitVec.toNat_eq]; omega
theorem iv8_inj {x y : BitVec 8} : iv8 x = iv8 y ↔ x = y := by unfold iv8; rw [BitVec.toNat_eq]; omega
theorem ofInt32 (x : BitVec 32) : BitVec.ofInt 32 (x.toNat : Int) = x := by rw [BitVec.ofInt_natCast]; simp
theorem ofInt64 (x : BitVec 64) : BitVec.ofInt 64 (x.toNat : Int) = x := by rw [BitVec.ofInt_natCast]; simp
theorem ofInt8 (x : BitVec 8) : BitVec.ofInt 8 (x.toNat : Int) = x := by rw [BitVec.ofInt_natCast]; simp
theorem wrap32_nat (n : Nat) : IntKind.u32.wrap (n : Int) = iv32 (BitVec.ofNat 32 n) := by
  simp [IntKind.wrap, IntKind.bits, IntKind.signed, iv32]
theorem wrap64_nat (n : Nat) : IntKind.u64.wrap (n : Int) = iv64 (BitVec.ofNat 64 n) := by
  simp [IntKind.wrap, IntKind.bits, IntKind.signed, iv64]
theorem wrap8_nat (n : Nat) : IntKind.u8.wrap (n : Int) = iv8 (BitVec.ofNat 8 n) := by
  simp [IntKind.wrap, IntKind.bits, IntKind.signed, iv8]

/-! The operations, behind names. -/
def add32 (a b : BitVec 32) : BitVec 32 := a + b
def sub32 (a b : BitVec 32) : BitVec 32 := a - b
def mul32 (a b : BitVec 32) : BitVec 32 := a * b
def and32 (a b : BitVec 32) : BitVec 32 := a &&& b
def or32 (a b : BitVec 32) : BitVec 32 := a ||| b
def xor32 (a b : BitVec 32) : BitVec 32 := a ^^^ b
def not32 (a : BitVec 32) : BitVec 32 := ~~~a
def shl32 (a : BitVec 32) (n : Nat) : BitVec 32 := a <<< n
def shr32 (a : BitVec 32) (n : Nat) : BitVec 32 := a >>> n

section
variable (t : TypeId) (a b : BitVec 32)
@[go_sem high] theorem op_add32 : binOp .add t (.int .u32 (iv32 a)) (.int .u32 (iv32 b)) = pure (.int .u32 (iv32 (add32 a b))) := by
  simp only [binOp_add, Op.intArith, iv32]
  rw [show ((a.toNat : Int) + (b.toNat : Int)) = ((a.toNat + b.toNat : Nat) : Int) by omega, wrap32_nat]
  simp [iv32, add32]
@[go_sem high] theorem op_sub32 : binOp .sub t (.int .u32 (iv32 a)) (.int .u32 (iv32 b)) = pure (.int .u32 (iv32 (sub32 a b))) := by
  simp only [binOp_sub, Op.intArith, iv32]
  have ha := a.isLt
  have hb := b.isLt
  congr 2
  simp only [IntKind.wrap, IntKind.bits, IntKind.signed, sub32, BitVec.toNat_sub]
  simp
  omega
@[go_sem high] theorem op_and32 : binOp .and t (.int .u32 (iv32 a)) (.int .u32 (iv32 b)) = pure (.int .u32 (iv32 (and32 a b))) := by
  simp only [binOp_and, intBits_and, bits, iv32, IntKind.bits, ofInt32, wrap32_nat]
  rw [BitVec.ofNat_toNat, BitVec.setWidth_eq]; rfl
@[go_sem high] theorem op_or32 : binOp .or t (.int .u32 (iv32 a)) (.int .u32 (iv32 b)) = pure (.int .u32 (iv32 (or32 a b))) := by
  simp only [binOp_or, intBits_or, bits, iv32, IntKind.bits, ofInt32, wrap32_nat]
  rw [BitVec.ofNat_toNat, BitVec.setWidth_eq]; rfl
@[go_sem high] theorem op_xor32 : binOp .xor t (.int .u32 (iv32 a)) (.int .u32 (iv32 b)) = pure (.int .u32 (iv32 (xor32 a b))) := by
  simp only [binOp_xor, intBits_xor, bits, iv32, IntKind.bits, ofInt32, wrap32_nat]
  rw [BitVec.ofNat_toNat, BitVec.setWidth_eq]; rfl
@[go_sem high] theorem op_not32 : Op.unary .xor (.int .u32 (iv32 a)) = pure (.int .u32 (iv32 (not32 a))) := by
  rw [unary_xor]
  simp only [IntKind.signed, Bool.false_eq_true, if_false, intBits_xor, bits, iv32, IntKind.bits, ofInt32, wrap32_nat]
  rw [BitVec.ofNat_toNat, BitVec.setWidth_eq, show (BitVec.ofInt 32 IntKind.u32.max) = BitVec.allOnes 32 by rfl]
  exact congrArg (fun v : BitVec 32 => (pure (Value.int .u32 (v.toNat : Int)) : Sem Value)) BitVec.allOnes_xor
@[go_sem high] theorem op_shl32 (yk : IntKind) (y : Int) (h0 : 0 ≤ y) (h : y < 32) : binOp .shl t (.int .u32 (iv32 a)) (.int yk y) = pure (.int .u32 (iv32 (shl32 a y.toNat))) := by
  obtain ⟨n, rfl⟩ := Int.eq_ofNat_of_zero_le h0
  rw [binOp_shl, shift_shl_u32 _ _ _ (by omega) (by omega), Int.toNat_natCast]
  simp only [iv32, shl32]
  rw [show ((a.toNat : Int) * 2 ^ n) = ((a.toNat * 2 ^ n : Nat) : Int) by simp, wrap32_nat]
  simp [iv32, Nat.shiftLeft_eq]
@[go_sem high] theorem op_shr32 (yk : IntKind) (y : Int) (h0 : 0 ≤ y) (h : y < 32) : binOp .shr t (.int .u32 (iv32 a)) (.int yk y) = pure (.int .u32 (iv32 (shr32 a y.toNat))) := by
  obtain ⟨n, rfl⟩ := Int.eq_ofNat_of_zero_le h0
  rw [binOp_shr, shift_shr_u32 _ _ _ (by omega) (by omega), Int.toNat_natCast]
  simp only [iv32, shr32, BitVec.toNat_ushiftRight, Nat.shiftRight_eq_div_pow]
  simp
@[go_sem high] theorem op_eql32 : binOp .eql t (.int .u32 (iv32 a)) (.int .u32 (iv32 b)) = pure (.bool (a == b)) := by
  rw [binOp_eql]
  have : (iv32 a == iv32 b) = (a == b) := by rw [Bool.eq_iff_iff, beq_iff_eq, beq_iff_eq, iv32_inj]
  rw [this]
end

end Go.Proofs.YtijkdabmegbcjaaDoor
