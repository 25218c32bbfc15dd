/- Texts of this claim, merged; no condition. -/
import Derived.Test.YtijkdabmegbcjaaGreatDoorT33
import Derived.Test.YtijkdabmegbcjaaGreatDoorT37
import Derived.Test.YtijkdabmegbcjaaGreatDoorTA
set_option linter.all false
namespace Go.Proofs.YtijkdabmegbcjaaGreatDoor
section
def exitOf (bs : List BlkN) (k : Nat) : Bool := match findB bs k with | some b => b.exit | none => false
def keysB (bs : List BlkN) : List Nat := bs.map (·.first)
structure Graph (bs : List BlkN) (D : Nat) : Prop where
  sl : SL (keysB bs)
  next : ∀ b ∈ bs, ∀ x ∈ b.next, x ∈ keysB bs
  len : ∀ b ∈ bs, b.next.length ≤ D
def withF (bs : List BlkN) (but : Int) : Nat → List Nat → List Nat → List Nat
  | 0, out, _ => out
  | _ + 1, out, [] => out
  | f + 1, out, k :: r => if k ∈ out ∨ (k : Int) = but then withF bs but f out r else withF bs but f (out ++ [k]) (r ++ nextOf bs k)
def muW (bs : List BlkN) (D : Nat) (out now : List Nat) : Nat := now.length + (bs.length - out.length) * (D + 1)
def withoutN (bs : List BlkN) (D : Nat) (first : Nat) (but : Int) : List Nat := if (findB bs first).isSome = true ∧ (first : Int) ≠ but then withF bs but (muW bs D [] [first]) [] [first] else []
def exitsN (bs : List BlkN) (D : Nat) (first : Nat) (but : Int) : Bool := (withoutN bs D first but).any (exitOf bs)
def bhB (bs : List BlkN) (D : Nat) (k b : Nat) : Bool := exitsN bs D k (-1) && !exitsN bs D k (b : Int)
def behindN (bs : List BlkN) (D : Nat) (k : Nat) : List Nat := if exitsN bs D k (-1) = true then (keysB bs).filter (fun b => !exitsN bs D k (b : Int)) else []
def meetN (bs : List BlkN) (D : Nat) (k : Nat) : Option Nat := (behindN bs D k).find? fun m => decide (m ≠ k) && decide ((behindN bs D m).length + 1 = (behindN bs D k).length)
theorem find_key {bs : List BlkN} {k : Nat} : (findB bs k).isSome = true ↔ k ∈ keysB bs := by
  unfold findB keysB
  rw [List.find?_isSome, List.mem_map]
  constructor
  · rintro ⟨b, hb, h⟩; exact ⟨b, hb, by simpa using h⟩
  · rintro ⟨b, hb, h⟩; exact ⟨b, hb, by simpa using h⟩
theorem find_none {bs : List BlkN} {k : Nat} (h : k ∉ keysB bs) : findB bs k = none := by
  cases e : findB bs k with
  | none => rfl
  | some b => exact absurd (find_key.1 (by rw [e]; rfl)) h
theorem next_none {bs : List BlkN} {k : Nat} (h : k ∉ keysB bs) : nextOf bs k = [] := by unfold nextOf; rw [find_none h]
theorem exit_no {bs : List BlkN} {k : Nat} (h : k ∉ keysB bs) : exitOf bs k = false := by unfold exitOf; rw [find_none h]
section
variable {bs : List BlkN} {D : Nat}
theorem Graph.nextOf (g : Graph bs D) {k x : Nat} (h : x ∈ nextOf bs k) : x ∈ keysB bs := by
  unfold Go.Proofs.YtijkdabmegbcjaaGreatDoor.nextOf at h
  split at h
  · rename_i b hb
    exact g.next b (List.mem_of_find?_eq_some hb) x h
  · simp at h
theorem Graph.nextLen (g : Graph bs D) (k : Nat) : (Go.Proofs.YtijkdabmegbcjaaGreatDoor.nextOf bs k).length ≤ D := by
  unfold Go.Proofs.YtijkdabmegbcjaaGreatDoor.nextOf
  split
  · rename_i b hb
    exact g.len b (List.mem_of_find?_eq_some hb)
  · simp
theorem Graph.nodup (g : Graph bs D) : (keysB bs).Nodup := g.sl.nodup
theorem Graph.le (_ : Graph bs D) {l : List Nat} (hn : l.Nodup) (h : ∀ x ∈ l, x ∈ keysB bs) : l.length ≤ bs.length := by
  have := hn.length_le_of_subset h
  simpa [keysB] using this
theorem mu_in (g : Graph bs D) {out now : List Nat} {k : Nat} (hn : out.Nodup) (h : ∀ x ∈ out, x ∈ keysB bs) (hk : k ∈ keysB bs) (hko : k ∉ out) : muW bs D (out ++ [k]) (now ++ Go.Proofs.YtijkdabmegbcjaaGreatDoor.nextOf bs k) < muW bs D out (k :: now) := by
  have h1 := g.le (l := out ++ [k]) (List.nodup_append.2 ⟨hn, by simp, fun a ha b hb e => hko (by simp at hb; rw [← hb, ← e]; exact ha)⟩) (fun x hx => by
    rcases List.mem_append.1 hx with e | e
    · exact h x e
    · rw [List.mem_singleton] at e; rw [e]; exact hk)
  rw [List.length_append, List.length_singleton] at h1
  have h2 := g.nextLen k
  unfold muW
  simp only [List.length_append, List.length_cons, List.length_nil, Nat.zero_add]
  obtain ⟨d, hd⟩ : ∃ d, bs.length - out.length = d + 1 := ⟨bs.length - out.length - 1, by omega⟩
  rw [hd, show bs.length - (out.length + 1) = d by omega, Nat.add_mul]
  omega
theorem mu_out {out now : List Nat} {k : Nat} : muW bs D out now < muW bs D out (k :: now) := by
  unfold muW; rw [List.length_cons]; omega
theorem withF_spec (g : Graph bs D) {but : Int} : ∀ (f : Nat) (out now : List Nat), muW bs D out now ≤ f → out.Nodup → (∀ x ∈ out, x ∈ keysB bs) → (∀ x ∈ now, x ∈ keysB bs) → (∀ x ∈ out, (x : Int) ≠ but) →
    (∀ x ∈ out, ∀ y ∈ Go.Proofs.YtijkdabmegbcjaaGreatDoor.nextOf bs x, (y : Int) ≠ but → y ∈ out ∨ y ∈ now) →
    (∀ x ∈ out, x ∈ withF bs but f out now) ∧ (∀ x ∈ now, (x : Int) ≠ but → x ∈ withF bs but f out now) ∧ (∀ x ∈ withF bs but f out now, ∀ y ∈ Go.Proofs.YtijkdabmegbcjaaGreatDoor.nextOf bs x, (y : Int) ≠ but → y ∈ withF bs but f out now) ∧
    (∀ x ∈ withF bs but f out now, x ∈ out ∨ ∃ k ∈ now, RchA (Go.Proofs.YtijkdabmegbcjaaGreatDoor.nextOf bs) but k x) ∧ (withF bs but f out now).Nodup ∧ ∀ x ∈ withF bs but f out now, x ∈ keysB bs
  | f, out, [], hf, hn, hk, hw, hb, hc => by
    have e : withF bs but f out [] = out := by cases f <;> rfl
    rw [e]
    exact ⟨fun _ h => h, by simp, fun x hx y hy hyb => by have := hc x hx y hy hyb; simpa using this, fun x hx => .inl hx, hn, hk⟩
  | 0, out, k :: now, hf, _, _, _, _, _ => by unfold muW at hf; rw [List.length_cons] at hf; omega
  | f + 1, out, k :: now, hf, hn, hk, hw, hb, hc => by
    unfold withF
    have hkk := hw k (by simp)
    by_cases h : k ∈ out ∨ (k : Int) = but
    · rw [if_pos h]
      have hmu := mu_out (bs := bs) (D := D) (out := out) (now := now) (k := k)
      obtain ⟨h1, h2, h3, h4, h5, h6⟩ := withF_spec g f out now (by omega) hn hk (fun x hx => hw x (by simp [hx])) hb (fun x hx y hy hyb => by
        rcases hc x hx y hy hyb with e | e
        · exact .inl e
        · rcases List.mem_cons.1 e with e | e
          · subst e
            rcases h with h | h
            · exact .inl h
            · exact absurd h hyb
          · exact .inr e)
      refine ⟨h1, fun x hx hxb => ?_, h3, fun x hx => ?_, h5, h6⟩
      · rcases List.mem_cons.1 hx with e | e
        · subst e
          rcases h with h | h
          · exact h1 _ h
          · exact absurd h hxb
        · exact h2 x e hxb
      · rcases h4 x hx with e | ⟨j, hj, hr⟩
        · exact .inl e
        · exact .inr ⟨j, by simp [hj], hr⟩
    · rw [if_neg h, not_or] at *
      have hmu := mu_in g (now := now) hn hk hkk h.1
      obtain ⟨h1, h2, h3, h4, h5, h6⟩ := withF_spec g f (out ++ [k]) (now ++ Go.Proofs.YtijkdabmegbcjaaGreatDoor.nextOf bs k) (by omega) (List.nodup_append.2 ⟨hn, by simp, fun a ha b hb e => h.1 (by simp at hb; rw [← hb, ← e]; exact ha)⟩)
        (fun x hx => by
          rcases List.mem_append.1 hx with e | e
          · exact hk x e
          · rw [List.mem_singleton] at e; rw [e]; exact hkk)
        (fun x hx => by
          rcases List.mem_append.1 hx with e | e
          · exact hw x (by simp [e])
          · exact g.nextOf e)
        (fun x hx => by
          rcases List.mem_append.1 hx with e | e
          · exact hb x e
          · rw [List.mem_singleton] at e; rw [e]; exact h.2)
        (fun x hx y hy hyb => by
          rcases List.mem_append.1 hx with e | e
          · rcases hc x e y hy hyb with e | e
            · exact .inl (List.mem_append.2 (.inl e))
            · rcases List.mem_cons.1 e with e | e
              · exact .inl (List.mem_append.2 (.inr (by simp [e])))
              · exact .inr (List.mem_append.2 (.inl e))
          · rw [List.mem_singleton] at e; rw [e] at hy
            exact .inr (List.mem_append.2 (.inr hy)))
      refine ⟨fun x hx => h1 x (List.mem_append.2 (.inl hx)), fun x hx hxb => ?_, h3, fun x hx => ?_, h5, h6⟩
      · rcases List.mem_cons.1 hx with e | e
        · exact h1 x (List.mem_append.2 (.inr (by simp [e])))
        · exact h2 x (List.mem_append.2 (.inl e)) hxb
      · rcases h4 x hx with e | ⟨j, hj, hr⟩
        · rcases List.mem_append.1 e with e | e
          · exact .inl e
          · rw [List.mem_singleton] at e; rw [e]
            exact .inr ⟨k, by simp, .here h.2⟩
        · rcases List.mem_append.1 hj with e | e
          · exact .inr ⟨j, by simp [e], hr⟩
          · exact .inr ⟨k, by simp, .go h.2 e hr⟩
theorem mem_without (g : Graph bs D) {first : Nat} {but : Int} (hk : first ∈ keysB bs) (x : Nat) : x ∈ withoutN bs D first but ↔ RchA (Go.Proofs.YtijkdabmegbcjaaGreatDoor.nextOf bs) but first x := by
  unfold withoutN
  by_cases hb : (first : Int) = but
  · rw [if_neg (fun h => h.2 hb)]
    constructor
    · simp
    · intro h; exact absurd hb h.ne
  · rw [if_pos ⟨find_key.2 hk, hb⟩]
    obtain ⟨-, h2, h3, h4, -⟩ := withF_spec g (but := but) _ [] [first] (Nat.le_refl _) (by simp) (by simp) (by simpa using hk) (by simp) (by simp)
    constructor
    · intro h
      rcases h4 x h with e | ⟨k, hk, hr⟩
      · simp at e
      · rw [List.mem_singleton] at hk; rw [← hk]; exact hr
    · intro h
      have h0 := h2 first (by simp) hb
      generalize withF bs but (muW bs D [] [first]) [] [first] = R at *
      clear h2 h4 hb
      induction h with
      | here => exact h0
      | go _ hc hr ih => exact ih (g.nextOf hc) (h3 _ h0 _ hc hr.ne)
theorem exits_iff (g : Graph bs D) {first : Nat} {but : Int} : exitsN bs D first but = true ↔ ∃ x, RchA (Go.Proofs.YtijkdabmegbcjaaGreatDoor.nextOf bs) but first x ∧ exitOf bs x = true := by
  unfold exitsN
  rw [List.any_eq_true]
  by_cases hk : first ∈ keysB bs
  · simp only [mem_without g hk]
  · have e : withoutN bs D first but = [] := by unfold withoutN; rw [if_neg (by rintro ⟨h, -⟩; exact hk (find_key.1 h))]
    rw [e]
    constructor
    · simp
    · rintro ⟨x, h, hx⟩
      cases h with
      | here => rw [exit_no hk] at hx; cases hx
      | go _ hc _ => rw [next_none hk] at hc; simp at hc
theorem exits_ends (g : Graph bs D) {k : Nat} : exitsN bs D k (-1) = true ↔ Ends (Go.Proofs.YtijkdabmegbcjaaGreatDoor.nextOf bs) (exitOf bs) k := by
  rw [exits_iff g, way_iff]
  unfold Ends
  constructor
  · rintro ⟨l, h, -⟩; exact ⟨l, h⟩
  · rintro ⟨l, h⟩; exact ⟨l, h, fun y _ => by omega⟩
theorem bh_iff (g : Graph bs D) (k b : Nat) : bhB bs D k b = true ↔ Beh (Go.Proofs.YtijkdabmegbcjaaGreatDoor.nextOf bs) (exitOf bs) k b := by
  unfold bhB
  rw [Bool.and_eq_true, beh_not, exits_ends g]
  refine and_congr_right fun _ => ?_
  rw [← exits_iff g (first := k) (but := (b : Int))]
  simp
theorem behind_eq (k : Nat) : behindN bs D k = (keysB bs).filter (bhB bs D k) := by
  unfold behindN bhB
  split
  · rename_i h; simp [h]
  · rename_i h; simp [h]
theorem behind_key (g : Graph bs D) {k : Nat} (h : exitsN bs D k (-1) = true) : k ∈ keysB bs := by
  by_cases hk : k ∈ keysB bs
  · exact hk
  · obtain ⟨l, hl⟩ := (exits_ends g).1 h
    cases hl with
    | out hx => rw [exit_no hk] at hx; cases hx
    | step hj _ => rw [next_none hk] at hj; simp at hj
theorem mem_behind (g : Graph bs D) {k b : Nat} : b ∈ behindN bs D k ↔ Beh (Go.Proofs.YtijkdabmegbcjaaGreatDoor.nextOf bs) (exitOf bs) k b := by
  rw [behind_eq, List.mem_filter, bh_iff g]
  constructor
  · exact fun h => h.2
  · intro h
    exact ⟨behind_key g ((exits_ends g).2 h.ends), h⟩
theorem behind_sl (g : Graph bs D) (k : Nat) : SL (behindN bs D k) := by rw [behind_eq]; exact List.Pairwise.filter _ g.sl
theorem behind_len (_ : Graph bs D) (k : Nat) : (behindN bs D k).length ≤ bs.length := by
  rw [behind_eq]
  have := List.length_filter_le (bhB bs D k) (keysB bs)
  simpa [keysB] using this
theorem behind_ne (g : Graph bs D) {k : Nat} : behindN bs D k ≠ [] ↔ exitsN bs D k (-1) = true := by
  constructor
  · intro h
    unfold behindN at h
    split at h
    · assumption
    · simp at h
  · intro h e
    have := (mem_behind g (b := k)).2 (.self ((exits_ends g).1 h))
    rw [e] at this
    simp at this
theorem meet_iff (g : Graph bs D) {k m : Nat} : meetN bs D k = some m ↔ m ∈ behindN bs D k ∧ m ≠ k ∧ (behindN bs D m).length + 1 = (behindN bs D k).length := by
  unfold meetN
  constructor
  · intro h
    have h1 := List.mem_of_find?_eq_some h
    have h2 := List.find?_some h
    simp at h2
    exact ⟨h1, h2.1, h2.2⟩
  · rintro ⟨h1, h2, h3⟩
    cases e : (behindN bs D k).find? (fun m => decide (m ≠ k) && decide ((behindN bs D m).length + 1 = (behindN bs D k).length)) with
    | none =>
      have := List.find?_eq_none.1 e m h1
      simp [h2, h3] at this
    | some m' =>
      have k1 := List.mem_of_find?_eq_some e
      have k2 := List.find?_some e
      simp at k2
      have hb := (mem_behind g).1 h1
      have hk : k ∈ keysB bs := behind_key g ((exits_ends g).2 hb.1)
      congr 1
      refine meet_one g.nodup (bh_iff g) hk (behind_key g ((exits_ends g).2 ((mem_behind g).1 k1).ends)) (behind_key g ((exits_ends g).2 hb.ends)) ((bh_iff g _ _).2 ((mem_behind g).1 k1)) k2.1 ?_ ((bh_iff g _ _).2 hb) h2 ?_
      · rw [← behind_eq, ← behind_eq]; exact k2.2
      · rw [← behind_eq, ← behind_eq]; exact h3
end
end
section
open Go.RowKit Go.Shelf
theorem ending11_any (bx mo : Nat) (K : List Nat) (k : Nat) (w : World) (hx : w.cell? ⟨bx, 0, none⟩ = some (.map (some mo))) (hS : SetAt w mo K) :
    Calls Tryz.prog 119 #[.int .i64 k, .pointer (some ⟨bx, 0, none⟩)] w fun e w' => e = .returned (.bool (decide (k ∈ K))) ∧ w = w' := by
  have hz : ∀ w, (zeroValue 4).run Tryz.prog w = .ok (.bool false) w := fun _ => by kernel_rfl
  replace hS := qh hS
  go_enter Tryz.func119, Tryz.ntmps119
  go_wp2_with (refine wpList_exec rfl (.bool (decide (k ∈ K))) (exec_lookS 132 3 4 _ _ rfl Tryz.underlying132 Tryz.underlying3 hz mo k K rfl rfl hS.out) ?_)
  go_ret
  exact ⟨rfl, rfl⟩
def someIn (l K : List Nat) : Bool := l.any fun x => decide (x ∈ K)
set_option maxRecDepth 100000 in
set_option maxHeartbeats 2000000 in
theorem indexI_any (l K : List Nat) (bx mo : Nat) (p : Option Addr) (q : Nat) (w : World) (h : IntsAt w p q l) (hl : l.length ≤ 1000) (hx : w.cell? ⟨bx, 0, none⟩ = some (.map (some mo))) (hS : SetAt w mo K) :
    Calls Tryz.prog 136 #[.slice p l.length q, .func (.func 119) #[] #[.pointer (some ⟨bx, 0, none⟩)]] w fun e w' => (∃ r : Int, e = .returned (.int .i64 r) ∧ decide (0 ≤ r) = someIn l K) ∧ w = w' := by
  have hat := qh fun k => ending11_any bx mo K k w hx hS
  clear hx hS
  replace h := qh h
  go_enter Tryz.func136, Tryz.ntmps136
  go_wp2
  go_loopw [8] (fun iv wx => ∃ i : Nat, i ≤ l.length ∧ iv = .int .i64 i ∧ Hid (∀ j (h : j < i) (h2 : j < l.length), l[j] ∉ K) ∧ wx = w) (fun iv _ => l.length - (intOf iv).toNat)
  case atStart => exact ⟨0, by omega, rfl, qh (fun j h => absurd h (by omega)), rfl⟩
  case round =>
    obtain ⟨i, hi, rfl, hN, rfl⟩ := hrel
    by_cases hlt : i < l.length
    · have hltI : (i : Int) < l.length := by omega
      obtain ⟨b, o, rfl, hc⟩ := h.out.get hlt
      have hN1 : Hid (l[i] ∉ K → ∀ j (h : j < i + 1) (h2 : j < l.length), l[j] ∉ K) := qh fun hne j hj h2 => by
        by_cases e : j = i
        · subst e; exact hne
        · exact hN.out j (by omega) h2
      have hY1 : Hid (l[i] ∈ K → someIn l K = true) := qh fun hy => by unfold someIn; rw [List.any_eq_true]; exact ⟨l[i], List.getElem_mem hlt, decide_eq_true hy⟩
      generalize l[i] = x at *
      have hat1 := hat.out x
      by_cases e : x ∈ K
      · rw [decide_eq_true e] at hat1
        replace hY1 := qh (hY1.out e)
        replace hat1 := qh hat1
        clear hN1 e
        go_wp2_with (go_at_call 119; refine hat1.out.mono ?_; rintro en w2 ⟨rfl, rfl⟩)
        go_ret
        exact ⟨⟨i, rfl, by rw [hY1.out]; simp⟩, rfl⟩
      · rw [decide_eq_false e] at hat1
        replace hN1 := qh (hN1.out e)
        replace hat1 := qh hat1
        clear hY1 e
        go_wp2_with (go_at_call 119; refine hat1.out.mono ?_; rintro en w2 ⟨rfl, rfl⟩)
        exact ⟨⟨i + 1, by omega, by go_num, hN1, trivial⟩, by simp [intOf]; omega⟩
    · obtain rfl : i = l.length := by omega
      have hf : someIn l K = false := by
        unfold someIn
        rw [List.any_eq_false]
        intro x hx
        obtain ⟨j, hj, rfl⟩ := List.getElem_of_mem hx
        simpa using hN.out j hj hj
      replace hf := qh hf
      clear hlt
      go_wp2
      go_ret
      exact ⟨⟨-1, rfl, by rw [hf.out]; rfl⟩, rfl⟩
theorem containsI_any (l K : List Nat) (bx mo : Nat) (p : Option Addr) (q : Nat) (w : World) (h : IntsAt w p q l) (hl : l.length ≤ 1000) (hx : w.cell? ⟨bx, 0, none⟩ = some (.map (some mo))) (hS : SetAt w mo K) :
    Calls Tryz.prog 118 #[.slice p l.length q, .func (.func 119) #[] #[.pointer (some ⟨bx, 0, none⟩)]] w fun e w' => e = .returned (.bool (someIn l K)) ∧ w = w' := by
  have hi := qh (indexI_any l K bx mo p q w h hl hx hS)
  clear h hx hS
  go_enter Tryz.func118, Tryz.ntmps118
  go_wp2_with (go_at_call 136; refine hi.out.mono ?_; rintro e w' ⟨⟨r, rfl, hr⟩, rfl⟩; replace hr := qh hr)
  go_ret
  exact ⟨by rw [← hr.out]; rfl, rfl⟩
def moreP (K : List Nat) (B : BlkN) : Bool := B.exit || someIn B.next K
set_option maxRecDepth 100000 in
set_option maxHeartbeats 2000000 in
theorem more_any (B : BlkN) (K : List Nat) (bx mo : Nat) (p : Option Addr) (q : Nat) (w : World) (h : IntsAt w p q B.next) (hl : B.next.length ≤ 1000) (hx : w.cell? ⟨bx, 0, none⟩ = some (.map (some mo))) (hS : SetAt w mo K) :
    Calls Tryz.prog 117 #[.agg #[.int .i64 B.first, .int .i64 B.last, .slice p B.next.length q, .bool B.exit], .pointer (some ⟨bx, 0, none⟩)] w fun e w' => e = .returned (.bool (moreP K B)) ∧ Below w.heap.size w w' := by
  have hX0 : BlkG (w.alloc (.cells #[.int .i64 B.first, .int .i64 B.last, .slice p B.next.length q, .bool B.exit] 51)) w.heap.size 51 [.int .i64 B.first, .int .i64 B.last, .slice p B.next.length q, .bool B.exit] := BlkG.new w _ [.int .i64 B.first, .int .i64 B.last, .slice p B.next.length q, .bool B.exit]
  have hb0 : Below w.heap.size w (w.alloc (.cells #[.int .i64 B.first, .int .i64 B.last, .slice p B.next.length q, .bool B.exit] 51)) := xalloc (xrefl w) _
  have hc3 : (w.alloc (.cells #[.int .i64 B.first, .int .i64 B.last, .slice p B.next.length q, .bool B.exit] 51)).cell? ⟨w.heap.size, 3, none⟩ = some (.bool B.exit) := by simpa using hX0.range 3 _ rfl
  have hc2 : (w.alloc (.cells #[.int .i64 B.first, .int .i64 B.last, .slice p B.next.length q, .bool B.exit] 51)).cell? ⟨w.heap.size, 2, none⟩ = some (.slice p B.next.length q) := by simpa using hX0.range 2 _ rfl
  have hcf := qh (containsI_any B.next K bx mo p q _ (h.below hb0) hl (cbel hb0 hx) (hS.below hb0))
  have hm : moreP K B = (B.exit || someIn B.next K) := rfl
  rw [hm]
  replace hX0 := qh hX0
  replace hb0 := qh hb0
  clear h hx hS hm
  generalize someIn B.next K = R at *
  cases hex : B.exit with
  | true =>
    rw [hex] at hc3 hc2 hb0 hcf hX0
    replace hex := qh hex
    go_enter Tryz.func117, Tryz.ntmps117
    go_wp2
    go_ret
    exact ⟨rfl, hb0.out⟩
  | false =>
    rw [hex] at hc3 hc2 hb0 hcf hX0
    replace hex := qh hex
    go_enter Tryz.func117, Tryz.ntmps117
    go_wp2_with (go_at_call 118; refine hcf.out.mono ?_; rintro e w' ⟨rfl, rfl⟩)
    go_ret
    exact ⟨rfl, hb0.out⟩
end
end Go.Proofs.YtijkdabmegbcjaaGreatDoor
