/- Texts of this claim, merged; no condition. -/
import Derived.Test.YtijkdabmegbcjaaGreatDoorT02
import Derived.Test.YtijkdabmegbcjaaGreatDoorT32
import Derived.Test.YtijkdabmegbcjaaGreatDoorT29
import Derived.Test.YtijkdabmegbcjaaGreatDoorTA
set_option linter.all false
namespace Go.Proofs.YtijkdabmegbcjaaGreatDoor
section
inductive Way (nx : Nat → List Nat) (ex : Nat → Bool) : Nat → List Nat → Prop
  | out {k : Nat} : ex k = true → Way nx ex k [k]
  | step {k j : Nat} {l : List Nat} : j ∈ nx k → Way nx ex j l → Way nx ex k (k :: l)
def Ends (nx : Nat → List Nat) (ex : Nat → Bool) (k : Nat) : Prop := ∃ l, Way nx ex k l
def Beh (nx : Nat → List Nat) (ex : Nat → Bool) (k b : Nat) : Prop := Ends nx ex k ∧ ∀ l, Way nx ex k l → b ∈ l
inductive RchA (nx : Nat → List Nat) (but : Int) : Nat → Nat → Prop
  | here {a : Nat} : (a : Int) ≠ but → RchA nx but a a
  | go {a c b : Nat} : (a : Int) ≠ but → c ∈ nx a → RchA nx but c b → RchA nx but a b
section
variable {nx : Nat → List Nat} {ex : Nat → Bool}
theorem Way.first {k : Nat} {l : List Nat} (h : Way nx ex k l) : k ∈ l := by cases h <;> simp
theorem Way.cut {k b : Nat} {l : List Nat} (h : Way nx ex k l) (hb : b ∈ l) : ∃ l', Way nx ex b l' ∧ (∀ x ∈ l', x ∈ l) ∧ l'.length ≤ l.length ∧ (b ≠ k → l'.length < l.length) := by
  induction h with
  | out he =>
    simp at hb
    subst hb
    exact ⟨_, .out he, fun _ h => h, Nat.le_refl _, fun h => absurd rfl h⟩
  | @step k j l hj hw ih =>
    rcases List.mem_cons.1 hb with e | e
    · subst e
      exact ⟨_, .step hj hw, fun _ h => h, Nat.le_refl _, fun h => absurd rfl h⟩
    · obtain ⟨l', h1, h2, h3, h4⟩ := ih e
      exact ⟨l', h1, fun x hx => List.mem_cons_of_mem _ (h2 x hx), by simp; omega, fun _ => by simp; omega⟩
theorem Beh.self {k : Nat} (h : Ends nx ex k) : Beh nx ex k k := ⟨h, fun _ hl => hl.first⟩
theorem Beh.ends {k b : Nat} (h : Beh nx ex k b) : Ends nx ex b := by
  obtain ⟨⟨l, hl⟩, h2⟩ := h
  obtain ⟨l', h', -⟩ := hl.cut (h2 l hl)
  exact ⟨l', h'⟩
theorem Beh.trans {k a b : Nat} (h : Beh nx ex k a) (h2 : Beh nx ex a b) : Beh nx ex k b := by
  refine ⟨h.1, fun l hl => ?_⟩
  obtain ⟨l', h', hs, -⟩ := hl.cut (h.2 l hl)
  exact hs b (h2.2 l' h')
theorem Beh.anti {k a : Nat} (h : Beh nx ex k a) (h2 : Beh nx ex a k) : a = k := by
  by_cases e : a = k
  · exact e
  · exfalso
    have key : ∀ n l, Way nx ex k l → l.length ≤ n → False := by
      intro n
      induction n with
      | zero =>
        intro l hl hn
        cases hl <;> simp at hn
      | succ n ih =>
        intro l hl hn
        obtain ⟨l', h', -, -, hlt⟩ := hl.cut (h.2 l hl)
        obtain ⟨l2, h3, -, hle, -⟩ := h'.cut (h2.2 l' h')
        have := hlt e
        exact ih l2 h3 (by omega)
    obtain ⟨⟨l, hl⟩, -⟩ := h
    exact key _ l hl (Nat.le_refl _)
theorem Beh.fix {k b : Nat} (h : Beh nx ex k b) : b = k ∨ (ex k = false ∧ ∀ j ∈ nx k, Ends nx ex j → Beh nx ex j b) := by
  by_cases e : b = k
  · exact .inl e
  · right
    constructor
    · cases hx : ex k with
      | false => rfl
      | true => have := h.2 _ (.out hx); simp at this; exact absurd this e
    · intro j hj hE
      refine ⟨hE, fun l hl => ?_⟩
      rcases List.mem_cons.1 (h.2 _ (.step hj hl)) with e2 | e2
      · exact absurd e2 e
      · exact e2
theorem beh_of {B : Nat → Nat → Prop} (hB : ∀ k b, Ends nx ex k → B k b → b = k ∨ (ex k = false ∧ ∀ j ∈ nx k, Ends nx ex j → B j b)) {k b : Nat} (hE : Ends nx ex k) (h : B k b) : Beh nx ex k b := by
  refine ⟨hE, fun l hl => ?_⟩
  clear hE
  induction hl with
  | @out k hx =>
    rcases hB _ b ⟨_, .out hx⟩ h with e | ⟨e, -⟩
    · simp [e]
    · rw [hx] at e; cases e
  | @step k j l hj hw ih =>
    rcases hB k b ⟨_, .step hj hw⟩ h with e | ⟨-, e⟩
    · simp [e]
    · exact List.mem_cons_of_mem _ (ih (e j hj ⟨l, hw⟩))
theorem ends_fix {k : Nat} : Ends nx ex k ↔ ex k = true ∨ ∃ j ∈ nx k, Ends nx ex j := by
  constructor
  · rintro ⟨l, hl⟩
    cases hl with
    | out h => exact .inl h
    | step hj hw => exact .inr ⟨_, hj, _, hw⟩
  · rintro (h | ⟨j, hj, l, hl⟩)
    · exact ⟨_, .out h⟩
    · exact ⟨_, .step hj hl⟩
theorem ends_in {S : Nat → Prop} {D : Nat → Prop} (hD : ∀ k, D k → ∀ j ∈ nx k, D j) (hS : ∀ k, D k → (ex k = true ∨ ∃ j ∈ nx k, S j) → S k) {k : Nat} (hk : D k) (h : Ends nx ex k) : S k := by
  obtain ⟨l, hl⟩ := h
  induction hl with
  | out h => exact hS _ hk (.inl h)
  | step hj hw ih => exact hS _ hk (.inr ⟨_, hj, ih (hD _ hk _ hj)⟩)
theorem RchA.ne {but : Int} {a b : Nat} (h : RchA nx but a b) : (a : Int) ≠ but := by cases h <;> assumption
theorem way_iff {but : Int} {a : Nat} : (∃ x, RchA nx but a x ∧ ex x = true) ↔ ∃ l, Way nx ex a l ∧ ∀ y ∈ l, (y : Int) ≠ but := by
  constructor
  · rintro ⟨x, h, hx⟩
    induction h with
    | here h => exact ⟨_, .out hx, by simpa using h⟩
    | go h1 h2 _ ih =>
      obtain ⟨l, hl, hn⟩ := ih hx
      exact ⟨_, .step h2 hl, fun y hy => (List.mem_cons.1 hy).elim (fun e => by rw [e]; exact h1) (hn y)⟩
  · rintro ⟨l, hl, hn⟩
    induction hl with
    | out h => exact ⟨_, .here (hn _ (by simp)), h⟩
    | step hj hw ih =>
      obtain ⟨x, h1, h2⟩ := ih fun y hy => hn y (List.mem_cons_of_mem _ hy)
      exact ⟨x, .go (hn _ (by simp)) hj h1, h2⟩
theorem beh_not {k b : Nat} : Beh nx ex k b ↔ Ends nx ex k ∧ ¬ ∃ x, RchA nx (b : Int) k x ∧ ex x = true := by
  rw [way_iff]
  unfold Beh
  refine and_congr_right fun _ => ⟨fun h => ?_, fun h l hl => ?_⟩
  · rintro ⟨l, hl, hn⟩
    exact hn b (h l hl) rfl
  · by_cases e : b ∈ l
    · exact e
    · exact absurd ⟨l, hl, fun y hy e2 => e (by rw [← Int.ofNat_inj.1 e2]; exact hy)⟩ h
theorem filter_len {p q : Nat → Bool} : ∀ {l : List Nat}, (∀ x ∈ l, p x = true → q x = true) → (l.filter p).length ≤ (l.filter q).length ∧ ((l.filter q).length ≤ (l.filter p).length → ∀ x ∈ l, q x = true → p x = true)
  | [], _ => by simp
  | y :: l, h => by
    obtain ⟨h1, h2⟩ := filter_len (l := l) fun x hx => h x (by simp [hx])
    have hy := h y (by simp)
    cases hp : p y with
    | true =>
      rw [hp] at hy
      have hq := hy rfl
      rw [List.filter_cons_of_pos hp, List.filter_cons_of_pos hq]
      refine ⟨by simpa using h1, fun hl x hx hqx => ?_⟩
      rcases List.mem_cons.1 hx with e | e
      · rw [e]; exact hp
      · exact h2 (by simpa using hl) x e hqx
    | false =>
      rw [List.filter_cons_of_neg (by rw [hp]; decide)]
      cases hq : q y with
      | true =>
        rw [List.filter_cons_of_pos hq]
        refine ⟨by simp; omega, fun hl => ?_⟩
        simp at hl; omega
      | false =>
        rw [List.filter_cons_of_neg (by rw [hq]; decide)]
        refine ⟨h1, fun hl x hx hqx => ?_⟩
        rcases List.mem_cons.1 hx with e | e
        · rw [e] at hqx; rw [hqx] at hq; cases hq
        · exact h2 hl x e hqx
theorem filter_less {p : Nat → Bool} {k : Nat} : ∀ {l : List Nat}, l.Nodup → k ∈ l → p k = true → (l.filter fun x => p x && x != k).length + 1 = (l.filter p).length
  | [], _, h, _ => by simp at h
  | y :: l, hn, hk, hp => by
    rw [List.nodup_cons] at hn
    by_cases e : y = k
    · subst e
      rw [List.filter_cons_of_pos hp, List.filter_cons_of_neg (by simp), List.length_cons]
      congr 2
      refine List.filter_congr fun x hx => ?_
      have : x ≠ y := fun e => hn.1 (by rw [← e]; exact hx)
      simp [this]
    · have hk' : k ∈ l := by
        rcases List.mem_cons.1 hk with h | h
        · exact absurd h.symm e
        · exact h
      have ih := filter_less (p := p) hn.2 hk' hp
      cases hpy : p y with
      | true =>
        rw [List.filter_cons_of_pos hpy, List.filter_cons_of_pos (by simp [hpy, e]), List.length_cons, List.length_cons, ih]
      | false =>
        rw [List.filter_cons_of_neg (by simp [hpy]), List.filter_cons_of_neg (by simp [hpy]), ih]
section
variable {ks : List Nat} {bh : Nat → Nat → Bool}
theorem behind_less (hn : ks.Nodup) (hb : ∀ k b, bh k b = true ↔ Beh nx ex k b) {k to : Nat} (hk : k ∈ ks) (hto : bh k to = true) (hne : to ≠ k) :
    (ks.filter (bh to)).length + 1 ≤ (ks.filter (bh k)).length ∧ ((ks.filter (bh to)).length + 1 = (ks.filter (bh k)).length → ∀ b ∈ ks, bh k b = true → b ≠ k → bh to b = true) := by
  have hB := (hb k to).1 hto
  have hkk : bh k k = true := (hb k k).2 (.self hB.1)
  have hl := filter_less hn hk hkk
  have hs : ∀ x ∈ ks, bh to x = true → (bh k x && x != k) = true := fun x _ hx => by
    have hx' := (hb to x).1 hx
    rw [Bool.and_eq_true]
    refine ⟨(hb k x).2 (hB.trans hx'), ?_⟩
    rw [bne_iff_ne]
    rintro rfl
    exact hne (hB.anti hx')
  obtain ⟨h1, h2⟩ := filter_len hs
  refine ⟨by omega, fun he b hbk h3 h4 => h2 (by omega) b hbk ?_⟩
  simp [h3, h4]
theorem meet_one (hn : ks.Nodup) (hb : ∀ k b, bh k b = true ↔ Beh nx ex k b) {k a b : Nat} (hk : k ∈ ks) (ha : a ∈ ks) (hbk : b ∈ ks) (h1 : bh k a = true) (h2 : a ≠ k) (h3 : (ks.filter (bh a)).length + 1 = (ks.filter (bh k)).length) (h4 : bh k b = true) (h5 : b ≠ k) (h6 : (ks.filter (bh b)).length + 1 = (ks.filter (bh k)).length) : a = b := by
  have e1 := (behind_less hn hb hk h1 h2).2 h3 b hbk h4 h5
  have e2 := (behind_less hn hb hk h4 h5).2 h6 a ha h1 h2
  exact ((hb b a).1 e2).anti ((hb a b).1 e1)
end
end
end
section
abbrev KnS := List (Nat × Option StN)
def lookK : KnS → Nat → Option (Option StN)
  | [], _ => none
  | e :: σ, k => if k = e.1 then some e.2 else lookK σ k
def blkOf (bs : List BlkN) (k : Nat) : BlkN := (findB bs k).getD blk0
def manyG (g : KnS → Nat → Option (StN × KnS)) : KnS → List Nat → Option (List StN × KnS)
  | σ, [] => some ([], σ)
  | σ, k :: r => match g σ k with
    | none => none
    | some (s, σ1) => match manyG g σ1 r with
      | none => none
      | some (l, σ2) => some (s :: l, σ2)
def sidesG (g : KnS → Nat → Option (StN × KnS)) (σ : KnS) (next : List Nat) : Option (StN × KnS) := match manyG g σ next with
  | none => none
  | some (l, σ1) => match foldO l with
    | none => none
    | some s => some (s, σ1)
def fromF (cs : List Nat) (bs : List BlkN) (en : Nat) : Nat → KnS → Nat → Option (StN × KnS)
  | 0, _, _ => none
  | f + 1, σ, k => if k = en then some (zeroS, σ) else match lookK σ k with
    | some (some s) => some (s, σ)
    | some none => none
    | none => match aloneS cs (blkOf bs k) with
      | none => none
      | some a => match sidesG (fromF cs bs en f) ((k, none) :: σ) (blkOf bs k).next with
        | none => none
        | some (r, σ2) => some (thenS a r, (k, some (thenS a r)) :: σ2)
inductive Wt (cs : List Nat) (bs : List BlkN) (en : Nat) : Nat → Nat → StN → Prop
  | stop (n : Nat) : Wt cs bs en n en zeroS
  | go (n k : Nat) (a : StN) (l : List StN) (r : StN) : k ≠ en → aloneS cs (blkOf bs k) = some a → l.length = (blkOf bs k).next.length →
      (∀ i (h : i < (blkOf bs k).next.length) (h' : i < l.length), Wt cs bs en n (blkOf bs k).next[i] l[i]) → foldO l = some r → Wt cs bs en (n + 1) k (thenS a r)
theorem Wt.up {cs : List Nat} {bs : List BlkN} {en n k : Nat} {s : StN} (h : Wt cs bs en n k s) : ∀ m, n ≤ m → Wt cs bs en m k s := by
  induction h with
  | stop n => exact fun m _ => .stop m
  | go n k a l r h1 h2 h3 h4 h5 ih =>
    intro m hm
    obtain ⟨m', rfl⟩ : ∃ m', m = m' + 1 := ⟨m - 1, by omega⟩
    exact .go m' k a l r h1 h2 h3 (fun i h h' => ih i h h' m' (by omega)) h5
def dnK (σ : KnS) : Nat := (σ.filter fun e => e.2.isSome).length
def keyK (σ : KnS) : List Nat := (σ.filter fun e => e.2.isSome).map (·.1)
structure InvK (cs : List Nat) (bs : List BlkN) (en : Nat) (σ : KnS) : Prop where
  wt : ∀ k s, lookK σ k = some (some s) → Wt cs bs en (dnK σ) k s
  nd : (keyK σ).Nodup
  look : ∀ k, k ∈ keyK σ → ∃ s, lookK σ k = some (some s)
  mem : ∀ k, (lookK σ k).isSome = true → k ∈ bs.map (·.first)
theorem lookK_cons (e : Nat × Option StN) (σ : KnS) (k : Nat) : lookK (e :: σ) k = if k = e.1 then some e.2 else lookK σ k := rfl
theorem keyK_some (k : Nat) (s : StN) (σ : KnS) : keyK ((k, some s) :: σ) = k :: keyK σ := by simp [keyK]
theorem keyK_none (k : Nat) (σ : KnS) : keyK ((k, none) :: σ) = keyK σ := by simp [keyK]
theorem dnK_len (σ : KnS) : dnK σ = (keyK σ).length := by simp [dnK, keyK]
theorem dnK_some (k : Nat) (s : StN) (σ : KnS) : dnK ((k, some s) :: σ) = dnK σ + 1 := by rw [dnK_len, dnK_len, keyK_some]; simp
theorem dnK_none (k : Nat) (σ : KnS) : dnK ((k, none) :: σ) = dnK σ := by rw [dnK_len, dnK_len, keyK_none]
theorem InvK.dn {cs : List Nat} {bs : List BlkN} {en : Nat} {σ : KnS} (h : InvK cs bs en σ) : dnK σ ≤ bs.length := by
  rw [dnK_len]
  have h1 : (keyK σ).length ≤ (bs.map (·.first)).length := h.nd.length_le_of_subset fun k hk => by
    obtain ⟨s, hs⟩ := h.look k hk
    exact h.mem k (by rw [hs]; rfl)
  simpa using h1
theorem InvK.nil (cs : List Nat) (bs : List BlkN) (en : Nat) : InvK cs bs en [] := ⟨fun _ _ h => (by cases h), List.nodup_nil, fun _ h => (by cases h), fun _ h => (by cases h)⟩
theorem InvK.open_ {cs : List Nat} {bs : List BlkN} {en : Nat} {σ : KnS} (h : InvK cs bs en σ) {k : Nat} (hk : lookK σ k = none) (hm : k ∈ bs.map (·.first)) : InvK cs bs en ((k, none) :: σ) := by
  have hne : ∀ j s, lookK ((k, none) :: σ) j = some (some s) → lookK σ j = some (some s) := fun j s e => by
    rw [lookK_cons] at e
    split at e
    · cases e
    · exact e
  refine ⟨fun j s e => ?_, by rw [keyK_none]; exact h.nd, fun j hj => ?_, fun j hj => ?_⟩
  · rw [dnK_none]; exact h.wt j s (hne j s e)
  · rw [keyK_none] at hj
    obtain ⟨s, hs⟩ := h.look j hj
    refine ⟨s, ?_⟩
    rw [lookK_cons, if_neg (fun e => by simp only at e; rw [e, hk] at hs; cases hs)]
    exact hs
  · rw [lookK_cons] at hj
    split at hj
    · rename_i e; simp only at e; rw [e]; exact hm
    · exact h.mem j hj
theorem InvK.close {cs : List Nat} {bs : List BlkN} {en : Nat} {σ : KnS} (h : InvK cs bs en σ) {k : Nat} {s : StN} (hk : lookK σ k = some none) (hw : Wt cs bs en (dnK σ + 1) k s) : InvK cs bs en ((k, some s) :: σ) := by
  refine ⟨fun j t e => ?_, ?_, fun j hj => ?_, fun j hj => ?_⟩
  · rw [dnK_some]
    rw [lookK_cons] at e
    split at e
    · rename_i e2
      simp only at e2
      cases e
      rw [e2]; exact hw
    · exact (h.wt j t e).up _ (by omega)
  · rw [keyK_some, List.nodup_cons]
    refine ⟨fun hm => ?_, h.nd⟩
    obtain ⟨t, ht⟩ := h.look k hm
    rw [hk] at ht; cases ht
  · rw [keyK_some] at hj
    by_cases e : j = k
    · exact ⟨s, by rw [lookK_cons, if_pos e]⟩
    · obtain ⟨t, ht⟩ := h.look j ((List.mem_cons.1 hj).resolve_left e)
      exact ⟨t, by rw [lookK_cons, if_neg e]; exact ht⟩
  · rw [lookK_cons] at hj
    split at hj
    · rename_i e; simp only at e; rw [e]; exact h.mem k (by rw [hk]; rfl)
    · exact h.mem j hj
def GrowK (σ σ' : KnS) : Prop := (∀ k, lookK σ k = some none → lookK σ' k = some none) ∧ (∀ k s, lookK σ k = some (some s) → lookK σ' k = some (some s)) ∧ dnK σ ≤ dnK σ'
theorem GrowK.refl (σ : KnS) : GrowK σ σ := ⟨fun _ h => h, fun _ _ h => h, Nat.le_refl _⟩
theorem GrowK.trans {a b c : KnS} (h : GrowK a b) (k : GrowK b c) : GrowK a c := ⟨fun j e => k.1 j (h.1 j e), fun j s e => k.2.1 j s (h.2.1 j s e), Nat.le_trans h.2.2 k.2.2⟩
theorem GrowK.isSome {σ σ' : KnS} (h : GrowK σ σ') {k : Nat} (hk : (lookK σ k).isSome = true) : (lookK σ' k).isSome = true := by
  cases e : lookK σ k with
  | none => rw [e] at hk; cases hk
  | some o => cases o with
    | none => rw [h.1 k e]; rfl
    | some s => rw [h.2.1 k s e]; rfl
def unK (bs : List BlkN) (σ : KnS) : Nat := bs.countP fun B => (lookK σ B.first).isNone
theorem unK_le {bs : List BlkN} {σ σ' : KnS} (h : GrowK σ σ') : unK bs σ' ≤ unK bs σ := by
  refine List.countP_mono_left fun B _ hB => ?_
  cases e : lookK σ B.first with
  | none => rfl
  | some o =>
    have := h.isSome (k := B.first) (by rw [e]; rfl)
    cases e2 : lookK σ' B.first with
    | none => rw [e2] at this; cases this
    | some o2 => rw [e2] at hB; cases hB
theorem countP_less {α : Type} {p q : α → Bool} : ∀ {l : List α} {x : α}, x ∈ l → p x = true → q x = false → (∀ y ∈ l, q y = true → p y = true) → l.countP q < l.countP p
  | [], _, h, _, _, _ => by cases h
  | y :: l, x, h, hp, hq, hm => by
    rw [List.countP_cons, List.countP_cons]
    have hle : l.countP q ≤ l.countP p := List.countP_mono_left fun z hz hqz => hm z (List.mem_cons_of_mem _ hz) hqz
    rcases List.mem_cons.1 h with rfl | h
    · rw [hp, hq]; simp; omega
    · have := countP_less h hp hq fun z hz => hm z (List.mem_cons_of_mem _ hz)
      have hy := hm y (by simp)
      cases e1 : q y with
      | false => simp; omega
      | true => rw [hy e1]; simp; omega
theorem unK_open {bs : List BlkN} {σ : KnS} {k : Nat} (hk : lookK σ k = none) (hm : k ∈ bs.map (·.first)) : unK bs ((k, none) :: σ) < unK bs σ := by
  obtain ⟨B, hB, rfl⟩ := List.mem_map.1 hm
  refine countP_less hB (by rw [hk]; rfl) (by rw [lookK_cons, if_pos rfl]; rfl) fun C _ hC => ?_
  rw [lookK_cons] at hC
  split at hC
  · cases hC
  · exact hC
def SoundG (cs : List Nat) (bs : List BlkN) (en : Nat) (g : KnS → Nat → Option (StN × KnS)) : Prop :=
  ∀ σ k s σ', InvK cs bs en σ → (k ∈ bs.map (·.first)) → g σ k = some (s, σ') → InvK cs bs en σ' ∧ GrowK σ σ' ∧ Wt cs bs en (dnK σ') k s
theorem many_sound {cs : List Nat} {bs : List BlkN} {en : Nat} {g : KnS → Nat → Option (StN × KnS)} (hg : SoundG cs bs en g) : ∀ (next : List Nat) (σ : KnS) (l : List StN) (σ' : KnS), InvK cs bs en σ → (∀ k ∈ next, k ∈ bs.map (·.first)) → manyG g σ next = some (l, σ') →
    InvK cs bs en σ' ∧ GrowK σ σ' ∧ l.length = next.length ∧ ∀ i (h : i < next.length) (h' : i < l.length), Wt cs bs en (dnK σ') next[i] l[i]
  | [], σ, l, σ', hi, _, h => by
    cases h
    exact ⟨hi, .refl _, rfl, fun i h => by simp at h⟩
  | k :: r, σ, l, σ', hi, hm, h => by
    unfold manyG at h
    cases h1 : g σ k with
    | none => rw [h1] at h; cases h
    | some x =>
      obtain ⟨s, σ1⟩ := x
      rw [h1] at h
      dsimp only at h
      cases h2 : manyG g σ1 r with
      | none => rw [h2] at h; cases h
      | some y =>
        obtain ⟨l', σ2⟩ := y
        rw [h2] at h
        cases h
        obtain ⟨i1, i2, i3⟩ := hg σ k s σ1 hi (hm k (by simp)) h1
        obtain ⟨j1, j2, j3, j4⟩ := many_sound hg r σ1 l' σ' i1 (fun x hx => hm x (List.mem_cons_of_mem _ hx)) h2
        refine ⟨j1, i2.trans j2, by simp [j3], fun i h h' => ?_⟩
        cases i with
        | zero => exact i3.up _ j2.2.2
        | succ i => exact j4 i (by simpa using h) (by simpa using h')
theorem from_sound {cs : List Nat} {bs : List BlkN} {en : Nat} (hnx : ∀ k ∈ bs.map (·.first), ∀ x ∈ (blkOf bs k).next, x ∈ bs.map (·.first)) : ∀ f, SoundG cs bs en (fromF cs bs en f)
  | 0 => fun σ k s σ' _ _ h => by cases h
  | f + 1 => fun σ k s σ' hi hk h => by
    unfold fromF at h
    by_cases hen : k = en
    · rw [if_pos hen] at h
      cases h
      rw [hen]
      exact ⟨hi, .refl _, .stop _⟩
    · rw [if_neg hen] at h
      cases hl : lookK σ k with
      | some o => cases o with
        | some t =>
          rw [hl] at h
          cases h
          exact ⟨hi, .refl _, hi.wt k _ hl⟩
        | none => rw [hl] at h; cases h
      | none =>
        rw [hl] at h
        dsimp only at h
        cases ha : aloneS cs (blkOf bs k) with
        | none => rw [ha] at h; cases h
        | some a =>
          rw [ha] at h
          dsimp only at h
          unfold sidesG at h
          cases hm : manyG (fromF cs bs en f) ((k, none) :: σ) (blkOf bs k).next with
          | none => rw [hm] at h; cases h
          | some x =>
            obtain ⟨l, σ1⟩ := x
            rw [hm] at h
            dsimp only at h
            cases hf : foldO l with
            | none => rw [hf] at h; cases h
            | some r =>
              rw [hf] at h
              cases h
              have hi0 := hi.open_ hl hk
              obtain ⟨j1, j2, j3, j4⟩ := many_sound (from_sound hnx f) _ _ l σ1 hi0 (hnx k hk) hm
              have hk1 : lookK σ1 k = some none := j2.1 k (by rw [lookK_cons, if_pos rfl])
              have hw : Wt cs bs en (dnK σ1 + 1) k (thenS a r) := .go _ k a l r hen ha j3 j4 hf
              refine ⟨j1.close hk1 hw, ⟨fun j e => ?_, fun j t e => ?_, ?_⟩, by rw [dnK_some]; exact hw⟩
              · have hjk : j ≠ k := fun e2 => by rw [e2, hl] at e; cases e
                rw [lookK_cons, if_neg hjk]
                exact j2.1 j (by rw [lookK_cons, if_neg hjk]; exact e)
              · have hjk : j ≠ k := fun e2 => by rw [e2, hl] at e; cases e
                rw [lookK_cons, if_neg hjk]
                exact j2.2.1 j t (by rw [lookK_cons, if_neg hjk]; exact e)
              · rw [dnK_some]
                have := j2.2.2
                rw [dnK_none] at this
                omega
theorem sm_alF {cs : List Nat} {B : BlkN} (hok : ∀ b ∈ cs, b < 256) : ∀ (l : List Nat) (s t : StN) (A : Int), SmS A s → alF cs B l (some s) = some t → SmS (A + 32000 * l.length) t
  | [], s, t, A, h, e => by cases e; simpa using h
  | x :: l, s, t, A, h, e => by
    have e2 : alF cs B (x :: l) (some s) = alF cs B l (if B.first ≤ x ∧ x ≤ B.last then (opS cs x).map (thenS s) else some s) := rfl
    rw [e2] at e
    have hl : (A + 32000) + 32000 * (l.length : Int) = A + 32000 * ((x :: l).length : Int) := by simp; omega
    rw [← hl]
    split at e
    · cases ho : opS cs x with
      | none => rw [ho] at e; simp only [Option.map_none] at e; rw [alF_none] at e; cases e
      | some y =>
        rw [ho] at e
        exact sm_alF hok l (thenS s y) t _ (sm_then h (sm_op hok ho)) e
    · exact sm_alF hok l s t _ (sm_up h (by omega)) e
theorem sm_alone {cs : List Nat} {B : BlkN} {a : StN} (hok : ∀ b ∈ cs, b < 256) (hl : cs.length ≤ 200) (h : aloneS cs B = some a) : SmS 6400000 a := by
  unfold aloneS at h
  split at h
  · cases h
  · have := sm_alF hok _ _ _ 0 sm_zero h
    have h2 := opsL_len cs
    exact sm_up this (by omega)
theorem sm_foldR {A : Int} : ∀ (r : List StN) (s t : StN), SmS A s → (∀ x ∈ r, SmS A x) → foldR r s = some t → SmS A t
  | [], s, t, h, _, e => by cases e; exact h
  | x :: r, s, t, h, hr, e => by
    unfold foldR at e
    split at e
    · exact sm_foldR r _ t (sm_or h (hr x (by simp))) (fun y hy => hr y (List.mem_cons_of_mem _ hy)) e
    · cases e
theorem sm_foldO {A : Int} {l : List StN} {t : StN} (h : ∀ x ∈ l, SmS A x) (e : foldO l = some t) : SmS A t := by
  cases l with
  | nil => cases e
  | cons s r => exact sm_foldR r s t (h s (by simp)) (fun y hy => h y (List.mem_cons_of_mem _ hy)) e
theorem sm_wt {cs : List Nat} {bs : List BlkN} {en n k : Nat} {s : StN} (hok : ∀ b ∈ cs, b < 256) (hl : cs.length ≤ 200) (h : Wt cs bs en n k s) : SmS (6400000 * n) s := by
  induction h with
  | stop n => exact sm_up sm_zero (by omega)
  | go n k a l r h1 h2 h3 h4 h5 ih =>
    have ha := sm_alone hok hl h2
    have hr : SmS (6400000 * (n : Int)) r := sm_foldO (fun x hx => by
      obtain ⟨i, hi, rfl⟩ := List.getElem_of_mem hx
      exact ih i (by omega) hi) h5
    have e : 6400000 * ((n + 1 : Nat) : Int) = 6400000 + 6400000 * (n : Int) := by omega
    rw [e]
    exact sm_then ha hr
end
section
open Go.RowKit Go.Shelf
theorem at1_any (x y : Nat) (n : Int) (nb : Nat) (w : World) (hc : w.cell? ⟨nb, 0, none⟩ = some (.int .i64 n)) :
    Calls Tryz.prog 46 #[.agg #[.int .i64 x, .int .u8 y], .pointer (some ⟨nb, 0, none⟩)] w fun e w' => e = .returned (.bool ((x : Int) == n)) ∧ Below w.heap.size w w' := by
  have hX0 : Hid (BlkG (w.alloc (.cells #[.int .i64 x, .int .u8 y] 81)) w.heap.size 81 [.int .i64 x, .int .u8 y]) := qh (BlkG.new w _ [.int .i64 x, .int .u8 y])
  have hb0 : Hid (Below w.heap.size w (w.alloc (.cells #[.int .i64 x, .int .u8 y] 81))) := qh (xalloc (xrefl w) _)
  have hc0 : (w.alloc (.cells #[.int .i64 x, .int .u8 y] 81)).cell? ⟨w.heap.size, 0, none⟩ = some (.int .i64 x) := by simpa using hX0.out.range 0 _ rfl
  have hc1 : (w.alloc (.cells #[.int .i64 x, .int .u8 y] 81)).cell? ⟨nb, 0, none⟩ = some (.int .i64 n) := cbel hb0.out hc
  replace hc := qh hc
  by_cases e : (x : Int) = n
  · have hbt : ((x : Int) == n) = true := by simpa using e
    rw [hbt]
    replace e := qh e
    go_enter Tryz.func46, Tryz.ntmps46
    go_wp2
    go_ret
    exact ⟨by first | rfl | simp [hbt], hb0.out⟩
  · have hbt : ((x : Int) == n) = false := by simpa using e
    rw [hbt]
    go_enter Tryz.func46, Tryz.ntmps46
    go_wp2
    go_ret
    exact ⟨by first | rfl | simp [hbt], hb0.out⟩
theorem inN_at {l : List Nat} {n : Int} {i : Nat} (hi : i < l.length) (e : ((l[i] : Nat) : Int) = n) : inN l n = true := by
  unfold inN
  rw [List.any_eq_true]
  exact ⟨l[i], List.getElem_mem hi, by simpa using e⟩
theorem inN_no {l : List Nat} {n : Int} (h : ∀ j (hj : j < l.length), ((l[j] : Nat) : Int) ≠ n) : inN l n = false := by
  unfold inN
  rw [List.any_eq_false]
  intro x hx
  obtain ⟨j, hj, rfl⟩ := List.getElem_of_mem hx
  simpa using h j hj
set_option maxRecDepth 100000 in
set_option maxHeartbeats 4000000 in
theorem indexF_any (cs l : List Nat) (n : Int) (nb : Nat) (p : Option Addr) (q : Nat) (w : World) (h : OpsAt w p q cs l) (hl : l.length ≤ 200) (hc : w.cell? ⟨nb, 0, none⟩ = some (.int .i64 n)) :
    Calls Tryz.prog 83 #[.slice p l.length q, .func (.func 46) #[] #[.pointer (some ⟨nb, 0, none⟩)]] w fun e w' => (∃ r : Int, e = .returned (.int .i64 r) ∧ decide (0 ≤ r) = inN l n) ∧ Below w.heap.size w w' := by
  have hat := qh fun x y W (hW : Below w.heap.size w W) => at1_any x y n nb W (cbel hW hc)
  have huo := Tryz.underlying81
  replace h := qh h
  replace hc := qh hc
  go_enter Tryz.func83, Tryz.ntmps83
  go_wp2
  go_loopw [8] (fun iv wx => ∃ i : Nat, i ≤ l.length ∧ iv = .int .i64 i ∧ Hid (∀ j (h : j < i) (h2 : j < l.length), ((l[j] : Nat) : Int) ≠ n) ∧ Hid (Below w.heap.size w wx)) (fun iv _ => l.length - (intOf iv).toNat)
  case atStart => exact ⟨0, by omega, rfl, qh (fun j h => absurd h (by omega)), qh (xrefl _)⟩
  case round =>
    obtain ⟨i, hi, rfl, hN, hb⟩ := hrel
    by_cases hlt : i < l.length
    · have hltI : (i : Int) < l.length := by omega
      have hin := qh (inN_at (n := n) hlt)
      have hN1 : Hid (((l[i] : Nat) : Int) ≠ n → ∀ j (h : j < i + 1) (h2 : j < l.length), ((l[j] : Nat) : Int) ≠ n) := qh fun hne j hj h2 => by
        by_cases e : j = i
        · subst e; exact hne
        · exact hN.out j (by omega) h2
      obtain ⟨b, o, rfl, hr⟩ := h.out.elt i hlt
      have hr0 := rangeAt_below hr hb.out
      unfold opC at hr0
      replace hr := qh hr
      have hwi : IntKind.i64.wrap ((i : Int) + 1) = (i : Int) + 1 := by simp [IntKind.wrap, IntKind.bits, IntKind.signed]; omega
      generalize byN cs l[i] = y at *
      generalize l[i] = x at *
      have hat1 := hat.out x y wr hb.out
      by_cases e : (x : Int) = n
      · have hbt : ((x : Int) == n) = true := by simpa using e
        rw [hbt] at hat1
        replace hat1 := qh hat1
        replace hin := qh (hin.out e)
        replace e := qh e
        clear hN1
        go_wp2_with (first
          | (refine wpList_load_mid rfl 81 _ rfl b (o + i * 2) rfl [.int .i64 x, .int .u8 y] _ hr0 huo rfl (by kernel_rfl) ?_)
          | (go_at_call 46; refine hat1.out.mono ?_; rintro e w2 ⟨rfl, hb2⟩; replace hb2 := qh (xtrans hb.out hb2)))
        go_ret
        exact ⟨⟨i, rfl, by rw [hin.out]; simp⟩, hb2.out⟩
      · have hbt : ((x : Int) == n) = false := by simpa using e
        rw [hbt] at hat1
        replace hat1 := qh hat1
        replace hN1 := qh (hN1.out e)
        replace e := qh e
        clear hin
        go_wp2_with (first
          | (refine wpList_load_mid rfl 81 _ rfl b (o + i * 2) rfl [.int .i64 x, .int .u8 y] _ hr0 huo rfl (by kernel_rfl) ?_)
          | (go_at_call 46; refine hat1.out.mono ?_; rintro e w2 ⟨rfl, hb2⟩; replace hb2 := qh (xtrans hb.out hb2)))
        exact ⟨⟨i + 1, by omega, by go_num, hN1, hb2⟩, by simp [intOf]; omega⟩
    · obtain rfl : i = l.length := by omega
      have hf := qh (inN_no fun j hj => hN.out j hj hj)
      clear hlt
      go_wp2
      go_ret
      exact ⟨⟨-1, rfl, by rw [hf.out]; rfl⟩, hb.out⟩
theorem containsF_any (cs l : List Nat) (n : Int) (nb : Nat) (p : Option Addr) (q : Nat) (w : World) (h : OpsAt w p q cs l) (hl : l.length ≤ 200) (hc : w.cell? ⟨nb, 0, none⟩ = some (.int .i64 n)) :
    Calls Tryz.prog 45 #[.slice p l.length q, .func (.func 46) #[] #[.pointer (some ⟨nb, 0, none⟩)]] w fun e w' => e = .returned (.bool (inN l n)) ∧ Below w.heap.size w w' := by
  have hi := qh (indexF_any cs l n nb p q w h hl hc)
  clear h hc
  go_enter Tryz.func45, Tryz.ntmps45
  go_wp2_with (go_at_call 83; refine hi.out.mono ?_; rintro e w' ⟨⟨r, rfl, hr⟩, hb⟩; replace hr := qh hr; replace hb := qh hb)
  go_ret
  exact ⟨by rw [← hr.out]; rfl, hb.out⟩
set_option maxRecDepth 100000 in
set_option maxHeartbeats 4000000 in
theorem at_any (cs : List Nat) (n : Int) (a : Option Addr) (c : Nat) (w : World) (h : CodeAt w a c cs) :
    Calls Tryz.prog 16 #[.slice a cs.length c, .int .i64 n] w fun e w' => e = .returned (atV (atZ cs n)) ∧ Below w.heap.size w w' := by
  have hgl : (grps cs).length ≤ 200 := by have := grps_len cs; have := h.len; omega
  have hX0 : Hid (BlkG (w.alloc (.cells #[.int .i64 n] 3)) w.heap.size 3 [.int .i64 n]) := qh (BlkG.new w _ [.int .i64 n])
  have hb0 : Hid (Below w.heap.size w (w.alloc (.cells #[.int .i64 n] 3))) := qh (xalloc (xrefl _) _)
  have hmade := qh (made_any cs a c _ (h.below hb0.out))
  replace h := qh h
  go_enter Tryz.func16, Tryz.ntmps16
  go_wp2_with (go_at_call 41; refine hmade.out.mono ?_; rintro e w1 ⟨⟨cb, rfl, hC, hcb⟩, hb1⟩; obtain ⟨po, qo, pb, qb, hCut, hOps, hGrp, hnil⟩ := hC; have hc1 : w1.cell? ⟨cb, 2, none⟩ = some (.slice pb (grps cs).length qb) := (by simpa using hCut.range 2 _ rfl); replace hCut := qh hCut; replace hOps := qh hOps; replace hGrp := qh hGrp; replace hX0 := qh (hX0.out.below hb1); replace hb1 := qh (xtrans hb0.out hb1))
  go_loopw [14] (fun iv wx => ∃ i : Nat, i ≤ (grps cs).length ∧ iv = .int .i64 i ∧ Hid (∀ j (h : j < i) (h2 : j < (grps cs).length), inN (grps cs)[j] n = false) ∧ Hid (Below w1.heap.size w1 wx)) (fun iv _ => (grps cs).length - (intOf iv).toNat)
  case atStart => exact ⟨0, by omega, rfl, qh (fun j h => absurd h (by omega)), qh (xrefl _)⟩
  case round =>
    obtain ⟨i, hi, rfl, hN, hb⟩ := hrel
    by_cases hlt : i < (grps cs).length
    · have hltI : (i : Int) < (grps cs).length := by omega
      have hgm := List.getElem_mem hlt
      have hne := grps_ne hgm
      have hgc : ∀ x ∈ (grps cs)[i], x < cs.length := fun x hx => opsL_lt (grps_mem hgm hx)
      have hgl5 : (grps cs)[i].length ≤ 200 := by have := nodup_le (grps_sl hgm).nodup hgc; have := h.out.len; omega
      obtain ⟨b, o, p, q, rfl, hcg, hog⟩ := hGrp.out i hlt
      have hcg2 : wr.cell? ⟨b, o + i, none⟩ = some (.slice p (grps cs)[i].length q) := cbel hb.out hcg
      have hcon := containsF_any cs (grps cs)[i] n w.heap.size p q wr (hog.below hb.out) hgl5 (by have := hX0.out.below hb.out; simpa using this.range 0 _ rfl)
      have hgpos : 0 < (grps cs)[i].length := List.length_pos_iff.2 hne
      have hgposI : (0 : Int) < (grps cs)[i].length := by omega
      obtain ⟨gb, go, rfl, hgr⟩ := hog.elt 0 hgpos
      rw [← fst_get hgpos] at hgr
      have hf0 : wr.cell? ⟨gb, go, none⟩ = some (.int .i64 (fstN (grps cs)[i])) := by have := cbel hb.out (hgr 0 _ rfl); simpa using this
      have hfd : Hid (inN (grps cs)[i] n = true → atZ cs n = some (fstN (grps cs)[i])) := qh (atZ_found hlt)
      have hwi : IntKind.i64.wrap ((i : Int) + 1) = (i : Int) + 1 := by simp [IntKind.wrap, IntKind.bits, IntKind.signed]; omega
      have hN1 : Hid (inN (grps cs)[i] n = false → ∀ j (h : j < i + 1) (h2 : j < (grps cs).length), inN (grps cs)[j] n = false) := qh fun hne j hj h2 => by
        by_cases e : j = i
        · subst e; exact hne
        · exact hN.out j (by omega) h2
      clear hgr hgm hne hgc hgl5
      replace hog := qh hog
      replace hcg := qh hcg
      generalize fstN (grps cs)[i] = f at *
      generalize (grps cs)[i].length = gl at *
      generalize hIn : inN (grps cs)[i] n = I at *
      replace hIn := qh hIn
      cases I
      · replace hcon := qh hcon
        replace hN1 := qh (hN1.out rfl)
        clear hfd
        go_wp2_with (go_at_call 45; refine hcon.out.mono ?_; rintro e w2 ⟨rfl, hb2⟩; replace hb2 := qh (xtrans hb.out hb2))
        exact ⟨⟨i + 1, by omega, by go_num, hN1, hb2⟩, by simp [intOf]; omega⟩
      · replace hcon := qh hcon
        have hfz := qh (hfd.out rfl)
        clear hfd hN1
        go_wp2_with (go_at_call 45; refine hcon.out.mono ?_; rintro e w2 ⟨rfl, hb2⟩; have hf2 : w2.cell? ⟨gb, go, none⟩ = some (.int .i64 f) := cbel hb2 hf0; replace hb2 := qh (xtrans hb.out hb2))
        go_ret2
        exact ⟨by rw [hfz.out]; rfl, xtrans hb1.out hb2.out⟩
    · obtain rfl : i = (grps cs).length := by omega
      have hfz := qh (atZ_no fun j hj => hN.out j hj hj)
      clear hlt
      go_wp2
      go_ret2
      exact ⟨by rw [hfz.out]; rfl, xtrans hb1.out hb.out⟩
end
end Go.Proofs.YtijkdabmegbcjaaGreatDoor
