/- Texts of this claim, merged; no condition. -/
import Derived.Test.YtijkdabmegbcjaaGreatDoorT23
import Derived.Test.YtijkdabmegbcjaaGreatDoorTA
set_option linter.all false
namespace Go.Proofs.YtijkdabmegbcjaaGreatDoor
open Go.RowKit Go.Shelf
theorem own_own {w : World} {B B' e e' s s' n n' : Nat} {v v' : Value} {xs xs' : List Value} (h : w.ownsRow B e s v n xs) (h' : w.ownsRow B' e' s' v' n' xs') (ne : e ≠ e') {g : Nat} (hg : v.ownBlock = some g) : ¬ v'.ownBlock = some g := by
  intro hg'
  rcases h.2 with ⟨rfl, -⟩ | ⟨g1, c1, cur1, rfl, _, h1, _⟩
  · cases hg
  · rcases h'.2 with ⟨rfl, -⟩ | ⟨g2, c2, cur2, rfl, _, h2, _⟩
    · cases hg'
    · have e1 : g1 = g := Option.some.inj hg
      have e2 : g2 = g := Option.some.inj hg'
      subst e1 e2
      rw [h1] at h2
      injection h2 with h2; injection h2 with h3 h4
      exact ne h4
theorem own_blk {w : World} {B e s n : Nat} {v : Value} {xs : List Value} (h : w.ownsRow B e s v n xs) {g : Nat} (hg : v.ownBlock = some g) : ∃ vs, BlkG w g e vs := by
  rcases h.2 with ⟨rfl, -⟩ | ⟨g1, c1, cur1, rfl, _, h1, _⟩
  · cases hg
  · have e1 : g1 = g := Option.some.inj hg
    subst e1
    exact ⟨cur1.toList, by unfold BlkG; simpa using h1⟩
theorem OpsAt.only0 {O : Nat → Prop} {w w' : World} {a : Option Addr} {c : Nat} {cs l : List Nat} (h : OpsAt w a c cs l) (ho : Only O w w') (ha : l ≠ [] → ∀ x, a = some x → ¬ O x.block) : OpsAt w' a c cs l := by
  by_cases h0 : l = []
  · subst h0; exact ⟨fun i hi => absurd hi (by simp), h.nil⟩
  · exact h.only ho (ha h0)
theorem OpsAt.lt {w : World} {a : Option Addr} {c : Nat} {cs l : List Nat} (h : OpsAt w a c cs l) (h0 : l ≠ []) {x : Addr} (hx : a = some x) : x.block < w.heap.size := by
  obtain ⟨b, o, e, hr⟩ := h.elt 0 (List.length_pos_iff.2 h0)
  rw [e] at hx; cases hx
  exact cell_lt (hr 0 _ rfl)
structure MdS (w1 : World) (a : Option Addr) (c : Nat) (cs : List Nat) (po : Option Addr) (qo : Nat) (N : List Nat) (gs : List (List Nat)) (v vb : Value) (gv : List Value) (M : Nat) (W : World) : Prop where
  cut : BlkG W w1.heap.size 76 [.slice a cs.length c, .slice po (opsL cs).length qo, vb]
  box : Box W (w1.heap.size + 1 + 1) v 71
  xbox : Box W (w1.heap.size + 1) (.pointer (some ⟨w1.heap.size, 0, none⟩)) 69
  own : W.ownsRow M 81 2 v N.length (N.flatMap (opC cs))
  nilv : N = [] → v = .slice none 0 0
  vown : W.ownsRow (w1.heap.size + 3) 71 1 vb gs.length gv
  grp : ∀ j (h : j < gs.length), ∃ p q, gv[j]? = some (.slice p gs[j].length q) ∧ OpsAt W p q cs gs[j] ∧ ∀ x, p = some x → w1.heap.size + 3 ≤ x.block ∧ x.block < M ∧ ∃ vs, BlkG W x.block 81 vs
  ops : OpsAt W po qo cs (opsL cs)
  opn : opsL cs ≠ [] → ∀ x, po = some x → x.block < w1.heap.size
  m1 : w1.heap.size + 3 ≤ M
  m2 : M ≤ W.heap.size
  bel : Below w1.heap.size w1 W
section
variable {w1 W W' W3 W5 : World} {a po : Option Addr} {c qo M : Nat} {cs N : List Nat} {gs : List (List Nat)} {v vb : Value} {gv : List Value}
theorem MdS.below (h : MdS w1 a c cs po qo N gs v vb gv M W) (hb : Below W.heap.size W W') : MdS w1 a c cs po qo N gs v vb gv M W' :=
  ⟨h.cut.below hb, h.box.below hb, h.xbox.below hb, own_keep h.own hb, h.nilv, own_keep h.vown hb, fun j hj => by
    obtain ⟨p, q, e, h1, h2⟩ := h.grp j hj
    exact ⟨p, q, e, h1.below hb, fun x hx => ⟨(h2 x hx).1, (h2 x hx).2.1, by obtain ⟨vs, hv⟩ := (h2 x hx).2.2; exact ⟨vs, hv.below hb⟩⟩⟩, h.ops.below hb, h.opn, h.m1, Nat.le_trans h.m2 hb.size, xtrans h.bel hb⟩
theorem MdS.push (h : MdS w1 a c cs po qo N gs v vb gv M W) {x : Nat} {V5 : Value} (hb : Below W.heap.size W W3) (hg : W3.grownBy W5 v.ownBlock) (o5 : W5.ownsRow M 81 2 V5 (N.length + 1) (N.flatMap (opC cs) ++ opC cs x)) :
    MdS w1 a c cs po qo (N ++ [x]) gs V5 vb gv M (W5.setCell ⟨w1.heap.size + 1 + 1, 0, none⟩ V5) := by
  have h' := h.below hb
  have ho := only_grown hg
  have hs : Only (· = w1.heap.size + 1 + 1) W5 (W5.setCell ⟨w1.heap.size + 1 + 1, 0, none⟩ V5) := (Only.refl _ _).setCell _ _ rfl
  have hM1 := h.m1
  have nv : ∀ k, k < M → ¬ v.ownBlock = some k := fun k hk e => by have := (own_lt h'.own e).1; omega
  have keepG : ∀ {k T vs}, BlkG W3 k T vs → k < M → k ≠ w1.heap.size + 1 + 1 → BlkG (W5.setCell ⟨w1.heap.size + 1 + 1, 0, none⟩ V5) k T vs := fun hB h1 h2 => (hB.only ho (nv _ h1)).only hs h2
  have hvo : ∀ g, vb.ownBlock = some g → ¬ v.ownBlock = some g ∧ g ≠ w1.heap.size + 1 + 1 := fun g hg => ⟨own_own h'.vown h'.own (by decide) hg, by have := (own_lt h'.vown hg).1; omega⟩
  refine ⟨keepG h'.cut (by omega) (by omega), ?_, ?_, ?_, fun e => by simp at e, ?_, fun j hj => ?_, ?_, h.opn, h.m1, ?_, ?_⟩
  · exact (h'.box.only ho (nv _ (by omega))).set V5
  · exact (h'.xbox.only ho (nv _ (by omega))).only hs (by omega)
  · rw [List.length_append, List.flatMap_append]
    have : W5.ownsRow M 81 2 V5 (N.length + [x].length) (N.flatMap (opC cs) ++ [x].flatMap (opC cs)) := by simpa using o5
    exact own_same this fun g hg hl => hs.same g hl fun e => by have := (own_lt o5 hg).1; omega
  · exact own_same h'.vown fun g hg hl => (hs.same g (Nat.lt_of_lt_of_le hl ho.size) (hvo g hg).2).trans (ho.same g hl (hvo g hg).1)
  · obtain ⟨p, q, e, h1, h2⟩ := h'.grp j hj
    refine ⟨p, q, e, (h1.only ho fun x hx => nv _ (h2 x hx).2.1).only hs fun x hx e => by have := (h2 x hx).1; omega, fun x hx => ⟨(h2 x hx).1, (h2 x hx).2.1, ?_⟩⟩
    obtain ⟨vs, hv⟩ := (h2 x hx).2.2
    exact ⟨vs, keepG hv (h2 x hx).2.1 (by have := (h2 x hx).1; omega)⟩
  · exact (h'.ops.only0 ho fun h0 x hx => nv _ (by have := h.opn h0 x hx; omega)).only0 hs fun h0 x hx e => by have := h.opn h0 x hx; omega
  · exact Nat.le_trans h'.m2 (Nat.le_trans ho.size hs.size)
  · exact hs.below (h'.bel.grown hg h'.bel.size fun j hj => by have := (own_lt h'.own hj).1; omega) (Nat.le_trans h'.bel.size ho.size) (by rintro k rfl; omega)
theorem MdS.boxAt (h : MdS w1 a c cs po qo N gs v vb gv M W) (hb : Below W.heap.size W W3) (hg : W3.grownBy W5 v.ownBlock) : Box W5 (w1.heap.size + 1 + 1) v 71 :=
  (h.box.below hb).only (only_grown hg) fun e => by have := (own_lt h.own e).1; have := h.m1; omega
set_option maxRecDepth 100000 in
theorem MdS.callNone (h : MdS w1 a c cs po qo [] gs v vb gv M W) : Calls Tryz.prog 72 #[.pointer (some ⟨w1.heap.size + 1 + 1, 0, none⟩), .pointer (some ⟨w1.heap.size + 1, 0, none⟩)] W fun e w' => e = .returned (.tuple #[]) ∧ (∃ v vb gv M, MdS w1 a c cs po qo [] gs v vb gv M w') ∧ ∀ k vs, BlkG W k 81 vs → w1.heap.size + 3 ≤ k → BlkG w' k 81 vs := by
  have hv := h.nilv rfl
  subst hv
  refine (end_none _ _ W h.box).mono ?_
  rintro e w' ⟨rfl, ho, hB⟩
  have hM1 := h.m1
  refine ⟨rfl, ⟨.slice none 0 0, vb, gv, M, ⟨h.cut.only ho (by omega), hB, h.xbox.only ho (by omega), ⟨by simp, .inl ⟨rfl, rfl⟩⟩, fun _ => rfl, own_same h.vown fun g hg hl => ho.same g hl fun e => by have := (own_lt h.vown hg).1; omega, fun j hj => ?_, h.ops.only0 ho fun h0 x hx e => by have := h.opn h0 x hx; omega, h.opn, h.m1, Nat.le_trans h.m2 ho.size, ho.below h.bel h.bel.size (by rintro k rfl; omega)⟩⟩, fun k vs h1 h2 => h1.only ho (by omega)⟩
  obtain ⟨p, q, e, h1, h2⟩ := h.grp j hj
  refine ⟨p, q, e, h1.only ho fun x hx e => by have := (h2 x hx).1; omega, fun x hx => ⟨(h2 x hx).1, (h2 x hx).2.1, ?_⟩⟩
  obtain ⟨vs, hv⟩ := (h2 x hx).2.2
  exact ⟨vs, hv.only ho fun e => by have := (h2 x hx).1; omega⟩
set_option maxRecDepth 100000 in
theorem MdS.callEnd (h : MdS w1 a c cs po qo N gs v vb gv M W) (hN : N ≠ []) (hl : gs.length ≤ 1000) : Calls Tryz.prog 72 #[.pointer (some ⟨w1.heap.size + 1 + 1, 0, none⟩), .pointer (some ⟨w1.heap.size + 1, 0, none⟩)] W fun e w' => e = .returned (.tuple #[]) ∧ (∃ v vb gv M, MdS w1 a c cs po qo [] (gs ++ [N]) v vb gv M w') ∧ ∀ k vs, BlkG W k 81 vs → w1.heap.size + 3 ≤ k → BlkG w' k 81 vs := by
  have hM1 := h.m1
  have hM2 := h.m2
  obtain ⟨a4, c4, hv, hO, hx4⟩ := OpsAt.own h.own
  have hbox := h.box
  rw [hv] at hbox
  refine (end_any (w1.heap.size + 1 + 1) (w1.heap.size + 1) w1.heap.size (w1.heap.size + 3) a4 c4 N.length _ _ vb gs.length gv W (List.length_pos_iff.2 hN) hbox h.xbox h.cut h.vown (by omega) (by omega) (by omega) hl).mono ?_
  rintro e w' ⟨rfl, ho, hB, vb', hC, hV⟩
  have nvb : ∀ {k vs}, BlkG W k 81 vs → ¬ vb.ownBlock = some k := fun hb => own_neG h.vown hb (by decide)
  have keepO : ∀ {p q l}, OpsAt W p q cs l → (∀ x, p = some x → w1.heap.size + 3 ≤ x.block ∧ ∃ vs, BlkG W x.block 81 vs) → OpsAt w' p q cs l := fun h1 h2 => h1.only ho fun x hx e => by
    obtain ⟨h3, vs, h4⟩ := h2 x hx
    rcases e with e | e | e
    · omega
    · omega
    · exact nvb h4 e
  have keepB : ∀ {k vs}, BlkG W k 81 vs → w1.heap.size + 3 ≤ k → BlkG w' k 81 vs := fun h1 h2 => h1.only ho fun e => by
    rcases e with e | e | e
    · omega
    · omega
    · exact nvb h1 e
  have hgl : gv.length = gs.length := by have := h.vown.1; omega
  refine ⟨rfl, ⟨.slice none 0 0, vb', gv ++ [.slice a4 N.length c4], w'.heap.size, ⟨hC, hB, ?_, ⟨by simp, .inl ⟨rfl, rfl⟩⟩, fun _ => rfl, by rw [List.length_append]; exact hV, fun j hj => ?_, ?_, h.opn, ?_, Nat.le_refl _, ?_⟩⟩, fun k vs h1 h2 => keepB h1 h2⟩
  · exact h.xbox.only ho fun e => by
      rcases e with e | e | e
      · omega
      · omega
      · have := (own_lt h.vown e).1; omega
  · by_cases hj2 : j < gs.length
    · obtain ⟨p, q, e, h1, h2⟩ := h.grp j hj2
      refine ⟨p, q, ?_, ?_, fun x hx => ⟨(h2 x hx).1, ?_, ?_⟩⟩
      · rw [List.getElem?_append_left (by omega), e, List.getElem_append_left hj2]
      · rw [List.getElem_append_left hj2]
        exact keepO h1 fun x hx => ⟨(h2 x hx).1, (h2 x hx).2.2⟩
      · have := (h2 x hx).2.1; have := ho.size; omega
      · obtain ⟨vs, hv⟩ := (h2 x hx).2.2
        exact ⟨vs, keepB hv (h2 x hx).1⟩
    · obtain rfl : j = gs.length := by rw [List.length_append] at hj; simp at hj; omega
      have hob : ∀ x, a4 = some x → v.ownBlock = some x.block := fun x hx => by rw [hv, hx]; rfl
      have hxx : ∀ x, a4 = some x → w1.heap.size + 3 ≤ x.block ∧ ∃ vs, BlkG W x.block 81 vs := fun x hx => ⟨by have := (own_lt h.own (hob x hx)).1; omega, own_blk h.own (hob x hx)⟩
      refine ⟨a4, c4, ?_, ?_, fun x hx => ⟨(hxx x hx).1, ?_, ?_⟩⟩
      · rw [List.getElem?_append_right (by omega)]
        simp [hgl]
      · simp only [List.getElem_append_right (Nat.le_refl _), Nat.sub_self, List.getElem_cons_zero]
        exact keepO hO hxx
      · have := (own_lt h.own (hob x hx)).2; have := ho.size; omega
      · obtain ⟨vs, hv⟩ := (hxx x hx).2
        exact ⟨vs, keepB hv (hxx x hx).1⟩
  · exact h.ops.only0 ho fun h0 x hx e => by
      have := h.opn h0 x hx
      rcases e with e | e | e
      · omega
      · omega
      · have := (own_lt h.vown e).1; omega
  · have := ho.size; omega
  · exact ho.below h.bel h.bel.size (by rintro k (rfl | rfl | e); omega; omega; have := (own_lt h.vown e).1; omega)
end
def CutAt (W : World) (cb : Nat) (a : Option Addr) (c : Nat) (cs : List Nat) : Prop :=
  ∃ po qo pb qb, BlkG W cb 76 [.slice a cs.length c, .slice po (opsL cs).length qo, .slice pb (grps cs).length qb] ∧ OpsAt W po qo cs (opsL cs) ∧
    (∀ j (h : j < (grps cs).length), ∃ b o p q, pb = some ⟨b, o, none⟩ ∧ W.cell? ⟨b, o + j, none⟩ = some (.slice p (grps cs)[j].length q) ∧ OpsAt W p q cs (grps cs)[j]) ∧ (pb = none → qb = 0)
theorem MdS.made {w1 W : World} {a po : Option Addr} {c qo M : Nat} {cs : List Nat} {v vb : Value} {gv : List Value} (h : MdS w1 a c cs po qo [] (grps cs) v vb gv M W) : CutAt W w1.heap.size a c cs := by
  obtain ⟨pb, qb, rfl, hr, hn, hx, hl, h0⟩ := rowV_own h.vown
  refine ⟨po, qo, pb, qb, h.cut, h.ops, fun j hj => ?_, hn⟩
  obtain ⟨p, q, e, h1, -⟩ := h.grp j hj
  have hjl : j < gv.length := by omega
  obtain ⟨b, o, e2, hc⟩ := hr j hjl
  rw [List.getElem?_eq_getElem hjl] at e
  injection e with e
  exact ⟨b, o, p, q, e2, by rw [hc, e], h1⟩
end Go.Proofs.YtijkdabmegbcjaaGreatDoor
