/- Mixing by one block is undone by no two: plain law. -/
import Derived.Test.YtfieagpidplmoaaRef23F
import Derived.Test.YtfieagpidplmoaaGrowV
namespace Go.Proofs.Ytfieagpidplmoaa
open Go.RowKit

theorem add32_left {a b c : BitVec 32} (h : add32 a c = add32 b c) : a = b := by
  unfold add32 at h
  have h2 := congrArg (· - c) h
  simpa [BitVec.add_sub_cancel] using h2
theorem add32_right {a b c : BitVec 32} (h : add32 c a = add32 c b) : a = b := add32_left (c := c) (by rw [show add32 a c = add32 c a from BitVec.add_comm a c, show add32 b c = add32 c b from BitVec.add_comm b c]; exact h)
theorem step_inj (k w : BitVec 32) (s s' : Nat → BitVec 32) (h : ∀ i < 8, stepF k w s i = stepF k w s' i) : ∀ i < 8, s i = s' i := by
  have h0 := h 0 (by decide)
  have e0 : s 0 = s' 0 := h 1 (by decide)
  have e1 : s 1 = s' 1 := h 2 (by decide)
  have e2 : s 2 = s' 2 := h 3 (by decide)
  have h4 := h 4 (by decide)
  have e4 : s 4 = s' 4 := h 5 (by decide)
  have e5 : s 5 = s' 5 := h 6 (by decide)
  have e6 : s 6 = s' 6 := h 7 (by decide)
  have ht : twoF s = twoF s' := by unfold twoF; rw [e0, e1, e2]
  have h0' : add32 (oneF k w s) (twoF s) = add32 (oneF k w s') (twoF s') := h0
  have h4' : add32 (s 3) (oneF k w s) = add32 (s' 3) (oneF k w s') := h4
  rw [ht] at h0'
  have ho := add32_left h0'
  rw [ho] at h4'
  have e3 := add32_left h4'
  have e7 : s 7 = s' 7 := by
    unfold oneF at ho
    rw [e4, e5, e6] at ho
    exact add32_left (add32_left (add32_left (add32_left ho)))
  intro i hi
  match i, hi with
  | 0, _ => exact e0
  | 1, _ => exact e1
  | 2, _ => exact e2
  | 3, _ => exact e3
  | 4, _ => exact e4
  | 5, _ => exact e5
  | 6, _ => exact e6
  | 7, _ => exact e7
  | i + 8, h => omega
theorem step_congr (k w : BitVec 32) (s s' : Nat → BitVec 32) (h : ∀ i < 8, s i = s' i) : ∀ i < 8, stepF k w s i = stepF k w s' i := by
  have e := fun i hi => h i hi
  have ho : oneF k w s = oneF k w s' := by unfold oneF; rw [h 4 (by decide), h 5 (by decide), h 6 (by decide), h 7 (by decide)]
  have ht : twoF s = twoF s' := by unfold twoF; rw [h 0 (by decide), h 1 (by decide), h 2 (by decide)]
  intro i hi
  unfold stepF
  rw [ho, ht, h 3 (by decide), h (i - 1) (by omega)]
theorem mixTo_inj (hs hs' b ks : Nat → BitVec 32) : ∀ t, (∀ i < 8, mixTo hs b ks t i = mixTo hs' b ks t i) ↔ ∀ i < 8, hs i = hs' i
  | 0 => Iff.rfl
  | t + 1 => ⟨fun h => (mixTo_inj hs hs' b ks t).1 (step_inj _ _ _ _ h), fun h => step_congr _ _ _ _ ((mixTo_inj hs hs' b ks t).2 h)⟩
theorem rowI_inj {n : Nat} {f g : Nat → BitVec 32} : rowI n f = rowI n g ↔ ∀ i < n, f i = g i := by
  refine ⟨fun h i hi => ?_, fun h => allL_congr fun i hi => by rw [h i hi]⟩
  have h1 := rowI_get n f i (by rw [rowI_len]; exact hi)
  have h2 := rowI_get n g i (by rw [rowI_len]; exact hi)
  apply iv32_inj.1
  rw [← h1, ← h2]
  simp only [h]
/-- Mixing, less the start, is undone by no two. -/
theorem mix_less (hs hs' b ks : Nat → BitVec 32) : (rowI 8 (fun i => sub32 (mixF hs b ks i) (hs i)) = rowI 8 (fun i => sub32 (mixF hs' b ks i) (hs' i))) ↔ rowI 8 hs = rowI 8 hs' := by
  have e : ∀ f : Nat → BitVec 32, (fun i => sub32 (mixF f b ks i) (f i)) = mixTo f b ks 64 := fun f => by
    funext i
    show mixTo f b ks 64 i + f i - f i = _
    rw [BitVec.add_sub_cancel]
  rw [e, e, rowI_inj, rowI_inj]
  exact mixTo_inj hs hs' b ks 64
/-- Part of an array's block is loaded. -/
theorem run_load_mid {P : Program} {o : Oper} {ac : Act} {w : World} (ty : TypeId) (x : Operand) (ho : o.op = .load ty x) (b k : Nat) (hx : ac.eval x = .pointer (some ⟨b, k, none⟩)) (q : IntKind) (T : TypeId) (l : List Int) (m n : Nat) (e : TypeId)
    (hB : Blk q w b T l) (hu : P.underlying ty = some (.array n e)) (hi : (P.info? ty).map (·.size) = some m) (hm : k + m ≤ l.length) : (execOp ac.eval o).run P w = .ok (.value (.agg (((l.drop k).take m).map (Value.int q)).toArray)) w := by
  unfold execOp
  have hl : ((l.drop k).take m).length = m := by rw [List.length_take, List.length_drop]; omega
  have hc : w.rangeAt b k (((l.drop k).take m).map (Value.int q)) := fun j v hj => by
    rw [List.getElem?_map] at hj
    obtain ⟨y, hy, rfl⟩ := Option.map_eq_some_iff.1 hj
    obtain ⟨hlt, rfl⟩ := List.getElem?_eq_some_iff.1 hy
    rw [hl] at hlt
    have := hB.cell (k + j) (by omega)
    rw [this]
    simp
  simp only [ho, hx, Instr.loadAt, Instr.sureAddr, Sem.run_bind, Sem.run_pure, Result.andThen_ok, run_loadVar_mid w b k ty _ _ hc hu rfl (by rw [List.length_map, hl]; exact hi)]
theorem wp_load_mid {P : Program} {o : Oper} {a : Act} {w : World} {K : Act → World → Prop} {Q : Exit → Act → World → Prop} (ty : TypeId) (x : Operand) (ho : o.op = .load ty x) (b k : Nat) (hx : a.eval x = .pointer (some ⟨b, k, none⟩)) (q : IntKind) (T : TypeId) (l : List Int) (m n : Nat) (e : TypeId)
    (hB : Blk q w b T l) (hu : P.underlying ty = some (.array n e)) (hi : (P.info? ty).map (·.size) = some m) (hm : k + m ≤ l.length) (h : K (a.put o.dst (.agg (((l.drop k).take m).map (Value.int q)).toArray)) w) : o.wp P a w K Q := by
  unfold Oper.wp
  rw [run_load_mid ty x ho b k hx q T l m n e hB hu hi hm]
  exact h
end Go.Proofs.Ytfieagpidplmoaa
