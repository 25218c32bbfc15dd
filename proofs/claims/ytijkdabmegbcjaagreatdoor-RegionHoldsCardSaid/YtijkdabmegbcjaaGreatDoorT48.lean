/- Texts of this claim, merged; no condition. -/
import Derived.Test.YtijkdabmegbcjaaGreatDoorT47
import Derived.Test.YtijkdabmegbcjaaGreatDoorT31
import Derived.Test.YtijkdabmegbcjaaGreatDoorT06
import Derived.Test.YtijkdabmegbcjaaGreatDoorTA
set_option linter.all false
namespace Go.Proofs.YtijkdabmegbcjaaGreatDoor
section
theorem alF_out {cs : List Nat} {B : BlkN} : ∀ (l : List Nat) (s t : StN), alF cs B l (some s) = some t → t.lo ≤ s.lo ∧ s.hi ≤ t.hi
  | [], s, t, h => by cases h; exact ⟨Int.le_refl _, Int.le_refl _⟩
  | x :: l, s, t, h => by
    have e : alF cs B (x :: l) (some s) = alF cs B l (if B.first ≤ x ∧ x ≤ B.last then (opS cs x).map (thenS s) else some s) := rfl
    rw [e] at h
    by_cases hx : B.first ≤ x ∧ x ≤ B.last
    · rw [if_pos hx] at h
      cases ho : opS cs x with
      | none => rw [ho] at h; simp only [Option.map_none] at h; rw [alF_none] at h; cases h
      | some y =>
        rw [ho] at h
        have := alF_out l (thenS s y) t h
        have a := smallF_le s.lo (s.ht + y.lo)
        have b := bigF_ge s.hi (s.ht + y.hi)
        simp only [thenS] at this
        omega
    · rw [if_neg hx] at h
      exact alF_out l s t h
theorem wt_out {cs : List Nat} {bs : List BlkN} {en n k : Nat} {s : StN} (h : Wt cs bs en n k s) : s.lo ≤ 0 ∧ 0 ≤ s.hi := by
  cases h with
  | stop n => exact ⟨by decide, by decide⟩
  | go n k a l r h1 h2 h3 h4 h5 =>
    have ha : a.lo ≤ 0 ∧ 0 ≤ a.hi := by
      unfold aloneS at h2
      split at h2
      · cases h2
      · exact alF_out _ _ _ h2
    have x := smallF_le a.lo (a.ht + r.lo)
    have y := bigF_ge a.hi (a.ht + r.hi)
    simp only [thenS]
    omega
theorem region_ways {cs : List Nat} {n : Int} {en : Nat} {s : StN} {σ : KnS} (hlen : cs.length ≤ 90) (h : seenN cs n = some (en, s, σ)) : ∃ first, atZ cs n = some first ∧ (findB (blksN cs) first).isSome = true ∧ (blkOf (blksN cs) first).next ≠ [] ∧
    ∀ (ps : List Nat) (r : Nat) (hr : r < (blkOf (blksN cs) first).next.length), ∃ t, goesF cs (blksN cs) en (pickN ps) 100 0 (blkOf (blksN cs) first).next[r] zeroS = some t ∧ s.g0 ≤ t.g0 ∧ t.g0 ≤ s.g1 ∧ s.lo ≤ t.lo ∧ t.hi ≤ s.hi ∧ t.ht = s.ht := by
  have g := graph_code cs
  have hbl := blksN_len cs
  unfold seenN at h
  cases hf : atZ cs n with
  | none => rw [hf] at h; cases h
  | some first =>
    rw [hf] at h
    dsimp only at h
    split at h
    · cases hsd : sidesG (fromF cs (blksN cs) ((meetZ (blksN cs) cs.length first).getD 0) ((blksN cs).length + 1)) [] (blkOf (blksN cs) first).next with
      | none => rw [hsd] at h; cases h
      | some x =>
        rw [hsd] at h
        simp only [Option.map_some, Option.some.injEq, Prod.mk.injEq] at h
        obtain ⟨h1, h2, h3⟩ := h
        obtain ⟨xs, xσ⟩ := x
        simp only at h2 h3
        subst h2 h3
        rw [h1] at hsd
        have hnxt : ∀ k, ∀ x ∈ (blkOf (blksN cs) k).next, x ∈ (blksN cs).map (·.first) := fun k x hx => by
          unfold blkOf at hx
          cases hfb : findB (blksN cs) k with
          | none => rw [hfb] at hx; cases hx
          | some B =>
            rw [hfb] at hx
            exact g.next B (List.mem_of_find?_eq_some hfb) x hx
        unfold sidesG at hsd
        cases hmg : manyG (fromF cs (blksN cs) en ((blksN cs).length + 1)) [] (blkOf (blksN cs) first).next with
        | none => rw [hmg] at hsd; cases hsd
        | some y =>
          obtain ⟨l, σ1⟩ := y
          rw [hmg] at hsd
          dsimp only at hsd
          cases hfo : foldO l with
          | none => rw [hfo] at hsd; cases hsd
          | some r0 =>
            rw [hfo] at hsd
            cases hsd
            obtain ⟨j1, -, j3, j4⟩ := many_sound (from_sound (fun k _ => hnxt k) _) _ _ l xσ (InvK.nil _ _ _) (hnxt first) hmg
            have hne : (blkOf (blksN cs) first).next ≠ [] := fun e => by
              rw [e] at j3
              have : l = [] := List.length_eq_zero_iff.1 j3
              rw [this] at hfo; cases hfo
            refine ⟨first, rfl, ?_, hne, fun ps r hr => ?_⟩
            · cases hfb : findB (blksN cs) first with
              | some B => rfl
              | none => exact absurd (by unfold blkOf; rw [hfb]; rfl) hne
            · have hrl : r < l.length := by omega
              have hw := j4 r hr hrl
              have hdn := j1.dn
              obtain ⟨t, ht, hin⟩ := goes_in (pickN ps) (pickN_lt ps) (fun k a _ hk => by
                cases hfb : findB (blksN cs) k with
                | some B => rfl
                | none => exact absurd (by unfold blkOf; rw [hfb]; rfl) hk) hw 100 0 zeroS (by omega) one_zero
              have hx := foldO_in hfo l[r] (List.getElem_mem _)
              have ho := wt_out hw
              obtain ⟨k1, k2, k3, k4, k5, k6⟩ := hin
              have k7 := k6.gas
              have a := smallF_le zeroS.lo (zeroS.ht + l[r].lo)
              have b := bigF_ge zeroS.hi (zeroS.ht + l[r].hi)
              simp only [zeroS] at k1 k2 k3 k4 k5 a b
              exact ⟨t, ht, by omega, by omega, by omega, by omega, by omega⟩
    · cases h
end
section
open Go.RowKit
def waitKM (l : List Oper) (k m : Nat) : Bool := match l[k]? with
  | some o => waitsB o m
  | none => false
structure GoesY where
  Sty : World → World → Prop
  Sg : Bool → Value → World → Prop
  Qp : List PanicEntry → World → Prop
  k : Nat
  m : Nat
  less : m < k
  refl : ∀ W, Sty W W
  trans : ∀ {A B C}, Sty A B → Sty B C → Sty A C
  below : ∀ {W W'}, Below W.heap.size W W' → Sty W W'
  keeps : ∀ b v {W W'}, Sg b v W → Below W.heap.size W W' → Sg b v W'
  free : ∀ v v' W, Sg false v W → Sg false v' W
def growsUponY (P : Program) (G : GoesY) (W : World) (b : Bool) (v0 : Value) (V : Value → World → Prop) : Result Next → Prop
  | .ok (.value u) W' => V u W' ∧ G.Sty W W' ∧ G.Sg b v0 W'
  | .ok .skip W' => V undef W' ∧ G.Sty W W' ∧ G.Sg b v0 W'
  | .ok (.enter f args) W1 => Calls P f args W1 fun e W' => (∃ v, e = .returned v ∧ V v W' ∧ G.Sty W W' ∧ G.Sg b v0 W') ∨ (∃ ch, e = .panicked ch ∧ G.Qp ch W')
  | _ => False
@[go_sem] theorem growsUponY_value (P : Program) (G : GoesY) (W W' : World) (b : Bool) (v0 u : Value) (V : Value → World → Prop) : growsUponY P G W b v0 V (.ok (.value u) W') = (V u W' ∧ G.Sty W W' ∧ G.Sg b v0 W') := rfl
@[go_sem] theorem growsUponY_skip (P : Program) (G : GoesY) (W W' : World) (b : Bool) (v0 : Value) (V : Value → World → Prop) : growsUponY P G W b v0 V (.ok .skip W') = (V undef W' ∧ G.Sty W W' ∧ G.Sg b v0 W') := rfl
@[go_sem] theorem growsUponY_enter (P : Program) (G : GoesY) (W W' : World) (b : Bool) (v0 : Value) (V : Value → World → Prop) (f : FuncId) (args : Array Value) : growsUponY P G W b v0 V (.ok (.enter f args) W') = Calls P f args W' fun e W'' => (∃ v, e = .returned v ∧ V v W'' ∧ G.Sty W W'' ∧ G.Sg b v0 W'') ∨ (∃ ch, e = .panicked ch ∧ G.Qp ch W'') := rfl
def GrowsAtY (P : Program) (ops : Array Oper) (G : GoesY) (w : World) (o : Oper) (sp : Bool) (u : Value) (F : World → Prop) (T : ToldS G.Sty) (a : Act) : Prop :=
  (Region.wanted o (yielded ops a.tmps) = true ∧ ∀ b v0 W, (sp = true → b = false ∧ v0 = u) → G.Sg b v0 W → G.Sty w W → F W → growsUponY P G W (sp || b) v0 (fun v W' => T.is v ∧ T.mem v W') ((execOp a.eval o).run P W)) ∨
  (Region.wanted o (yielded ops a.tmps) = false ∧ sp = false ∧ T.is undef ∧ ∀ W, T.mem undef W)
def wpGrowY (P : Program) (ops : Array Oper) (G : GoesY) (w : World) (L : Nat → ToldS G.Sty) (K : List Value → Act → Prop) : List Oper → List Value → Act → Prop
  | [], s, a => K s a
  | o :: rest, s, a => GrowsAtY P ops G w o (decide (s.length = G.k)) (s.getD G.m undef) (fun W => ∀ j, waitsB o j = true → j < s.length → (L j).mem (s.getD j undef) W) (L s.length) a ∧ ∀ v, (L s.length).is v → wpGrowY P ops G w L K rest (s ++ [v]) (a.put o.dst v)
section
variable {P : Program} {ops : Array Oper} {G : GoesY} {w : World} {L : Nat → ToldS G.Sty} {K : List Value → Act → Prop} {o : Oper} {rest : List Oper} {s : List Value} {a : Act}
theorem wpGrowY_fix (v : Value) (hL : L s.length = fixdS v) (hk : decide (s.length = G.k) = false) (hw : Region.wanted o (yielded ops a.tmps) = true)
    (hv : ∀ b v0 W, G.Sg b v0 W → G.Sty w W → (∀ j, waitsB o j = true → j < s.length → (L j).mem (s.getD j undef) W) → growsUpon P W v ((execOp a.eval o).run P W)) (h : wpGrowY P ops G w L K rest (s ++ [v]) (a.put o.dst v)) : wpGrowY P ops G w L K (o :: rest) s a := by
  refine ⟨.inl ⟨hw, fun b v0 W _ hS hb hF => ?_⟩, fun u hu => ?_⟩
  · have := hv b v0 W hS hb hF
    generalize (execOp a.eval o).run P W = r at this
    rw [hL, hk]
    cases r with
    | ok n W1 =>
      cases n <;> simp only [growsUpon] at this <;> simp only [growsUponY]
      case value u => exact ⟨⟨this.1, trivial⟩, G.below this.2, by simpa using G.keeps b v0 hS this.2⟩
      case skip => exact ⟨⟨this.1.symm, trivial⟩, G.below this.2, by simpa using G.keeps b v0 hS this.2⟩
      case enter f args => exact this.mono fun e W' ⟨he, hb2⟩ => .inl ⟨v, he, ⟨rfl, trivial⟩, G.below hb2, by simpa using G.keeps b v0 hS hb2⟩
    | halt x W1 => simp only [growsUpon] at this
  · rw [hL] at hu
    have : u = v := hu
    subst this
    exact h
theorem wpGrowY_any (T : ToldS G.Sty) (hL : L s.length = T) (hw : Region.wanted o (yielded ops a.tmps) = true)
    (hv : ∀ b v0 W, (decide (s.length = G.k) = true → b = false ∧ v0 = s.getD G.m undef) → G.Sg b v0 W → G.Sty w W → (∀ j, waitsB o j = true → j < s.length → (L j).mem (s.getD j undef) W) → growsUponY P G W (decide (s.length = G.k) || b) v0 (fun v W' => T.is v ∧ T.mem v W') ((execOp a.eval o).run P W))
    (h : ∀ v, T.is v → wpGrowY P ops G w L K rest (s ++ [v]) (a.put o.dst v)) : wpGrowY P ops G w L K (o :: rest) s a := by
  subst hL
  exact ⟨.inl ⟨hw, hv⟩, h⟩
end
theorem wpGrowY_values {P : Program} {ops : Array Oper} {G : GoesY} {w : World} {L : Nat → ToldS G.Sty} {K : List Value → Act → Prop} : ∀ (l : List Oper) (s : List Value) (a : Act), wpGrowY P ops G w L K l s a →
    ∀ vs : Nat → Value, (∀ k, (L k).is (vs k)) → (∀ k, k < s.length → s.getD k undef = vs k) →
    (∀ (i : Nat) (o : Oper), l[i]? = some o → GrowsAtY P ops G w o (decide (s.length + i = G.k)) (vs G.m) (fun W => ∀ j, waitsB o j = true → j < s.length + i → (L j).mem (vs j) W) (L (s.length + i)) (layT l (fun j => vs (s.length + j)) i a)) ∧
    ∃ s' : List Value, s'.length = s.length + l.length ∧ (∀ k, k < s'.length → s'.getD k undef = vs k) ∧ K s' (layT l (fun j => vs (s.length + j)) l.length a)
  | [], s, a, h, vs, _, hs => ⟨fun i o ho => by simp at ho, s, by simp, hs, h⟩
  | o :: l, s, a, ⟨hg, h⟩, vs, hvs, hs => by
    have h2 := h (vs s.length) (hvs _)
    obtain ⟨h3, s', h4, h5, h6⟩ := wpGrowY_values l (s ++ [vs s.length]) _ h2 vs hvs (fun k hk => by
      rw [List.length_append] at hk
      by_cases e : k < s.length
      · rw [← hs k e]
        simp only [List.getD_eq_getElem?_getD]
        rw [List.getElem?_append_left e]
      · obtain rfl : k = s.length := by simp at hk; omega
        simp [List.getD_eq_getElem?_getD])
    have e1 : (fun j => vs ((s ++ [vs s.length]).length + j)) = fun j => vs (s.length + (j + 1)) := by funext j; simp; congr 1; omega
    rw [e1] at h3 h6
    refine ⟨?_, s', by simp at h4 ⊢; omega, h5, h6⟩
    rintro (_ | i) o' ho
    · obtain rfl : o = o' := by simpa using ho
      show GrowsAtY P ops G w o _ _ _ (L s.length) a
      unfold GrowsAtY at hg ⊢
      rcases hg with ⟨hw, hv⟩ | hn
      · exact .inl ⟨hw, fun b v0 W hbk hS hb hF => hv b v0 W (fun h => ⟨(hbk h).1, (hbk h).2.trans (hs _ (by have := of_decide_eq_true h; have := G.less; omega)).symm⟩) hS hb fun j hj e => by rw [hs j e]; exact hF j hj (by omega)⟩
      · exact .inr hn
    · have := h3 i o' (by simpa using ho)
      rw [show (s ++ [vs s.length]).length + i = s.length + (i + 1) by simp; omega] at this
      exact this
theorem wpOp_of_growsY {P : Program} {ops : Array Oper} {G : GoesY} {Q : Exit → Act → World → Prop} {i : Nat} {o : Oper} {sp b : Bool} {u v0 : Value} {F : World → Prop} {T : ToldS G.Sty} {a : Act} {w W : World} {K : Act → World → Prop} (ho : ops[i]? = some o) (h : GrowsAtY P ops G w o sp u F T a) (hbk : sp = true → b = false ∧ v0 = u) (hS : G.Sg b v0 W) (hb : G.Sty w W) (hF : F W)
    (hQ : ∀ ch W', G.Qp ch W' → Q (.panic ch) a W')
    (hK : ∀ v W', T.is v → T.mem v W' → G.Sty W W' → G.Sg (sp || b) v0 W' → K (a.put o.dst v) W') : wpOp P ops Q i K a W := by
  unfold wpOp
  simp only [ho]
  rcases h with ⟨hw, hv⟩ | ⟨hw, hs, hi, hm⟩
  · simp only [hw, if_true]
    refine .inl ?_
    unfold Oper.wp
    have h2 := hv b v0 W hbk hS hb hF
    generalize (execOp a.eval o).run P W = r at h2
    cases r with
    | ok n W1 =>
      cases n <;> simp only [growsUponY] at h2 <;> simp only [Oper.upon]
      case value u => exact hK _ _ h2.1.1 h2.1.2 h2.2.1 h2.2.2
      case skip => exact hK _ _ h2.1.1 h2.1.2 h2.2.1 h2.2.2
      case enter f args =>
        refine h2.mono fun e W'' h3 => ?_
        rcases h3 with ⟨v, he, ⟨h3, h4⟩, h5, h6⟩ | ⟨ch, he, h3⟩
        · subst he; exact hK _ _ h3 h4 h5 h6
        · subst he; exact hQ _ _ h3
    | halt x W1 => simp only [growsUponY] at h2
  · simp only [hw, Bool.false_eq_true, if_false]
    exact hK _ _ hi (hm W) (G.refl W) (by rw [hs]; simpa using hS)
theorem grow_keyY {P : Program} {l : List Oper} {a : Act} {w : World} (G : GoesY) (n : Nat) (L : Nat → ToldS G.Sty) (hB : growTB l n = true) (Tail : Act → World → Prop) (Any : Nat → Array Bool → Act → World → Prop)
    (hstep : ∀ (m : Nat) (listed : Array Bool) (x : Act) (W : World), Region.ready .any l.toArray listed ≠ [] →
      (∀ i ∈ Region.ready .any l.toArray listed, ∃ (o : Oper) (sp b : Bool) (u v0 : Value) (F : World → Prop) (T : ToldS G.Sty), l.toArray[i]? = some o ∧ F W ∧ (sp = true → b = false ∧ v0 = u) ∧ G.Sg b v0 W ∧ G.Sty w W ∧ x.defers = a.defers ∧ GrowsAtY P l.toArray G w o sp u F T x ∧ ∀ v W', T.is v → T.mem v W' → G.Sty W W' → G.Sg (sp || b) v0 W' → Any m (listed.setIfInBounds i true) (x.put o.dst v) W') → Any (m + 1) listed x W)
    (hend : ∀ (x : Act) (W : World), Tail x W → Any (l.length - n) (listedN l.length n) x W)
    (hmn : G.m < n) (hwm : waitKM l G.k G.m = true) (h0S : ∀ v, G.Sg false v { w with drawn := w.drawn + 1 }) (h0s : G.Sty w { w with drawn := w.drawn + 1 })
    (h : wpGrowY P l.toArray G w L (fun s a' => ∀ W, G.Sty w W → G.Sg (decide (G.k < n)) (s.getD G.m undef) W → (∀ j, j < n → (L j).mem (s.getD j undef) W) → Tail a' W) (l.take n) [] a) : Any l.toArray.size (Array.replicate l.toArray.size false) a { w with drawn := w.drawn + 1 } := by
  simp only [growTB, Bool.and_eq_true, decide_eq_true_eq, Bool.or_eq_true] at hB
  obtain ⟨⟨⟨⟨⟨hsel, hn⟩, htail⟩, hlook⟩, hap⟩, hback⟩ := hB
  have hap := apartB_spec hap
  have htl : (l.take n).length = n := by simp; omega
  have hdl : (l.drop n).length = l.length - n := by simp
  have hsel' : ∀ (j : Nat) (o : Oper) cs b, l.toArray[j]? = some o → o.op ≠ .select cs b := Region.noSelect_spec hsel
  have back : ∀ (j : Nat) (o : Oper), l[j]? = some o → ∀ e ∈ o.after, Region.binds .any e = true → e.on < j := fun j o hj e he hb => by
    have hj2 : (o, j) ∈ l.zipIdx := List.mem_iff_getElem?.2 ⟨j, by simp [hj]⟩
    have h1 := List.all_eq_true.1 hback _ (by simpa using hj2)
    have h2 := (Array.all_eq_true_iff_forall_mem.1 h1) e he
    simp only [hb, Bool.not_true, Bool.false_or, decide_eq_true_eq] at h2
    exact h2
  have key : ∀ (m : Nat) (listed : Array Bool) (x : Act) (W : World) (vs : Nat → Value), HeadInv .any l.toArray n listed → (∀ k, (L k).is (vs k)) → (∀ k, k < n → listed.getD k false = true → (L k).mem (vs k) W) →
      Laid (l.take n) vs a (fun j => listed.getD j false = true) x → G.Sty w W → G.Sg (listed.getD G.k false) (vs G.m) W →
      (List.range n).countP (fun i => !listed.getD i true) = m → Any (m + (l.length - n)) listed x W := by
    intro m
    induction m with
    | zero =>
      intro listed x W vs inv hvs hmem hx hb hSg hc
      have hall : ∀ i, i < n → listed.getD i true = true := fun i hi => by
        have := List.countP_eq_zero.1 hc i (List.mem_range.2 hi)
        simpa using this
      have hsz : listed.size = l.length := by have := inv.size; simpa using this
      have hL : listed = ((List.range l.length).map fun i => decide (i < n)).toArray := by
        apply Array.ext
        · simp [hsz]
        · intro i h1 h2
          simp
          by_cases hi : i < n
          · have := hall i hi
            simp [Array.getD, h1] at this
            simp [this, hi]
          · have := inv.tail i (by omega) (by simpa using (by omega : i < l.length))
            simp [Array.getD, h1] at this
            simp [this, hi]
      obtain ⟨-, s', hs1, hs2, hK⟩ := wpGrowY_values _ _ _ h vs hvs (fun k hk => by simp at hk)
      simp only [List.length_nil, Nat.zero_add] at hK hs1
      rw [htl] at hK hs1
      have hx2 : x = layT (l.take n) (fun j => vs j) n a := Laid.eq (hx.congr (D' := (· < n)) fun j hj => by
        rw [htl] at hj
        have h1 := hall j hj
        have hjs : j < listed.size := by omega
        simp [Array.getD, hjs] at h1 ⊢
        simp [h1, hj]) (layT_laid hap vs a n (by omega))
      have hSg2 : G.Sg (decide (G.k < n)) (s'.getD G.m undef) W := by
        rw [hs2 G.m (by omega)]
        have e : listed.getD G.k false = decide (G.k < n) := by
          by_cases hk : G.k < n
          · have h1 := hall _ hk
            have hks : G.k < listed.size := by omega
            simp [Array.getD, hks] at h1 ⊢
            simp [h1, hk]
          · rcases Nat.lt_or_ge G.k l.length with hl2 | hl2
            · have := inv.tail G.k (by omega) (by simpa using hl2)
              have hks : G.k < listed.size := by omega
              simp [Array.getD, hks] at this ⊢
              simp [this, hk]
            · have hks : ¬ G.k < listed.size := by omega
              simp [Array.getD, hks, hk]
        rw [← e]; exact hSg
      have hw := hK W hb hSg2 (fun j hj => by
        rw [hs2 j (by omega)]
        refine hmem j hj ?_
        have h1 := hall j hj
        have hjs : j < listed.size := by omega
        simp [Array.getD, hjs] at h1 ⊢
        exact h1)
      rw [← hx2] at hw
      rw [Nat.zero_add]
      have hL2 : listed = listedN l.length n := hL
      rw [hL2]
      exact hend x W hw
    | succ m ih =>
      intro listed x W vs inv hvs hmem hx hb hSg hc
      have hsz : listed.size = l.length := by have := inv.size; simpa using this
      rw [show m + 1 + (l.length - n) = (m + (l.length - n)) + 1 by omega]
      refine hstep _ _ _ _ (fun hr => ?_) (fun i hi => ?_)
      · exfalso
        have hall : ∀ i, i < n → listed.getD i true = true := by
          intro i
          induction i using Nat.strongRecOn with
          | _ i ihs =>
            intro hi
            have hil : i < l.length := by omega
            have ho : l[i]? = some l[i] := by simp
            cases hx : listed.getD i true with
            | true => rfl
            | false =>
              have : i ∈ Region.ready .any l.toArray listed := mem_ready.2 ⟨hx, l[i], by simp, fun e he hbd => by
                have hlt := back i _ ho e he hbd
                have h1 := ihs e.on hlt (by omega)
                have hes : e.on < listed.size := by omega
                simp [Array.getD, hes] at h1 ⊢
                exact h1⟩
              rw [hr] at this; cases this
        have : (List.range n).countP (fun i => !listed.getD i true) = 0 := List.countP_eq_zero.2 fun i hi => by simp [hall i (List.mem_range.1 hi)]
        omega
      · obtain ⟨hun, o, ho, hall⟩ := mem_ready.1 hi
        have hil : i < l.length := by have := (Array.getElem?_eq_some_iff.1 ho).1; simpa using this
        have hin : i < n := by
          rcases Nat.lt_or_ge i n with h1 | h1
          · exact h1
          · rcases htail with ht | ⟨hs, hcn⟩
            · omega
            · obtain ⟨k, hk, hku⟩ : ∃ k, k < n ∧ listed.getD k true = false := by
                refine Classical.byContradiction fun hno => ?_
                have : (List.range n).countP (fun i => !listed.getD i true) = 0 := List.countP_eq_zero.2 fun k hk => by
                  have : ¬ listed.getD k true = false := fun h => hno ⟨k, List.mem_range.1 hk, h⟩
                  simpa using this
                omega
              exact absurd hi (tail_waitsT hs hcn (by simpa using (by omega : n < l.length)) inv _ k rfl hk hku i h1)
        have hol : l[i]? = some o := by simpa using ho
        have hot : (l.take n)[i]? = some o := by rw [List.getElem?_take_of_lt hin]; exact hol
        have hlaid := layT_laid hap vs a i (by omega : i ≤ (l.take n).length)
        have hsame : ∀ t ∈ o.looksAt l.toArray, x.tmps[t]? = (layT (l.take n) vs i a).tmps[t]? := by
          intro t ht
          by_cases hx2 : ∃ (j : Nat) (o' : Oper), (l.take n)[j]? = some o' ∧ o'.dst = some t
          · obtain ⟨j, o', hj, hd⟩ := hx2
            obtain ⟨e, he, hbd, hon⟩ := looksB_spec hlook hot hj hd ht
            have hdone := hall e he hbd
            have hlt := back i o hol e he hbd
            rw [hon] at hdone hlt
            by_cases hts : t < a.tmps.size
            · rw [hx.done j o' t hj hdone hd hts, hlaid.done j o' t hj hlt hd hts]
            · have g1 : x.tmps.size ≤ t := Nat.le_trans (Nat.le_of_eq hx.size) (Nat.le_of_not_lt hts)
              have g2 : (layT (l.take n) vs i a).tmps.size ≤ t := Nat.le_trans (Nat.le_of_eq hlaid.size) (Nat.le_of_not_lt hts)
              rw [Array.getElem?_eq_none g1, Array.getElem?_eq_none g2]
          · have hn2 : ∀ (D : Nat → Prop) (j : Nat) (o' : Oper), (l.take n)[j]? = some o' → D j → o'.dst ≠ some t := fun D j o' hj _ hd => hx2 ⟨j, o', hj, hd⟩
            rw [hx.else_ t (hn2 _), hlaid.else_ t (hn2 _)]
        obtain ⟨he1, he2⟩ := exec_same (hsel' i o · · ho) hsame
        have hgx : GrowsAtY P l.toArray G w o (decide (i = G.k)) (vs G.m) (fun W => ∀ j, waitsB o j = true → j < i → (L j).mem (vs j) W) (L i) x := by
          have := (wpGrowY_values _ _ _ h vs hvs (fun k hk => by simp at hk)).1 i o hot
          simp only [List.length_nil, Nat.zero_add] at this ⊢
          unfold GrowsAtY at this ⊢
          rw [he1, he2]
          exact this
        refine ⟨o, decide (i = G.k), listed.getD G.k false, vs G.m, vs G.m, _, L i, ho, (fun j hj hji => ?_), (fun hsp => ?_), hSg, hb, hx.defers, hgx, fun v W' hvi hvm hb' hSg' => ih _ _ W' (fun k => if k = i then v else vs k) (inv.set hi hin) (fun k => ?_) (fun k hk hkl => ?_) ?_ (G.trans hb hb') ?_ ?_⟩
        · refine hmem j (by omega) ?_
          obtain ⟨e, he, hbe⟩ := Array.any_eq_true'.1 hj
          simp only [Bool.and_eq_true, beq_iff_eq] at hbe
          have := hall e he hbe.1
          rw [hbe.2] at this
          exact this
        · refine ⟨?_, rfl⟩
          have e := of_decide_eq_true hsp
          subst e
          have his : G.k < listed.size := by omega
          simp [Array.getD, his] at hun ⊢
          exact hun
        · by_cases e : k = i
          · subst e; simpa using hvi
          · simpa [e] using hvs k
        · by_cases e : k = i
          · subst e; simpa using hvm
          · rw [getD_set_ne false (Ne.symm e)] at hkl
            simpa [e] using (L k).stays _ _ _ (hmem k hk hkl) hb'
        · have hx' : Laid (l.take n) (fun k => if k = i then v else vs k) a (fun j => listed.getD j false = true) x := ⟨hx.defers, hx.size, fun j o' d hj hD hd hlt => by
            have hne : j ≠ i := fun e => by
              subst e
              have his : j < listed.size := by omega
              simp [Array.getD, his] at hun hD
              rw [hun] at hD; cases hD
            simp only [hne, if_false]
            exact hx.done j o' d hj hD hd hlt, hx.else_⟩
          have hput := hx'.put hap hot
          simp only [if_true] at hput
          refine hput.congr fun j hj => ?_
          by_cases e : j = i
          · subst e
            have : j < listed.size := by omega
            simp [Array.getD, this]
          · rw [getD_set_ne false (Ne.symm e)]; simp [e]
        · by_cases em : i = G.m
          · have hne : i ≠ G.k := by have := G.less; omega
            have hkf : listed.getD G.k false = false := by
              cases hq : listed.getD G.k false with
              | false => rfl
              | true =>
                unfold waitKM at hwm
                split at hwm
                · rename_i ok hok
                  obtain ⟨e, he, hbe⟩ := Array.any_eq_true'.1 hwm
                  simp only [Bool.and_eq_true, beq_iff_eq] at hbe
                  have := inv.closed G.k ok (by simpa using hok) hq e he hbe.1
                  rw [hbe.2, ← em, getD_both hun] at this
                  cases this
                · cases hwm
            rw [getD_set_ne false hne, hkf]
            rw [hkf] at hSg'
            simp only [hne, decide_false, Bool.or_false] at hSg'
            exact G.free _ _ _ hSg'
          simp only [Ne.symm em, if_false]
          by_cases e : i = G.k
          · have his : G.k < listed.size := by omega
            rw [e]
            simp only [e, decide_true, Bool.true_or] at hSg'
            simpa [Array.getD, his] using hSg'
          · rw [getD_set_ne false e]
            simpa [e] using hSg'
        · have his : i < listed.size := by omega
          have hcnt : ∀ (r : List Nat), r.Nodup → i ∈ r → r.countP (fun j => !listed.getD j true) = r.countP (fun j => !(listed.setIfInBounds i true).getD j true) + 1 := by
            intro r
            induction r with
            | nil => intro _ h; cases h
            | cons y r ihr =>
              intro hnd hm
              rw [List.countP_cons, List.countP_cons]
              have hnd2 := List.nodup_cons.1 hnd
              by_cases e : y = i
              · subst e
                have h1 : r.countP (fun j => !listed.getD j true) = r.countP (fun j => !(listed.setIfInBounds y true).getD j true) := List.countP_congr fun j hj => by
                  have hne : y ≠ j := fun e => hnd2.1 (e ▸ hj)
                  rw [getD_set_ne true hne]
                rw [h1, hun]
                simp [Array.getD, his]
              · have hm2 : i ∈ r := by
                  rcases List.mem_cons.1 hm with h | h
                  · exact absurd h.symm e
                  · exact h
                rw [ihr hnd2.2 hm2, getD_set_ne true (Ne.symm e)]
                omega
          have := hcnt (List.range n) List.nodup_range (List.mem_range.2 hin)
          omega
  have h0 := key n (Array.replicate l.toArray.size false) a { w with drawn := w.drawn + 1 } (fun k => (L k).some_.choose)
    ⟨by simp, fun j oj _ hl => (by rw [getD_replicate_false] at hl; cases hl), fun t _ ht => getD_in (by simpa using ht) (getD_replicate_false _ _)⟩
    (fun k => (L k).some_.choose_spec) (fun k _ hk => by rw [getD_replicate_false] at hk; cases hk)
    (Laid.refl _ _ _ _ fun j => by rw [getD_replicate_false]; simp) h0s (by rw [getD_replicate_false]; exact h0S _) (by
      have : (List.range n).countP (fun i => !(Array.replicate l.toArray.size false).getD i true) = (List.range n).length := List.countP_eq_length.2 fun i hi => by
        have hi := List.mem_range.1 hi
        have : i < l.length := by omega
        simp [Array.getD, this]
      simpa using this)
  rw [show n + (l.length - n) = l.toArray.size by simp; omega] at h0
  exact h0
theorem wp_region_growY {P : Program} {id : Nat} {l : List Oper} {Q : Exit → Act → World → Prop} {a : Act} {w : World} (G : GoesY) (n : Nat) (Ls : List (ToldS G.Sty)) (hm : P.follows .mixedOrders = true) (hB : growTB l n = true) (hmn : G.m < n) (hwm : waitKM l G.k G.m = true) (h0 : ∀ v, G.Sg false v w) (hQ : ∀ x ch W, x.defers = a.defers → G.Qp ch W → Q (.panic ch) x W)
    (h : wpGrowY P l.toArray G w (toldsS Ls) (fun s a' => ∀ W, G.Sty w W → G.Sg (decide (G.k < n)) (s.getD G.m undef) W → (∀ j, j < n → (toldsS Ls j).mem (s.getD j undef) W) → wpAny P .any l.toArray Q (l.length - n) (listedN l.length n) a' W) (l.take n) [] a) : (Code.region id l.toArray true).wp P Q a w := by
  have hdr : Below w.heap.size w { w with drawn := w.drawn + 1 } := xdrew (xrefl w)
  refine wp_region_any hm (grow_keyY G n (toldsS Ls) hB (fun a' W => wpAny P .any l.toArray Q (l.length - n) (listedN l.length n) a' W) (wpAny P .any l.toArray Q) ?_ ?_ hmn hwm (fun v => G.keeps false v (h0 v) hdr) (G.below hdr) h)
  · rintro m listed x W hne hs
    refine ⟨fun hr => absurd hr hne, fun i hi => ?_⟩
    obtain ⟨o, sp, b, u, v0, F, T, ho, hF, hbk, hS, hb, hd, hg, hk⟩ := hs i hi
    exact wpOp_of_growsY ho hg hbk hS hb hF (fun ch W' => hQ x ch W' hd) hk
  · exact fun x W h => h
def styN (n0 : Nat) (T : TypeId) (q : Nat) (W W' : World) : Prop := (n0 ≤ W.heap.size → Below n0 W W') ∧ ∀ b vs, n0 ≤ b → vs.length = q → BlkG W b T vs → ∃ vs', vs'.length = q ∧ BlkG W' b T vs'
theorem styN_below {n0 : Nat} {T : TypeId} {q : Nat} {W W' : World} (h : Below W.heap.size W W') : styN n0 T q W W' := ⟨fun hn => h.mono hn, fun _ vs _ hl hB => ⟨vs, hl, hB.below h⟩⟩
def goesN (n0 : Nat) (T : TypeId) (q : Nat) (vs1 : List Value) (k m : Nat) (hkm : m < k) : GoesY :=
  ⟨styN n0 T q, fun b v W => b = true → ∀ j : Nat, v = .pointer (some ⟨j, 0, none⟩) → BlkG W j T vs1, fun _ _ => False, k, m, hkm, fun W => styN_below (xrefl W),
   fun h g => ⟨fun hn => (h.1 hn).trans (g.1 (Nat.le_trans hn (h.1 hn).size)), fun b vs hb hl hB => (h.2 b vs hb hl hB).elim fun vs' h' => g.2 b vs' hb h'.1 h'.2⟩,
   styN_below, fun _ _ _ _ h hb e j ej => (h e j ej).below hb, fun _ _ _ _ e => (by cases e)⟩
def newTY {n0 : Nat} {T : TypeId} {q : Nat} : ToldS (styN n0 T q) :=
  ⟨fun v => ∃ b : Nat, v = .pointer (some ⟨b, 0, none⟩), fun v W => ∀ b : Nat, v = .pointer (some ⟨b, 0, none⟩) → n0 ≤ b ∧ ∃ vs, vs.length = q ∧ BlkG W b T vs, ⟨_, 0, rfl⟩,
   fun v W W' h hs b e => ⟨(h b e).1, (h b e).2.elim fun vs h' => hs.2 b vs (h b e).1 h'.1 h'.2⟩⟩
section
variable {P : Program} {ops : Array Oper} {w : World} {n0 : Nat} {T : TypeId} {q : Nat} {vs1 : List Value} {k m : Nat} {hkm : m < k} {L : Nat → ToldS (styN n0 T q)} {K : List Value → Act → Prop} {o : Oper} {rest : List Oper} {s : List Value} {a : Act}
theorem wpGrowY_alloc (hL : L s.length = newTY) (hk : decide (s.length = k) = false) (hw : Region.wanted o (yielded ops a.tmps) = true) (hn : n0 ≤ w.heap.size) (vs : List Value) (hq : vs.length = q)
    (hv : ∀ W, (execOp a.eval o).run P W = .ok (.value (.pointer (some ⟨W.heap.size, 0, none⟩))) (W.alloc (.cells vs.toArray T)))
    (h : ∀ b : Nat, wpGrowY P ops (goesN n0 T q vs1 k m hkm) w L K rest (s ++ [.pointer (some ⟨b, 0, none⟩)]) (a.put o.dst (.pointer (some ⟨b, 0, none⟩)))) : wpGrowY P ops (goesN n0 T q vs1 k m hkm) w L K (o :: rest) s a := by
  refine wpGrowY_any (G := goesN n0 T q vs1 k m hkm) newTY hL hw (fun b v0 W _ hS hb _ => ?_) (fun v hv => ?_)
  · rw [hv W]
    have hd : decide (s.length = (goesN n0 T q vs1 k m hkm).k) = false := hk
    rw [hd]
    refine ⟨⟨⟨_, rfl⟩, fun b e => ?_⟩, styN_below (xalloc (xrefl W) _), ?_⟩
    · cases e
      exact ⟨Nat.le_trans hn (hb.1 hn).size, vs, hq, BlkG.new W T vs⟩
    · exact (goesN n0 T q vs1 k m hkm).keeps b v0 hS (xalloc (xrefl W) _)
  · obtain ⟨b, rfl⟩ := hv
    exact h b
theorem wpGrowY_store (hL : L s.length = fixdS undef) (hk : decide (s.length = k) = true) (hgd : o.guard = none) (ty : TypeId) (x y : Operand) (ho : o.op = .store ty x y) (b : Nat) (hx : a.eval x = .pointer (some ⟨b, 0, none⟩)) (hy : a.eval y = .agg vs1.toArray)
    (hq : vs1.length = q) (hi : (P.info? ty).map (·.size) = some vs1.length) (h1 : vs1.all (·.oneCell') = true) (hn : n0 ≤ w.heap.size) (hm : s.getD m undef = .pointer (some ⟨b, 0, none⟩)) (hwt : waitsB o m = true) (hT : L m = newTY)
    (h : wpGrowY P ops (goesN n0 T q vs1 k m hkm) w L K rest (s ++ [undef]) (a.put o.dst undef)) : wpGrowY P ops (goesN n0 T q vs1 k m hkm) w L K (o :: rest) s a := by
  have hk' : s.length = k := of_decide_eq_true hk
  refine wpGrowY_any (G := goesN n0 T q vs1 k m hkm) (fixdS undef) hL (by simp [Region.wanted, hgd]) (fun c v0 W hc hS hb hF => ?_) (fun v hv => by have : v = undef := hv; subst this; exact h)
  have hd : decide (s.length = (goesN n0 T q vs1 k m hkm).k) = true := hk
  obtain ⟨rfl, rfl⟩ := hc hd
  have hF2 := hF m hwt (by omega)
  rw [hT, hm] at hF2
  obtain ⟨hnb, vs, hl, hB⟩ := hF2 b rfl
  have hrun := run_storeAt_mid (P := P) W b 0 ty vs1.toArray (by simpa [hl, hq] using hB.there) (by simpa using hi) (by simpa using h1)
  have hnew : BlkG (W.setCells b 0 vs1) b T vs1 := by
    have := setCells_blk b T vs1 [] vs W (by simpa [BlkG] using hB) (by simp [hl, hq])
    simpa [BlkG] using this
  have ho2 := setCells_only b 0 vs1 W
  unfold execOp
  simp only [ho, hx, hy, Sem.run_bind, hrun, Result.andThen_ok, Sem.run_pure]
  rw [hd]
  refine ⟨⟨rfl, trivial⟩, ⟨fun hn2 => ho2.below (Below.refl n0 W) hn2 (by rintro i rfl; exact hnb), fun b' vs' hb' hl' hB' => ?_⟩, fun _ j ej => ?_⟩
  · by_cases e : b' = b
    · subst e; exact ⟨vs1, hq, hnew⟩
    · exact ⟨vs', hl', hB'.only ho2 e⟩
  · have hj : s.getD m undef = .pointer (some ⟨j, 0, none⟩) := ej
    rw [hm] at hj
    cases hj
    exact hnew
end
end
end Go.Proofs.YtijkdabmegbcjaaGreatDoor
