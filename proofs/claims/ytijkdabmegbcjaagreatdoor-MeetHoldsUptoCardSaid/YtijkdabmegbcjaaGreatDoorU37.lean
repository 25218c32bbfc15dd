/- Texts of this claim, merged; no condition. -/
import Derived.Test.YtijkdabmegbcjaaGreatDoorU02
set_option linter.all false
namespace Go.Proofs.YtijkdabmegbcjaaGreatDoor
open Go.RowKit

/-- Each operation behind the n-th waits for one of them, or for the n-th. -/
def treeTB (ops : Array Oper) (n : Nat) : Bool := (List.range ops.size).all fun t => decide (t ≤ n) || (List.range t).any fun j => decide (n ≤ j) && Region.waitsFor .any ops t j
theorem tail_waitsT {ops : Array Oper} {n : Nat} {listed : Array Bool} (hs : Region.sinkB .any ops n = true) (hc : treeTB ops n = true) (hn : n < ops.size) (inv : HeadInv .any ops n listed) :
    ∀ (d i : Nat), n - i = d → i < n → listed.getD i true = false → ∀ t, n ≤ t → t ∉ Region.ready .any ops listed := by
  intro d
  induction d using Nat.strongRecOn with
  | _ d ih =>
    intro i hd hi hun t ht hr
    obtain ⟨_, ot, hot, hall⟩ := mem_ready.1 hr
    have htlt : t < ops.size := (Array.getElem?_eq_some_iff.1 hot).1
    by_cases htn : t = n
    · subst htn
      have h1 := List.all_eq_true.1 hs i (List.mem_range.2 hi)
      obtain ⟨j, hj, hj2⟩ := List.any_eq_true.1 h1
      simp only [Bool.and_eq_true, decide_eq_true_eq] at hj2
      obtain ⟨oj, hoj, e, he, hb, hon⟩ := Region.waitsFor_spec hj2.2
      have hjle : j ≤ t := by have := List.mem_range.1 hj; omega
      by_cases hjt : j = t
      · subst hjt
        have : oj = ot := Option.some.inj (hoj.symm.trans hot)
        subst this
        have h2 := hall e he hb
        rw [hon, getD_both hun] at h2
        cases h2
      · cases hl : listed.getD j false with
        | true =>
          have h2 := inv.closed j oj hoj hl e he hb
          rw [hon, getD_both hun] at h2
          cases h2
        | false =>
          have hjs : j < listed.size := by rw [inv.size]; omega
          exact ih (t - j) (by omega) j rfl (by omega) (getD_in hjs hl) t (Nat.le_refl _) hr
    · have h1 := List.all_eq_true.1 hc t (List.mem_range.2 htlt)
      simp only [Bool.or_eq_true, decide_eq_true_eq] at h1
      rcases h1 with h1 | h1
      · omega
      · obtain ⟨j, hj, hj2⟩ := List.any_eq_true.1 h1
        simp only [Bool.and_eq_true, decide_eq_true_eq] at hj2
        obtain ⟨o', ho', e, he, hb, hon⟩ := Region.waitsFor_spec hj2.2
        have : o' = ot := Option.some.inj (ho'.symm.trans hot)
        subst this
        have h2 := hall e he hb
        rw [hon, getD_both (inv.tail j hj2.1 (by have := List.mem_range.1 hj; omega))] at h2
        cases h2
def growTB (l : List Oper) (n : Nat) : Bool :=
  Region.noSelect l.toArray && decide (n ≤ l.length) && (decide (n = l.length) || Region.sinkB .any l.toArray n && treeTB l.toArray n) && looksB (l.take n) l.toArray && apartB (l.take n) && backB l.toArray
/-- The first n of m are done. -/
def listedN (m n : Nat) : Array Bool := ((List.range m).map fun i => decide (i < n)).toArray
theorem grow_keyT {P : Program} {l : List Oper} {a : Act} {w : World} (n : Nat) (L : Nat → Told) (hB : growTB l n = true) (Tail : Act → World → Prop) (Any : Nat → Array Bool → Act → World → Prop)
    (hstep : ∀ (m : Nat) (listed : Array Bool) (x : Act) (W : World), Region.ready .any l.toArray listed ≠ [] →
      (∀ i ∈ Region.ready .any l.toArray listed, ∃ (o : Oper) (F : World → Prop) (T : Told), l.toArray[i]? = some o ∧ F W ∧ Below w.heap.size w W ∧ GrowsAtV P l.toArray w o F T x ∧ ∀ v W', T.is v → T.mem v W' → Below W.heap.size W W' → Any m (listed.setIfInBounds i true) (x.put o.dst v) W') → Any (m + 1) listed x W)
    (hend : ∀ (x : Act) (W : World), Tail x W → Any (l.length - n) (listedN l.length n) x W)
    (h : wpGrowV P l.toArray w L (fun s a' => ∀ W, Below w.heap.size w W → (∀ j, j < n → (L j).mem (s.getD j undef) W) → Tail a' W) (l.take n) [] a) : Any l.toArray.size (Array.replicate l.toArray.size false) a { w with drawn := w.drawn + 1 } := by
  simp only [growTB, Bool.and_eq_true, decide_eq_true_eq, Bool.or_eq_true] at hB
  obtain ⟨⟨⟨⟨⟨hsel, hn⟩, htail⟩, hlook⟩, hap⟩, hback⟩ := hB
  have hap := apartB_spec hap
  have htl : (l.take n).length = n := by simp; omega
  have hdl : (l.drop n).length = l.length - n := by simp
  have hsel' : ∀ (j : Nat) (o : Oper) cs b, l.toArray[j]? = some o → o.op ≠ .select cs b := Region.noSelect_spec hsel
  have back : ∀ (j : Nat) (o : Oper), l[j]? = some o → ∀ e ∈ o.after, Region.binds .any e = true → e.on < j := fun j o hj e he hb => by
    have hj2 : (o, j) ∈ l.zipIdx := List.mem_iff_getElem?.2 ⟨j, by simp [hj]⟩
    have h1 := List.all_eq_true.1 hback _ (by simpa using hj2)
    have h2 := (Array.all_eq_true_iff_forall_mem.1 h1) e he
    simp only [hb, Bool.not_true, Bool.false_or, decide_eq_true_eq] at h2
    exact h2
  have key : ∀ (m : Nat) (listed : Array Bool) (x : Act) (W : World) (vs : Nat → Value), HeadInv .any l.toArray n listed → (∀ k, (L k).is (vs k)) → (∀ k, k < n → listed.getD k false = true → (L k).mem (vs k) W) →
      Laid (l.take n) vs a (fun j => listed.getD j false = true) x → Below w.heap.size w W →
      (List.range n).countP (fun i => !listed.getD i true) = m → Any (m + (l.length - n)) listed x W := by
    intro m
    induction m with
    | zero =>
      intro listed x W vs inv hvs hmem hx hb hc
      have hall : ∀ i, i < n → listed.getD i true = true := fun i hi => by
        have := List.countP_eq_zero.1 hc i (List.mem_range.2 hi)
        simpa using this
      have hsz : listed.size = l.length := by have := inv.size; simpa using this
      have hL : listed = ((List.range l.length).map fun i => decide (i < n)).toArray := by
        apply Array.ext
        · simp [hsz]
        · intro i h1 h2
          simp
          by_cases hi : i < n
          · have := hall i hi
            simp [Array.getD, h1] at this
            simp [this, hi]
          · have := inv.tail i (by omega) (by simpa using (by omega : i < l.length))
            simp [Array.getD, h1] at this
            simp [this, hi]
      obtain ⟨-, s', hs1, hs2, hK⟩ := wpGrowV_values _ _ _ h vs hvs (fun k hk => by simp at hk)
      simp only [List.length_nil, Nat.zero_add] at hK hs1
      rw [htl] at hK hs1
      have hx2 : x = layT (l.take n) (fun j => vs j) n a := Laid.eq (hx.congr (D' := (· < n)) fun j hj => by
        rw [htl] at hj
        have h1 := hall j hj
        have hjs : j < listed.size := by omega
        simp [Array.getD, hjs] at h1 ⊢
        simp [h1, hj]) (layT_laid hap vs a n (by omega))
      have hw := hK W hb (fun j hj => by
        rw [hs2 j (by omega)]
        refine hmem j hj ?_
        have h1 := hall j hj
        have hjs : j < listed.size := by omega
        simp [Array.getD, hjs] at h1 ⊢
        exact h1)
      rw [← hx2] at hw
      rw [Nat.zero_add]
      have hL2 : listed = listedN l.length n := hL
      rw [hL2]
      exact hend x W hw
    | succ m ih =>
      intro listed x W vs inv hvs hmem hx hb hc
      have hsz : listed.size = l.length := by have := inv.size; simpa using this
      rw [show m + 1 + (l.length - n) = (m + (l.length - n)) + 1 by omega]
      refine hstep _ _ _ _ (fun hr => ?_) (fun i hi => ?_)
      · exfalso
        have hall : ∀ i, i < n → listed.getD i true = true := by
          intro i
          induction i using Nat.strongRecOn with
          | _ i ihs =>
            intro hi
            have hil : i < l.length := by omega
            have ho : l[i]? = some l[i] := by simp
            cases hx : listed.getD i true with
            | true => rfl
            | false =>
              have : i ∈ Region.ready .any l.toArray listed := mem_ready.2 ⟨hx, l[i], by simp, fun e he hbd => by
                have hlt := back i _ ho e he hbd
                have h1 := ihs e.on hlt (by omega)
                have hes : e.on < listed.size := by omega
                simp [Array.getD, hes] at h1 ⊢
                exact h1⟩
              rw [hr] at this; cases this
        have : (List.range n).countP (fun i => !listed.getD i true) = 0 := List.countP_eq_zero.2 fun i hi => by simp [hall i (List.mem_range.1 hi)]
        omega
      · obtain ⟨hun, o, ho, hall⟩ := mem_ready.1 hi
        have hil : i < l.length := by have := (Array.getElem?_eq_some_iff.1 ho).1; simpa using this
        have hin : i < n := by
          rcases Nat.lt_or_ge i n with h1 | h1
          · exact h1
          · rcases htail with ht | ⟨hs, hcn⟩
            · omega
            · obtain ⟨k, hk, hku⟩ : ∃ k, k < n ∧ listed.getD k true = false := by
                refine Classical.byContradiction fun hno => ?_
                have : (List.range n).countP (fun i => !listed.getD i true) = 0 := List.countP_eq_zero.2 fun k hk => by
                  have : ¬ listed.getD k true = false := fun h => hno ⟨k, List.mem_range.1 hk, h⟩
                  simpa using this
                omega
              exact absurd hi (tail_waitsT hs hcn (by simpa using (by omega : n < l.length)) inv _ k rfl hk hku i h1)
        have hol : l[i]? = some o := by simpa using ho
        have hot : (l.take n)[i]? = some o := by rw [List.getElem?_take_of_lt hin]; exact hol
        have hlaid := layT_laid hap vs a i (by omega : i ≤ (l.take n).length)
        have hsame : ∀ t ∈ o.looksAt l.toArray, x.tmps[t]? = (layT (l.take n) vs i a).tmps[t]? := by
          intro t ht
          by_cases hx2 : ∃ (j : Nat) (o' : Oper), (l.take n)[j]? = some o' ∧ o'.dst = some t
          · obtain ⟨j, o', hj, hd⟩ := hx2
            obtain ⟨e, he, hbd, hon⟩ := looksB_spec hlook hot hj hd ht
            have hdone := hall e he hbd
            have hlt := back i o hol e he hbd
            rw [hon] at hdone hlt
            by_cases hts : t < a.tmps.size
            · rw [hx.done j o' t hj hdone hd hts, hlaid.done j o' t hj hlt hd hts]
            · have g1 : x.tmps.size ≤ t := Nat.le_trans (Nat.le_of_eq hx.size) (Nat.le_of_not_lt hts)
              have g2 : (layT (l.take n) vs i a).tmps.size ≤ t := Nat.le_trans (Nat.le_of_eq hlaid.size) (Nat.le_of_not_lt hts)
              rw [Array.getElem?_eq_none g1, Array.getElem?_eq_none g2]
          · have hn2 : ∀ (D : Nat → Prop) (j : Nat) (o' : Oper), (l.take n)[j]? = some o' → D j → o'.dst ≠ some t := fun D j o' hj _ hd => hx2 ⟨j, o', hj, hd⟩
            rw [hx.else_ t (hn2 _), hlaid.else_ t (hn2 _)]
        obtain ⟨he1, he2⟩ := exec_same (hsel' i o · · ho) hsame
        have hgx : GrowsAtV P l.toArray w o (fun W => ∀ j, waitsB o j = true → j < i → (L j).mem (vs j) W) (L i) x := by
          have := (wpGrowV_values _ _ _ h vs hvs (fun k hk => by simp at hk)).1 i o hot
          simp only [List.length_nil, Nat.zero_add] at this ⊢
          unfold GrowsAtV at this ⊢
          rw [he1, he2]
          exact this
        refine ⟨o, _, L i, ho, (fun j hj hji => ?_), hb, hgx, fun v W' hvi hvm hb' => ih _ _ W' (fun k => if k = i then v else vs k) (inv.set hi hin) (fun k => ?_) (fun k hk hkl => ?_) ?_ (xtrans hb hb') ?_⟩
        · refine hmem j (by omega) ?_
          obtain ⟨e, he, hbe⟩ := Array.any_eq_true'.1 hj
          simp only [Bool.and_eq_true, beq_iff_eq] at hbe
          have := hall e he hbe.1
          rw [hbe.2] at this
          exact this
        · by_cases e : k = i
          · subst e; simpa using hvi
          · simpa [e] using hvs k
        · by_cases e : k = i
          · subst e; simpa using hvm
          · rw [getD_set_ne false (Ne.symm e)] at hkl
            simpa [e] using (L k).stays _ _ _ (hmem k hk hkl) hb'
        · have hx' : Laid (l.take n) (fun k => if k = i then v else vs k) a (fun j => listed.getD j false = true) x := ⟨hx.defers, hx.size, fun j o' d hj hD hd hlt => by
            have hne : j ≠ i := fun e => by
              subst e
              have his : j < listed.size := by omega
              simp [Array.getD, his] at hun hD
              rw [hun] at hD; cases hD
            simp only [hne, if_false]
            exact hx.done j o' d hj hD hd hlt, hx.else_⟩
          have hput := hx'.put hap hot
          simp only [if_true] at hput
          refine hput.congr fun j hj => ?_
          by_cases e : j = i
          · subst e
            have : j < listed.size := by omega
            simp [Array.getD, this]
          · rw [getD_set_ne false (Ne.symm e)]; simp [e]
        · have his : i < listed.size := by omega
          have hcnt : ∀ (r : List Nat), r.Nodup → i ∈ r → r.countP (fun j => !listed.getD j true) = r.countP (fun j => !(listed.setIfInBounds i true).getD j true) + 1 := by
            intro r
            induction r with
            | nil => intro _ h; cases h
            | cons y r ihr =>
              intro hnd hm
              rw [List.countP_cons, List.countP_cons]
              have hnd2 := List.nodup_cons.1 hnd
              by_cases e : y = i
              · subst e
                have h1 : r.countP (fun j => !listed.getD j true) = r.countP (fun j => !(listed.setIfInBounds y true).getD j true) := List.countP_congr fun j hj => by
                  have hne : y ≠ j := fun e => hnd2.1 (e ▸ hj)
                  rw [getD_set_ne true hne]
                rw [h1, hun]
                simp [Array.getD, his]
              · have hm2 : i ∈ r := by
                  rcases List.mem_cons.1 hm with h | h
                  · exact absurd h.symm e
                  · exact h
                rw [ihr hnd2.2 hm2, getD_set_ne true (Ne.symm e)]
                omega
          have := hcnt (List.range n) List.nodup_range (List.mem_range.2 hin)
          omega
  have h0 := key n (Array.replicate l.toArray.size false) a { w with drawn := w.drawn + 1 } (fun k => (L k).some_.choose)
    ⟨by simp, fun j oj _ hl => (by rw [getD_replicate_false] at hl; cases hl), fun t _ ht => getD_in (by simpa using ht) (getD_replicate_false _ _)⟩
    (fun k => (L k).some_.choose_spec) (fun k _ hk => by rw [getD_replicate_false] at hk; cases hk)
    (Laid.refl _ _ _ _ fun j => by rw [getD_replicate_false]; simp) (xdrew (xrefl w)) (by
      have : (List.range n).countP (fun i => !(Array.replicate l.toArray.size false).getD i true) = (List.range n).length := List.countP_eq_length.2 fun i hi => by
        have hi := List.mem_range.1 hi
        have : i < l.length := by omega
        simp [Array.getD, this]
      simpa using this)
  rw [show n + (l.length - n) = l.toArray.size by simp; omega] at h0
  exact h0

theorem wp_region_growT {P : Program} {id : Nat} {l : List Oper} {Q : Exit → Act → World → Prop} {a : Act} {w : World} (n : Nat) (Ls : List Told) (hm : P.follows .mixedOrders = true) (hB : growTB l n = true)
    (h : wpGrowV P l.toArray w (tolds Ls) (fun s a' => ∀ W, Below w.heap.size w W → (∀ j, j < n → (tolds Ls j).mem (s.getD j undef) W) → wpAny P .any l.toArray Q (l.length - n) (listedN l.length n) a' W) (l.take n) [] a) : (Code.region id l.toArray true).wp P Q a w := by
  refine wp_region_any hm (grow_keyT n (tolds Ls) hB (fun a' W => wpAny P .any l.toArray Q (l.length - n) (listedN l.length n) a' W) (wpAny P .any l.toArray Q) ?_ ?_ h)
  · rintro m listed x W hne hs
    refine ⟨fun hr => absurd hr hne, fun i hi => ?_⟩
    obtain ⟨o, F, T, ho, hF, hb, hg, hk⟩ := hs i hi
    exact wpOp_of_growsV ho hg hb hF hk
  · exact fun x W h => h
/-- One operation, and what then is to come. -/
def normTo (K : Act → World → Prop) (Q : Exit → Act → World → Prop) : Exit → Act → World → Prop
  | .normal, a, w => K a w
  | e, a, w => Q e a w
theorem wpOp_of_list {P : Program} {ops : Array Oper} {Q : Exit → Act → World → Prop} {i : Nat} {K : Act → World → Prop} {a : Act} {w : World} {o : Oper} (ho : ops[i]? = some o) (h : wpList P ops (normTo K Q) [o] a w) : wpOp P ops Q i K a w := by
  unfold wpOp
  rw [ho]
  unfold wpList at h
  dsimp only at h ⊢
  split
  · rename_i hw
    rw [if_pos hw] at h
    rcases h with h | ⟨h1, a', w', h2⟩
    · refine .inl ?_
      unfold Oper.wp at *
      generalize (execOp a.eval o).run P w = r at *
      cases r with
      | ok n w' =>
        cases n with
        | value v => exact h
        | skip => exact h
        | enter f args => exact Calls.mono h fun e w' hh => by cases e <;> exact hh
        | _ => exact h
      | halt x w' => cases x <;> exact h
    · exact .inr ⟨h1, a', w', h2⟩
  · rename_i hw
    rw [if_neg hw] at h
    exact h
theorem wpAny_one {P : Program} {ops : Array Oper} {Q : Exit → Act → World → Prop} {fuel : Nat} {listed : Array Bool} {a : Act} {w : World} (i : Nat) (o : Oper) (hr : Region.ready .any ops listed = [i]) (ho : ops[i]? = some o)
    (h : wpList P ops (normTo (wpAny P .any ops Q fuel (listed.setIfInBounds i true)) Q) [o] a w) : wpAny P .any ops Q (fuel + 1) listed a w :=
  ⟨fun h => (by rw [hr] at h; cases h), fun j hj => by rw [hr, List.mem_singleton] at hj; subst hj; exact wpOp_of_list ho h⟩
theorem wpAny_two {P : Program} {ops : Array Oper} {Q : Exit → Act → World → Prop} {fuel : Nat} {listed : Array Bool} {a : Act} {w : World} (i j : Nat) (o o' : Oper) (hr : Region.ready .any ops listed = [i, j]) (ho : ops[i]? = some o) (ho' : ops[j]? = some o')
    (h : wpList P ops (normTo (wpAny P .any ops Q fuel (listed.setIfInBounds i true)) Q) [o] a w) (h' : wpList P ops (normTo (wpAny P .any ops Q fuel (listed.setIfInBounds j true)) Q) [o'] a w) : wpAny P .any ops Q (fuel + 1) listed a w :=
  ⟨fun h => (by rw [hr] at h; cases h), fun k hk => by
    rw [hr] at hk
    rcases List.mem_cons.1 hk with rfl | hk
    · exact wpOp_of_list ho h
    · rw [List.mem_singleton] at hk; subst hk; exact wpOp_of_list ho' h'⟩
theorem wpAny_end {P : Program} {ops : Array Oper} {Q : Exit → Act → World → Prop} {listed : Array Bool} {a : Act} {w : World} (hr : Region.ready .any ops listed = []) (h : Q .normal a w) : wpAny P .any ops Q 0 listed a w := ⟨hr, h⟩
end Go.Proofs.YtijkdabmegbcjaaGreatDoor
