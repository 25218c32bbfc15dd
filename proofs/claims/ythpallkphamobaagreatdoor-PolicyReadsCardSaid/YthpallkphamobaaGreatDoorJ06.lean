/- Texts of this claim, merged; no condition. -/
import Derived.Test.YthpallkphamobaaGreatDoorShelf
import Derived.Test.YthpallkphamobaaGreatDoorJ04
import Derived.Test.YthpallkphamobaaGreatDoorJ05
set_option linter.all false
namespace Go.Proofs.YthpallkphamobaaGreatDoor
open Go.RowKit Go.Shelf
attribute [local go_sem] Oper.semAt_some

/-- The library's table. -/
def gtab : Nat := Tryz.lays7x29_ren.g 1
def Tab (w : World) : Prop := TabAt gtab Lib.deBruijn64tab w
theorem Tab.lt {w : World} (h : Tab w) : gtab < w.heap.size := cell_lt (h 0 (by decide))
theorem Tab.below {w w' : World} (h : Tab w) (hb : Below w.heap.size w w') : Tab w' := fun j hj => cbel hb (h j hj)
theorem Tab.keep {O : Nat → Prop} {w w' : World} (h : Tab w) (hk : Keep O w w') (hO : O gtab) : Tab w' := fun j hj => hk.cell (h j hj) hO
theorem tz_any (a : BitVec 64) (w : World) (hT : Tab w) : Calls Tryz.prog 138 #[.int .u64 (iv64 a)] w fun e w' => e = .returned (.int .i64 (ctzB a)) ∧ w = w' :=
  (Tryz.bits_TrailingZeros64 a.toNat (by simpa using a.isLt) w (fun _ => hT)).mono fun e w' ⟨h1, h2⟩ => ⟨h1, h2.symm⟩
theorem rest_lt (a : BitVec 64) (h : a ≠ 0) : (iv64 (restB a)).toNat < (iv64 a).toNat := by
  have h0 : a.toNat ≠ 0 := fun e => h (BitVec.eq_of_toNat_eq (by simpa using e))
  have hd : (dec64 a).toNat = a.toNat - 1 := by
    unfold dec64
    rw [BitVec.toNat_sub_of_le (by rw [BitVec.le_def]; simp; omega)]
    simp
  have : (restB a).toNat ≤ (dec64 a).toNat := by
    unfold restB and64
    rw [BitVec.toNat_and]
    exact Nat.and_le_right
  unfold iv64
  omega
theorem members_any (a : BitVec 64) (w : World) : Calls Tryz.prog 125 #[.int .u64 (iv64 a)] w fun e w' => e = .returned (.func (.func 137) #[] #[.pointer (some ⟨w.heap.size, 0, none⟩)]) ∧ w.alloc (.cells #[.int .u64 (iv64 a)] 23) = w' := by
  go_enter Tryz.func125, Tryz.ntmps125
  go_wp2
  go_ret
  exact ⟨rfl, rfl⟩
/-- A principal. -/
abbrev Pn := { k : Nat // k < 64 }
def memP (a : BitVec 64) : List Pn := (memL a).pmap (fun k h => ⟨k, h⟩) fun _ h => mem_lt h
theorem memP_len (a : BitVec 64) : (memP a).length = (memL a).length := List.length_pmap
theorem memP_get (a : BitVec 64) (k : Nat) (h : k < (memP a).length) : (memP a)[k].1 = (memL a)[k]'(by rw [← memP_len]; exact h) := congrArg Subtype.val (List.getElem_pmap _ _ h)
theorem memP_map (a : BitVec 64) : (memP a).map (·.1) = memL a := by unfold memP; rw [List.map_pmap]; simp
set_option maxRecDepth 100000 in
set_option maxHeartbeats 1000000 in
theorem members_seq (a : BitVec 64) (bx : Nat) (W : World) (hx : W.cell? ⟨bx, 0, none⟩ = some (.int .u64 (iv64 a))) (hT : Tab W) :
    SeqP Tryz.prog 137 #[.pointer (some ⟨bx, 0, none⟩)] (fun x : Pn => #[.int .i64 x.1]) (fun k => k = gtab) (fun xs => xs = memP a) (fun pre => ∃ k, k ≤ (memP a).length ∧ pre = (memP a).take k) (memP a).length false W := by
  intro l J Jx hJ hJx hY h0 _
  replace hJ := Lib.hid hJ
  replace hY := Lib.hid hY
  replace hT := Lib.hid hT
  replace h0 := Lib.hid h0
  refine callsIn_of_wp Tryz.func137 rfl trivial ?_ rfl
  simp only [Tryz.ntmps137, List.size_toArray, List.length_cons, List.length_nil, Nat.reduceAdd, Nat.reduceSub, Array.replicate_succ, Array.replicate_zero, List.push_toArray, List.append_toArray, List.nil_append, List.cons_append]
  gi_wp2
  gi_loopw [3] (fun lv wr => ∃ (k : Nat), k ≤ (memP a).length ∧ lv = .int .u64 (iv64 (leftB a k)) ∧ Hid (J (fun _ => False) ((memP a).take k) wr) ∧ Hid (Keep (fun k => k = gtab) W wr)) (fun lv wr => (intOf lv).toNat)
  case atStart => exact ⟨0, by omega, rfl, h0, Lib.hid (Keep.refl _ _)⟩
  case round =>
    obtain ⟨k, hk, rfl, hJs, hkp⟩ := hrel
    by_cases hlt : k < (memP a).length
    · obtain ⟨hne, hct⟩ := left_get a k (by rw [← memP_len]; exact hlt)
      rw [← memP_get a k hlt] at hct
      have hTr := hT.out.keep hkp.out rfl
      have hz := fun W hW => tz_any (leftB a k) W hW
      rw [hct] at hz
      have hrl := Lib.hid (rest_lt _ hne)
      have hnext : Hid (leftB a (k + 1) = restB (leftB a k)) := Lib.hid rfl
      have hpre : Hid ((memP a).take (k + 1) = (memP a).take k ++ [(memP a)[k]]) := Lib.hid (List.take_succ_eq_append_getElem hlt)
      have hpl : ((memP a).take k).length < (memP a).length := by rw [List.length_take]; omega
      have hne2 : (leftB a k == 0#64) = false := by rw [beq_eq_false_iff_ne]; exact hne
      generalize (memP a)[k] = m at *
      generalize leftB a k = x at *
      obtain ⟨fn, tmps, assign, body, hy, hR⟩ := hY.out (fun _ => False) ((memP a).take k) m wr (fun k h => h.elim) hJs.out hpl ⟨k + 1, by omega, hpre.out.symm⟩
      replace hR := Lib.hid hR
      replace hz := Lib.hid (hz wr hTr)
      clear hTr hct hne
      gi_wp2_with (refine ⟨trivial, rfl, ?_⟩; gi_at_call 138; refine (callsIn_wide.2 hz.out).mono ?_; rintro e w' ⟨rfl, rfl⟩)
      refine ⟨rfl, hR.out.mono ?_⟩
      rintro e W3 (⟨rfl, hJ3, hk3⟩ | ⟨rfl, hJx3, hk3⟩)
      · have hkw : Keep (fun k => k = gtab) W W3 := hkp.out.trans (hk3.mono fun k _ h => .inr h)
        replace hJ3 := Lib.hid hJ3
        replace hkw := Lib.hid hkw
        gi_wp2
        exact ⟨⟨k + 1, by omega, by rw [hnext.out]; rfl, Lib.hid (by rw [hpre.out]; exact hJ3.out), hkw⟩, hrl.out⟩
      · gi_wp2
        refine bodyPost_ret (results_none rfl _ _ _) rfl ?_
        exact ⟨⟨_, rfl⟩, .inr ⟨_, _, ⟨k + 1, by omega, hpre.out.symm⟩, fun k h => h.elim, hJx3⟩⟩
    · have hkn : k = (memP a).length := by omega
      subst hkn
      rw [show leftB a (memP a).length = 0 by rw [memP_len]; exact left_end a]
      have hJ4 := hJs.out
      rw [List.take_length] at hJ4
      clear hlt hJs
      replace hJ4 := Lib.hid hJ4
      gi_wp2
      go_end0
      exact ⟨⟨_, rfl⟩, .inl ⟨_, _, rfl, fun k h => h.elim, hJ4.out⟩⟩

theorem own_only {O : Nat → Prop} {w w' : World} {base : Nat} {e : TypeId} {v : Value} {n : Nat} {xs : List Value} (h : w.ownsRow base e 1 v n xs) (ho : Only O w w') (hv : ∀ g, v.ownBlock = some g → ¬ O g) : w'.ownsRow base e 1 v n xs := by
  refine ⟨h.1, ?_⟩
  rcases h.2 with hn | ⟨g, cap, cur, rfl, hb, hg, r⟩
  · exact .inl hn
  · exact .inr ⟨g, cap, cur, rfl, hb, (ho.same g (Array.getElem?_eq_some_iff.1 hg).1 (hv g rfl)).trans hg, r⟩
theorem own_lt {w : World} {base : Nat} {e : TypeId} {v : Value} {n : Nat} {xs : List Value} (h : w.ownsRow base e 1 v n xs) {g : Nat} (hv : v.ownBlock = some g) : base ≤ g ∧ g < w.heap.size := by
  rcases h.2 with ⟨rfl, -⟩ | ⟨g', cap, cur, rfl, hb, hg, r⟩
  · cases hv
  · obtain rfl : g' = g := Option.some.inj hv
    exact ⟨hb, (Array.getElem?_eq_some_iff.1 hg).1⟩
/-- A new slice of one value. -/
def oneT (x : Value) : Told := ⟨fun v => ∃ b : Nat, v = .slice (some ⟨b, 0, none⟩) 1 1, fun v W => ∀ b : Nat, v = .slice (some ⟨b, 0, none⟩) 1 1 → W.cell? ⟨b, 0, none⟩ = some x, ⟨_, 0, rfl⟩, fun v W W' h hb b e => cbel hb (h b e)⟩
def numV (k : Pn) : Value := .string ⟨(Lib.decDigits k.1).toArray⟩
def TxI (w : World) (O : Nat → Prop) (pre : List Pn) (W : World) : Prop :=
  ∃ v, W.heap[w.heap.size]? = some (.cells #[v] 71) ∧ W.ownsRow w.heap.size 9 1 v pre.length (pre.map numV) ∧ (∀ g, v.ownBlock = some g → ¬ O g) ∧ Below w.heap.size w W
theorem txI_stable (w : World) (B : Nat) (hB : w.heap.size < B) : Stable B (TxI w) := by
  rintro O O' s W W' ⟨v, h1, h2, h3, h4⟩ hO hon hO'
  have n1 : ¬ O w.heap.size := fun h => by have := hO _ h; omega
  refine ⟨v, (hon.same _ (Array.getElem?_eq_some_iff.1 h1).1 n1).trans h1, own_only h2 hon h3, fun g hg h => ?_, hon.below h4 h4.size (fun i h => by have := hO i h; omega)⟩
  rcases hO' g h with h | h
  · exact h3 g hg h
  · have := (own_lt h2 hg).2; omega
theorem TxI.below {w W W' : World} {O : Nat → Prop} {pre : List Pn} (h : TxI w O pre W) (hb : Below W.heap.size W W') : TxI w O pre W' := by
  obtain ⟨v, h1, h2, h3, h4⟩ := h
  exact ⟨v, (hb.block _ (Array.getElem?_eq_some_iff.1 h1).1).trans h1, own_keep h2 hb, h3, xtrans h4 hb⟩
theorem txI_next {w W2 W3 W5 : World} {O : Nat → Prop} {pre : List Pn} (m : Pn) {v V5 : Value} (hg0 : gtab < w.heap.size) (o2 : W2.ownsRow w.heap.size 9 1 v pre.length (pre.map numV)) (hb : Below W2.heap.size W2 W3) (b3 : Below w.heap.size w W3) (hwl : w.heap.size < W2.heap.size) (hg5 : W3.grownBy W5 v.ownBlock)
    (c5 : W5.heap[w.heap.size]? = some (.cells #[v] 71)) (o5 : W5.ownsRow w.heap.size 9 1 V5 (pre.length + 1) (pre.map numV ++ [numV m])) (hvb : V5.ownBlock = v.ownBlock ∨ ∀ k, V5.ownBlock = some k → W3.heap.size ≤ k)
    (h3 : ∀ g, v.ownBlock = some g → ¬ O g) (hO : ∀ k, O k → w.heap.size < k ∧ k < W2.heap.size) :
    TxI w O (pre ++ [m]) (W5.setCell ⟨w.heap.size, 0, none⟩ V5) ∧ Keep (fun k => O k ∨ k = gtab) W2 (W5.setCell ⟨w.heap.size, 0, none⟩ V5) ∧ (W5.setCell ⟨w.heap.size, 0, none⟩ V5).heap[w.heap.size]? = some (.cells #[V5] 71) := by
  have cs := boxed_set (u := V5) c5
  have hon : Only (· = w.heap.size) W5 (W5.setCell ⟨w.heap.size, 0, none⟩ V5) := (Only.refl _ _).setCell _ _ rfl
  have hne := boxed_ne o5 c5 (by decide)
  refine ⟨⟨V5, cs, ?_, ?_, ?_⟩, ?_, cs⟩
  · rw [List.length_append, List.map_append]
    exact own_only o5 hon fun g hg e => hne (by rw [hg, e])
  · intro g hg ho
    rcases hvb with e | e
    · exact h3 g (by rw [← e]; exact hg) ho
    · have := e g hg; have := (hO g ho).2; have := hb.size; omega
  · refine hon.below (b3.grown hg5 b3.size fun j hj => ?_) (Nat.le_trans b3.size hg5.size) (by rintro i rfl; omega)
    exact (own_lt o2 hj).1
  · refine ⟨Nat.le_trans hb.size (Nat.le_trans hg5.size hon.size), fun k hk h => ?_⟩
    have hkw : k ≠ w.heap.size := by
      rcases h with h | h
      · have := (hO k h).1; omega
      · omega
    rw [hon.same k (Nat.lt_of_lt_of_le hk (Nat.le_trans hb.size hg5.size)) hkw, hg5.block k (Nat.lt_of_lt_of_le hk hb.size) ?_, hb.block k hk]
    intro e
    rcases h with h | h
    · exact h3 k e.symm h
    · have := (own_lt o2 e.symm).1; omega
theorem join_dec (ks : List Nat) : Lib.join ((ks.map fun k => (⟨(Lib.decDigits k).toArray⟩ : ByteArray)).map (·.data.toList)) [44] = Lib.join (ks.map Lib.decDigits) [44] := by
  rw [List.map_map]; rfl
theorem joinAll_len (a : BitVec 64) : (Lib.join ((memL a).map Lib.decDigits) [44]).length ≤ 200 := by
  by_cases h : memL a = []
  · rw [h]; decide
  · have h0 : 0 < (memL a).length := List.length_pos_iff.2 h
    have := joinTo_len (memL a) (fun k h => mem_lt h) (memL a).length h0 (Nat.le_refl _)
    unfold joinTo at this
    rw [List.take_length] at this
    have := mem_len a
    omega
theorem addr_add (g j : Nat) : (⟨g, 0, none⟩ : Addr).add j = ⟨g, 0 + j, none⟩ := by
  unfold Addr.add
  split
  · subst_vars; rfl
  · rfl
theorem own_str {w : World} {base : Nat} {a : Option Addr} {n c : Nat} {xs : List ByteArray} (h : w.ownsRow base 9 1 (.slice a n c) n (xs.map Value.string)) (h0 : xs ≠ []) :
    n = xs.length ∧ xs.length ≤ c ∧ ∃ b : Nat, a = some ⟨b, 0, none⟩ ∧ b < w.heap.size ∧ ∀ (j : Nat) x, xs[j]? = some x → w.cell? ⟨b, 0 + j, none⟩ = some (.string x) := by
  have hn := h.1
  rw [List.length_map, Nat.mul_one] at hn
  rcases h.2 with ⟨-, e⟩ | ⟨g, cap, cur, e, hb, hg, r⟩
  · cases xs with
    | nil => exact absurd rfl h0
    | cons x xs => simp at hn e; omega
  · cases e
    refine ⟨hn.symm, by have := r.2.1; omega, g, rfl, (Array.getElem?_eq_some_iff.1 hg).1, fun j x hj => ?_⟩
    have := h.cells (g := g) rfl j (.string x) (by rw [List.getElem?_map, hj]; rfl)
    rwa [addr_add] at this
theorem info_str : (Tryz.prog.info? 9).map (fun i => (i.zero, i.size, i.bytes)) = some (some (Value.string ⟨#[]⟩), 1, 16) := by kernel_rfl
theorem lenTop (W : World) : Calls Tryz.prog 127 #[.int .u64 18446744073709551615] W fun e w' => e = .returned (.int .i64 64) ∧ W = w' :=
  (Tryz.bits_Len64 18446744073709551615 W (by decide) (by decide)).mono fun e w' ⟨h1, h2⟩ => ⟨by rw [h1]; rfl, h2.symm⟩
set_option maxRecDepth 100000 in
set_option maxHeartbeats 2000000 in
theorem text_any (a : BitVec 64) (w : World) (hT : Tab w) : Calls Tryz.prog 104 #[.int .u64 (iv64 a)] w fun e w' => e = .returned (strL (textL a)) ∧ Below w.heap.size w w' := by
  obtain ⟨i0, hi, hz0, hz1, hz2⟩ := info_parts info_str
  have hln := mem_len a
  have hml : ∀ k ∈ memL a, k < 64 := fun k h => mem_lt h
  have hTl := hT.lt
  have hlen64 := Lib.hid lenTop
  replace hml := Lib.hid hml
  replace hT := Lib.hid hT
  refine (callsIn_wide (n := 0)).1 ?_
  refine callsIn_of_wp_marks Tryz.func104 rfl trivial ?_ rfl
  simp only [Tryz.ntmps104, List.size_toArray, List.length_cons, List.length_nil, Nat.reduceAdd, Nat.reduceSub, Array.replicate_succ, Array.replicate_zero, List.push_toArray, List.append_toArray, List.nil_append, List.cons_append]
  refine wpIn_wide.2 ?_
  go_wp2_with fail
  go_step3
  go_wp2_with fail
  go_step3
  go_wp2_with (go_at_call 125; refine (members_any a _).mono ?_; rintro e w1 ⟨rfl, hw1⟩)
  have hx1 : w1.heap.size = w.heap.size + 2 := by rw [← hw1]; simp
  have hb1 : Below w.heap.size w w1 := by rw [← hw1]; exact xalloc (xalloc (xrefl w) _) _
  have hc1 : w1.cell? ⟨w.heap.size + 1, 0, none⟩ = some (.int .u64 (iv64 a)) := by
    rw [← hw1]
    have := boxed_cell (World.alloc_heap_new (w.alloc (.cells #[.slice none 0 0] 71)) (.cells #[.int .u64 (iv64 a)] 23))
    rwa [World.size_alloc] at this
  have h00 : TxI w (fun _ => False) [] w1 := by
    refine ⟨.slice none 0 0, ?_, ⟨rfl, .inl ⟨rfl, rfl⟩⟩, (fun g h => by cases h), hb1⟩
    rw [← hw1]
    exact (Below.heap_alloc _ _ _ (by simp)).trans (World.alloc_heap_new w _)
  have hT1 := Lib.hid (hT.out.below hb1)
  replace h00 := Lib.hid h00
  replace hb1 := Lib.hid hb1
  clear hw1
  have hst := txI_stable w w1.heap.size (by omega)
  refine wp_mid 0 (fun a' a'' W' => ∃ D, a'' = { a' with defers := { target := .collected D, args := #[] } :: a'.defers } ∧ w1.heap.size ≤ D ∧ W'.heap[D]? = some (.deferred (some [])) ∧ TxI w (fun k => k = D) (memP a) W') ?range ?rest (fun _ _ h => h)
  case range =>
    refine (wpIn_wide (n := 0)).1 ?_
    refine wp_rangeP (gf := 137) (lb := #[.pointer (some ⟨w.heap.size + 1, 0, none⟩)]) rfl (enters_of Tryz.func137 (by kernel_rfl) rfl) (encs := fun x : Pn => #[.int .i64 x.1]) (Rd := fun k => k = gtab)
      (S := fun xs => xs = memP a) (Sp := fun pre => ∃ k, k ≤ (memP a).length ∧ pre = (memP a).take k) (N := (memP a).length) (inf := false) (fun k h => by omega)
      (fun W1 hb1 => members_seq a _ W1 (cbel hb1 hc1) (hT1.out.below hb1)) (fun x => rfl) (TxI w) (fun _ _ _ _ => False) hst (fun _ _ _ _ _ _ h _ _ _ => h) h00.out (fun h => by cases h) ?round ?done ?stop
    case round =>
      rintro l1 O pre m W1 hOl hO ⟨v, h1, h2, h3, h4⟩ hlen _
      have hm100 : m.1 < 100 := by have := m.2; omega
      have hp64 : pre.length < 64 := by rw [memP_len] at hlen; omega
      gi_wp2
      refine ⟨Keep.refl _ _, fun W2 hon => ?_⟩
      have hl4 : w1.heap.size ≤ l1 := (hO l1 hOl).1
      have hlW := (hO l1 hOl).2
      have n1 : ¬ (w.heap.size = l1) := by omega
      have c1 : W2.heap[w.heap.size]? = some (.cells #[v] 71) := (hon.same _ (Array.getElem?_eq_some_iff.1 h1).1 n1).trans h1
      have o1 := own_only h2 hon (fun g hg e => h3 g hg (by rw [e]; exact hOl))
      have b1 := hon.below h4 h4.size (by rintro i rfl; omega)
      have hs2 := hon.size
      have hOs : Hid (∀ k, O k → w1.heap.size ≤ k ∧ k < W2.heap.size) := Lib.hid fun k h => by have := hO k h; have := hon.size; omega
      replace h3 := Lib.hid h3
      clear hon h1 h2 h4 hO
      have cv := Lib.hid (boxed_cell c1)
      replace o1 := Lib.hid o1
      replace b1 := Lib.hid b1
      replace c1 := Lib.hid c1
      gi_wp2_with fail
      refine wpIn_region_growL 4 [fixd (v), fixd (.int .i64 m.1), fixd (.string ⟨(Lib.decDigits m.1).toArray⟩), oneT (.string ⟨(Lib.decDigits m.1).toArray⟩)] (by kernel_rfl) (by kernel_rfl) (by kernel_rfl) ?_
      simp only [List.take_succ_cons, List.take_zero, List.drop_succ_cons, List.drop_zero]
      try simp only [Act.put, List.setIfInBounds_toArray, List.set_cons_succ, List.set_cons_zero, List.nil_append, List.cons_append]
      refine wpGrowV_fix _ rfl rfl (fun W hb _ => by have c := cbel hb cv.out; go_simp; first | exact xrefl W | exact ⟨rfl, xrefl W⟩) ?_
      try simp only [Act.put, List.setIfInBounds_toArray, List.set_cons_succ, List.set_cons_zero, List.nil_append, List.cons_append]
      refine wpGrowV_fix _ rfl rfl (fun W hb _ => by go_simp; first | exact xrefl W | exact ⟨rfl, xrefl W⟩) ?_
      try simp only [Act.put, List.setIfInBounds_toArray, List.set_cons_succ, List.set_cons_zero, List.nil_append, List.cons_append]
      refine wpGrowV_fix (.string ⟨(Lib.decDigits m.1).toArray⟩) rfl rfl (fun W hb _ => ?_) ?_
      · go_simp
        go_at_call 126
        refine (Tryz.strconv_Itoa_small m.1 hm100 W).mono ?_
        rintro e w' ⟨rfl, rfl⟩
        exact ⟨rfl, xrefl _⟩
      try simp only [Act.put, List.setIfInBounds_toArray, List.set_cons_succ, List.set_cons_zero, List.nil_append, List.cons_append]
      refine wpGrowV_any (oneT (.string ⟨(Lib.decDigits m.1).toArray⟩)) rfl rfl (fun W hb _ => ?_) (fun v hv => ?_)
      · go_simp
        exact ⟨⟨⟨_, rfl⟩, fun b e => by cases e; exact boxed_cell (World.alloc_heap_new W _)⟩, xalloc (xrefl W) _⟩
      obtain ⟨q1, rfl⟩ := hv
      try simp only [Act.put, List.setIfInBounds_toArray, List.set_cons_succ, List.set_cons_zero, List.nil_append, List.cons_append]
      refine wpGrowV_nil fun W3 hbW hmem => ?_
      have hq1 : W3.cell? ⟨q1, 0, none⟩ = some (.string ⟨(Lib.decDigits m.1).toArray⟩) := hmem 3 (by decide) q1 rfl
      have c3 := (hbW.block _ (Array.getElem?_eq_some_iff.1 c1.out).1).trans c1.out
      have o3 := own_keep o1.out hbW
      have b3 := xtrans b1.out hbW
      have hne := boxed_ne o3 c3 (by decide)
      clear hmem cv
      have hq1' := Lib.hid hq1
      clear hq1
      gi_wp2_with (refine wpListIn_append_blk W3 rfl _ _ 71 rfl w.heap.size 9 i0 (.string ⟨#[]⟩) 16 Tryz.underlying71 hi hz0 hz1 hz2 rfl v pre.length _ rfl o3 ⟨q1, 0, none⟩ 1 1 [.string ⟨(Lib.decDigits m.1).toArray⟩] rfl rfl (by intro j u hj; match j, hj with | 0, hj => (injection hj with hj; subst hj; exact hq1'.out)) (by intro u hu; rw [List.mem_singleton.1 hu]; rfl) (by unfold maxLen; omega) (by omega) b3.size ?_; intro v5 W5 ho5 hg5 hvb5; have c5 : W5.heap[w.heap.size]? = some (.cells #[v] 71) := (hg5.block _ (Array.getElem?_eq_some_iff.1 c3).1 (fun e => hne e.symm)).trans c3; have cc5 := boxed_cell c5; have cf5 := boxed_free c5; obtain ⟨a5, e5, rfl⟩ := own_slice ho5)
      have hon := own_slice ho5
      obtain ⟨hT6, hK6, hB6⟩ := txI_next m hTl o1.out hbW b3 (by omega) hg5 c5 ho5 hvb5 h3.out (fun k h => by have := hOs.out k h; omega)
      obtain ⟨W6, hW6⟩ : ∃ W6, W5.setCell ⟨w.heap.size, 0, none⟩ (.slice a5 (pre.length + 1) e5) = W6 := ⟨_, rfl⟩
      rw [hW6] at hT6 hK6 hB6 ⊢
      have cv5 := Lib.hid (boxed_cell hB6)
      replace hT6 := Lib.hid hT6
      replace hK6 := Lib.hid hK6
      clear hB6 hW6 ho5 hg5 hvb5 c5 cc5 cf5 hq1' hne b3 o3 c3 hbW hon
      refine wpIn_region_growL 4 [fixd (.slice a5 (pre.length + 1) e5), fixd (.int .i64 ((pre.length : Int) + 1)), fixd (.int .i64 64), fixd (.bool false)] (by kernel_rfl) (by kernel_rfl) (by kernel_rfl) ?_
      simp only [List.take_succ_cons, List.take_zero, List.drop_succ_cons, List.drop_zero]
      try simp only [Act.put, List.setIfInBounds_toArray, List.set_cons_succ, List.set_cons_zero, List.nil_append, List.cons_append]
      refine wpGrowV_fix _ rfl rfl (fun W hb _ => by have c := cbel hb cv5.out; go_simp; first | exact xrefl W | exact ⟨rfl, xrefl W⟩) ?_
      try simp only [Act.put, List.setIfInBounds_toArray, List.set_cons_succ, List.set_cons_zero, List.nil_append, List.cons_append]
      refine wpGrowV_fix _ rfl rfl (fun W hb _ => by go_simp; first | exact xrefl W | exact ⟨rfl, xrefl W⟩) ?_
      try simp only [Act.put, List.setIfInBounds_toArray, List.set_cons_succ, List.set_cons_zero, List.nil_append, List.cons_append]
      refine wpGrowV_fix (.int .i64 64) rfl rfl (fun W hb _ => ?_) ?_
      · go_simp
        go_at_call 127
        refine (hlen64.out W).mono ?_
        rintro e w' ⟨rfl, rfl⟩
        exact ⟨rfl, xrefl _⟩
      try simp only [Act.put, List.setIfInBounds_toArray, List.set_cons_succ, List.set_cons_zero, List.nil_append, List.cons_append]
      refine wpGrowV_fix (.bool false) rfl rfl (fun W hb _ => by go_simp; exact ⟨by omega, xrefl W⟩) ?_
      try simp only [Act.put, List.setIfInBounds_toArray, List.set_cons_succ, List.set_cons_zero, List.nil_append, List.cons_append]
      refine wpGrowV_nil fun W7 hb7 _ => ?_
      have hT7 := Lib.hid (hT6.out.below hb7)
      have hK7 := Lib.hid (hK6.out.trans (Below.keep hb7))
      clear hb7
      gi_wp2
      exact ⟨hK7.out, hT7.out⟩
    case done =>
      rintro D xs O W hD hOD hO rfl ⟨v, h1, h2, h3, h4⟩ hK
      exact ⟨.inl rfl, D, rfl, hD, hK, v, h1, h2, fun g hg e => h3 g hg (by rw [e]; exact hOD), h4⟩
    case stop =>
      rintro D c' pre O W hD hOD hO _ h
      exact h.elim
  case rest =>
    rintro a6 w6 ⟨D, rfl, hD, hK, v, h1, h2, h3, h4⟩
    have hmp : (memP a).map numV = ((memL a).map fun k => (⟨(Lib.decDigits k).toArray⟩ : ByteArray)).map Value.string := by
      rw [← memP_map a, List.map_map, List.map_map]; rfl
    rw [hmp] at h2
    obtain ⟨a9, c9, rfl⟩ := own_slice h2
    rw [memP_len] at h2
    have cv := boxed_cell h1
    have hlw := Lib.hid h4
    have hKl := (Array.getElem?_eq_some_iff.1 hK).1
    by_cases h0 : memL a = []
    · have ht : textL a = [45] := by unfold textL; rw [if_pos h0]
      rw [memP_len, h0] at cv
      simp only [List.length_nil] at cv
      replace ht := Lib.hid ht
      replace h0 := Lib.hid h0
      replace h2 := Lib.hid h2
      replace hK := Lib.hid hK
      clear hmp h1 h3 h4
      go_wp2
      rw [Exit.noGoto_ret]
      have hput := (Only.refl (· = D) w6).putObj D (.deferred none) rfl
      refine ⟨by simp [Act.put], .inl ⟨_, _, rfl, run_takeDeferred hK.out, ?_⟩⟩
      refine ⟨_, results_tmp rfl _ _ _, by rw [ht.out]; rfl, hput.below hlw.out hlw.out.size (by rintro i rfl; omega)⟩
    · obtain ⟨-, hc9, b9, rfl, hb9, hcells⟩ := own_str h2 (fun e => h0 (by simpa using e))
      have ht : textL a = Lib.join ((memL a).map Lib.decDigits) [44] := by unfold textL; rw [if_neg h0]
      have hjl := joinAll_len a
      rw [memP_len] at cv
      have hl0 : 0 < (memL a).length := List.length_pos_iff.2 h0
      rw [List.length_map] at hc9
      have hjn := Tryz.strings_Join b9 0 c9 ((memL a).map fun k => (⟨(Lib.decDigits k).toArray⟩ : ByteArray)) ⟨#[44]⟩ w6 hcells hb9 (by rw [List.length_map]; omega) (by rw [List.length_map]; exact hc9)
      rw [List.length_map, join_dec, ← ht] at hjn
      rw [← ht] at hjl
      replace hjn := Lib.hid (hjn (by omega))
      have hl1 : (((memL a).length : Int) == 0) = false := by rw [beq_eq_false_iff_ne]; omega
      generalize (memL a).length = n at *
      obtain ⟨tx, htx⟩ : ∃ tx, tx = textL a := ⟨_, rfl⟩
      rw [← htx] at hjl hjn ht
      replace htx := Lib.hid htx
      replace ht := Lib.hid ht
      replace h0 := Lib.hid h0
      replace h2 := Lib.hid h2
      replace hK := Lib.hid hK
      clear hmp h1 h3 h4 hcells
      go_wp2_with (go_at_call 105; refine hjn.out.mono ?_; rintro e w7 ⟨rfl, hb7⟩)
      rw [Exit.noGoto_ret]
      have hK7 := (hb7.block D hKl).trans hK.out
      have hb := xtrans hlw.out hb7
      have hput := (Only.refl (· = D) w7).putObj D (.deferred none) rfl
      refine ⟨by simp [Act.put], .inl ⟨_, _, rfl, run_takeDeferred hK7, ?_⟩⟩
      exact ⟨_, results_tmp rfl _ _ _, by rw [← htx.out]; rfl, hput.below hb hb.size (by rintro i rfl; omega)⟩
end Go.Proofs.YthpallkphamobaaGreatDoor
