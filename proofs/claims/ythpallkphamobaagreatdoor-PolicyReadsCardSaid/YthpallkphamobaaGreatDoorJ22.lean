/- Texts of this claim, merged; no condition. -/
import Derived.Test.YthpallkphamobaaGreatDoorJ21
set_option linter.all false
namespace Go.Proofs.YthpallkphamobaaGreatDoor
open Go.RowKit Go.Shelf

theorem spl_sizeP (c : UInt8) : ∀ l : List UInt8, (splS c l).length ≤ l.length + 1 ∧ ∀ x ∈ splS c l, x.length ≤ l.length
  | [] => by simp [splS]
  | a :: l => by
    obtain ⟨h1, h2⟩ := spl_sizeP c l
    unfold splS
    by_cases ha : a = c
    · rw [if_pos ha]
      refine ⟨by simp only [List.length_cons]; omega, fun x hx => ?_⟩
      rcases List.mem_cons.1 hx with rfl | hx
      · simp
      · have := h2 x hx; simp only [List.length_cons]; omega
    · rw [if_neg ha]
      cases hs : splS c l with
      | nil => simp
      | cons y r =>
        rw [hs] at h1 h2
        refine ⟨by simp only [List.length_cons] at *; omega, fun x hx => ?_⟩
        rcases List.mem_cons.1 hx with rfl | hx
        · have := h2 y (by simp); simp only [List.length_cons]; omega
        · have := h2 x (by simp [hx]); simp only [List.length_cons]; omega
theorem spl_KP (c : UInt8) : ∀ l : List UInt8, Lib.splitK [c] 0 (l.count c) l = splS c l
  | [] => rfl
  | x :: t => by
    have ih := spl_KP c t
    by_cases hx : x = c
    · subst hx
      rw [List.count_cons_self, Lib.splitK, Lib.index_one]
      have h0 : Lib.indexByte (x :: t) x = 0 := by unfold Lib.indexByte; simp
      rw [h0, splS, if_pos rfl, ← ih]
      simp
    · rw [List.count_cons_of_ne (by simpa using hx), splS, if_neg hx, ← ih]
      have h1 : Lib.indexByte (x :: t) c = if Lib.indexByte t c == -1 then -1 else Lib.indexByte t c + 1 := by
        rw [Lib.indexByte, if_neg (by simpa using hx)]
      cases hk : t.count c with
      | zero => rfl
      | succ k =>
        rw [Lib.splitK, Lib.splitK, Lib.index_one, Lib.index_one, h1]
        have hge := Lib.indexByte_ge t c
        by_cases hm : Lib.indexByte t c = -1
        · rw [hm]; rfl
        · have hb : (Lib.indexByte t c == -1) = false := by rw [beq_eq_false_iff_ne]; exact hm
          rw [hb]
          have hb2 : (Lib.indexByte t c + 1 == -1) = false := by rw [beq_eq_false_iff_ne]; omega
          simp only [Bool.false_eq_true, if_false, hb2]
          have e1 : (Lib.indexByte t c + 1).toNat = (Lib.indexByte t c).toNat + 1 := by omega
          rw [e1]
          simp
/-- A text cut by the library. -/
theorem split_anyP (c : UInt8) (s : List UInt8) (w : World) (hl : s.length ≤ 65536) (hT : TabP w) :
    Calls Tryz.prog 61 #[.string ⟨s.toArray⟩, .string ⟨#[c]⟩] w fun e w' => (∃ a k, e = .returned (.slice a (splS c s).length k) ∧ (splS c s).length ≤ k ∧ k ≤ 1000000 ∧ Hid (RowV w' a ((splS c s).map strL)) ∧ Hid (∀ y, a = some y → StrB w' y.block)) ∧ Below w.heap.size w w' := by
  obtain ⟨m, hm⟩ := hT.max
  have hsz : (⟨s.toArray⟩ : ByteArray).size = s.length := by show s.toArray.size = _; simp
  have hcount : Lib.countB ⟨s.toArray⟩ ⟨#[c]⟩ = s.count c := by
    have := Lib.count_one c s
    exact this
  have hd : (Lib.splitB ⟨#[c]⟩ 0 (Lib.countB ⟨s.toArray⟩ ⟨#[c]⟩) ⟨s.toArray⟩).map (·.data.toList) = splS c s := by
    rw [Lib.splitB_data, hcount]
    exact spl_KP c s
  have hlen : Lib.countB ⟨s.toArray⟩ ⟨#[c]⟩ + 1 = (splS c s).length := by
    rw [← hd, List.length_map]
    exact (Lib.splitB_all ⟨#[c]⟩ (Nat.zero_lt_one) 0 _ _ rfl).symm
  have hval : (Lib.splitB ⟨#[c]⟩ 0 (Lib.countB ⟨s.toArray⟩ ⟨#[c]⟩) ⟨s.toArray⟩).map Value.string = (splS c s).map strL := by
    rw [← hd, List.map_map]
    refine List.map_congr_left fun b _ => ?_
    show Value.string b = Value.string ⟨b.data.toList.toArray⟩
    simp
  have hsl := (spl_sizeP c s).1
  refine (Tryz.strings_Split ⟨s.toArray⟩ ⟨#[c]⟩ m w (by rw [hsz]; omega) hm (Nat.le_refl 1)).mono ?_
  rintro e w' ⟨rfl, rfl⟩
  rw [hlen, hval]
  exact ⟨⟨_, _, rfl, Nat.le_refl _, by omega, Lib.hid (rowV_new w 9 _), Lib.hid fun y e => by cases e; exact ⟨_, World.alloc_heap_new w _⟩⟩, xalloc (xrefl w) _⟩
/-- How a line's reading ends. -/
def LnPost (g : Nat) (o : Option PolN) (w : World) (e : Ending) (w' : World) : Prop := (o = none → e = .panicked (errP 190)) ∧ (∀ q, o = some q → e = .returned (.tuple #[]) ∧ RdE w' g q 0) ∧ BelowS g w w'
theorem LnPost.bad {g : Nat} {o : Option PolN} {w w' : World} (h : o = none) (hb : BelowS g w w') : LnPost g o w (.panicked (errP 190)) w' := ⟨fun _ => rfl, fun q e => (by rw [h] at e; cases e), hb⟩
theorem LnPost.good {g : Nat} {o : Option PolN} {w w' : World} {q : PolN} (h : o = some q) (hE : RdE w' g q 0) (hb : BelowS g w w') : LnPost g o w (.returned (.tuple #[])) w' :=
  ⟨fun e => (by rw [h] at e; cases e), fun q' e => by rw [h] at e; cases e; exact ⟨rfl, hE⟩, hb⟩
/-- A line has been cut: the words left are its. -/
theorem RdE.cut {W W2 : World} {g : Nat} {p : PolN} {n : Nat} (h : RdE W g p n) (hb : Below W.heap.size W W2) {a : Option Addr} {k : Nat} {ws : List (List UInt8)} (h1 : ws.length ≤ k) (h2 : k ≤ 1000000) (hr : RowV W2 a (ws.map strL)) (hs : ∀ y, a = some y → StrB W2 y.block) :
    ∃ vc vr, (∃ v0, W2.cell? ⟨g, 0, none⟩ = some v0) ∧ W2.frozen? ⟨g, 0, none⟩ = false ∧ Hid (RdS (W2.setCell ⟨g, 0, none⟩ (.slice a ws.length k)) g p vc vr ws) ∧ Hid (OnlyG g W2 (W2.setCell ⟨g, 0, none⟩ (.slice a ws.length k))) := by
  obtain ⟨a0, c0, vc, vr, hB, hc, hw⟩ := h.out
  have hB2 := hB.below hb
  have ho : Only (· = g) W2 (W2.setCell ⟨g, 0, none⟩ (.slice a ws.length k)) := (Only.refl _ _).setCell _ _ rfl
  have hc2 := own_belowV hc hb
  have hw2 := own_belowV hw hb
  refine ⟨vc, vr, ⟨_, hB2.cell 0 (by simp [rdC])⟩, hB2.free 0, Lib.hid ⟨⟨a, k, hB2.set 0 _, h1, h2, row_onlyS hr ho fun y e => (hs y e).ne hB2 (by decide), fun y e => (hs y e).only ho ((hs y e).ne hB2 (by decide))⟩, own_onlyG hc2 ho fun j hj e => own_neG hc2 hB2 ct_ne (by rw [hj, e]), own_onlyG hw2 ho fun j hj e => own_neG hw2 hB2 rt_ne (by rw [hj, e]), h.ok⟩, Lib.hid ⟨ho, fun k hk => hk.ne hB2 (by decide)⟩⟩
end Go.Proofs.YthpallkphamobaaGreatDoor
namespace Go.Proofs.YthpallkphamobaaGreatDoor
open Go.RowKit Go.Shelf

theorem RdE.len {W : World} {g : Nat} {p : PolN} {n : Nat} (h : RdE W g p n) : ∃ a c, W.cell? ⟨g, 0, none⟩ = some (.slice a n c) := by
  obtain ⟨a, c, vc, vr, hB, -⟩ := h.out
  exact ⟨a, c, by simpa [rdC] using hB.cell 0 (by simp [rdC])⟩
theorem RdS.dflt {W : World} {g : Nat} {p : PolN} {vc vr : Value} {ws : List (List UInt8)} (h : RdS W g p vc vr ws) : W.cell? ⟨g, 1, none⟩ = some (labV p.dflt) ∧ W.frozen? ⟨g, 1, none⟩ = false := by
  obtain ⟨a, c, hB, -⟩ := h.wd.out
  exact ⟨by simpa [rdC] using hB.cell 1 (by simp [rdC]), hB.free 1⟩
/-- The default has been laid in. -/
theorem RdS.setD {W : World} {g : Nat} {p : PolN} {vc vr : Value} {ws : List (List UInt8)} (h : RdS W g p vc vr ws) (d : BitVec 64) : RdE (W.setCell ⟨g, 1, none⟩ (labV d)) g { p with dflt := d } ws.length ∧ OnlyG g W (W.setCell ⟨g, 1, none⟩ (labV d)) := by
  obtain ⟨a, c, hB, -⟩ := h.wd.out
  have ho : Only (· = g) W (W.setCell ⟨g, 1, none⟩ (labV d)) := (Only.refl _ _).setCell _ _ rfl
  have n1 := own_neG h.oc hB ct_ne
  have n2 := own_neG h.ow hB rt_ne
  exact ⟨⟨⟨a, c, vc, vr, hB.set 1 _, own_onlyG h.oc ho fun k hk e => n1 (by rw [hk, e]), own_onlyG h.ow ho fun k hk e => n2 (by rw [hk, e])⟩, ⟨h.ok.c, h.ok.r⟩⟩, ho, fun k hk => hk.ne hB (by decide)⟩
theorem endF_nil {q : PolN} {o : Option (PolN × List (List UInt8))} (h : o = some (q, [])) : endF o = some q := by rw [h]; rfl
theorem endF_cons {q : PolN} {x : List UInt8} {r : List (List UInt8)} {o : Option (PolN × List (List UInt8))} (h : o = some (q, x :: r)) : endF o = none := by rw [h]; rfl
theorem endF_none {o : Option (PolN × List (List UInt8))} (h : o = none) : endF o = none := by rw [h]; rfl
/-- How a rule is read: by its first word. -/
def takeF (p : PolN) (y : List UInt8) (ws : List (List UInt8)) : Option (PolN × List (List UInt8)) := if y = wClear then takeC p ws else if y = wRelease then takeR p ws else none
theorem line_nextF (p : PolN) (y : List UInt8) (ws : List (List UInt8)) : lineF p false (y :: ws) = endF (takeF p y ws) := by
  rw [line_next]
  unfold takeF
  by_cases h1 : y = wClear
  · rw [if_pos h1, if_pos h1]
  · rw [if_neg h1, if_neg h1]
    by_cases h2 : y = wRelease
    · rw [if_pos h2, if_pos h2]
    · rw [if_neg h2, if_neg h2]; rfl
theorem readsF_any (f : FuncId) (g : Nat) (p : PolN) (vc vr : Value) (y : List UInt8) (ws : List (List UInt8)) (hf : rdsF y = some f) (hg : 8 ≤ g) (hw : ∀ x ∈ ws, x.length ≤ 65536) (hl : p.clears.length ≤ 100000) (hl2 : p.rels.length ≤ 100000) (w : World) (hS : RdS w g p vc vr ws) (hT : TabP w) :
    Calls Tryz.prog f #[.pointer (some ⟨g, 0, none⟩)] w (RdPost g (takeF p y ws) w) := by
  unfold rdsF at hf
  unfold takeF
  by_cases h1 : y = wClear
  · rw [if_pos h1] at hf ⊢; cases hf
    exact reads1_any g p vc vr ws w hS hT hg hw hl
  · rw [if_neg h1] at hf ⊢
    by_cases h2 : y = wRelease
    · rw [if_pos h2] at hf ⊢; cases hf
      exact reads2_any g p vc vr ws w hS hT hg hw hl2
    · rw [if_neg h2] at hf; cases hf
theorem takeF_none {p : PolN} {y : List UInt8} {ws : List (List UInt8)} (hf : rdsF y = none) : takeF p y ws = none := by
  unfold rdsF at hf
  unfold takeF
  by_cases h1 : y = wClear
  · rw [if_pos h1] at hf; cases hf
  · rw [if_neg h1] at hf ⊢
    by_cases h2 : y = wRelease
    · rw [if_pos h2] at hf; cases hf
    · rw [if_neg h2]
theorem rdsF_enters {y : List UInt8} {f : FuncId} (hf : rdsF y = some f) : ∀ args w, (callFunc f args).run Tryz.prog w = .ok (.enter f args) w := by
  unfold rdsF at hf
  by_cases h1 : y = wClear
  · rw [if_pos h1] at hf; cases hf
    exact enters_of Tryz.func121 (by kernel_rfl) rfl
  · rw [if_neg h1] at hf
    by_cases h2 : y = wRelease
    · rw [if_pos h2] at hf; cases hf
      exact enters_of Tryz.func123 (by kernel_rfl) rfl
    · rw [if_neg h2] at hf; cases hf
set_option maxRecDepth 100000 in
set_option maxHeartbeats 16000000 in
theorem line_any (g : Nat) (p : PolN) (n0 : Nat) (s : List UInt8) (k : Nat) (w : World) (hE : RdE w g p n0) (hT : TabP w) (hg : 8 ≤ g) (hs : s.length ≤ 65536) (hl : p.clears.length ≤ 100000) (hl2 : p.rels.length ≤ 100000) :
    Calls Tryz.prog 62 #[.pointer (some ⟨g, 0, none⟩), .string ⟨s.toArray⟩, .int .i64 k] w (LnPost g (lineF p (decide (k = 0)) (splS 32 s)) w) := by
  have hgl : g < w.heap.size := by obtain ⟨_, _, _, _, hB, -⟩ := hE.out; exact hB.lt
  have hgg : BelowS g w w := BelowS.refl _ _
  have hmt := Lib.hid fun W => must_true 190 W
  have hmf := Lib.hid fun W => must_false 190 W
  have hsp := Lib.hid (split_anyP 32 s w hs hT)
  have hsl := Lib.hid (spl_sizeP 32 s).2
  obtain ⟨y, ws, hyw⟩ : ∃ y ws, splS 32 s = y :: ws := by
    cases h : splS 32 s with
    | nil => exact absurd h (spl_ne 32 s)
    | cons y ws => exact ⟨y, ws, rfl⟩
  rw [hyw] at hsp hsl ⊢
  have hcut : Hid (∀ W2 a k, Below w.heap.size w W2 → (y :: ws).length ≤ k → k ≤ 1000000 → RowV W2 a ((y :: ws).map strL) → (∀ y, a = some y → StrB W2 y.block) → ∃ vc vr, (∃ v0, W2.cell? ⟨g, 0, none⟩ = some v0) ∧ W2.frozen? ⟨g, 0, none⟩ = false ∧ Hid (RdS (W2.setCell ⟨g, 0, none⟩ (.slice a (y :: ws).length k)) g p vc vr (y :: ws)) ∧ Hid (OnlyG g W2 (W2.setCell ⟨g, 0, none⟩ (.slice a (y :: ws).length k)))) := Lib.hid fun W2 a k hb h1 h2 h3 h4 => hE.cut hb h1 h2 h3 h4
  rw [List.length_cons] at hsp hcut
  have hTt : Hid (∀ W2, BelowS g w W2 → TabP W2) := Lib.hid fun W2 h => hT.belowG h.b hg
  have hw1 : Hid (∀ x ∈ ws, x.length ≤ 65536) := Lib.hid fun x hx => Nat.le_trans (hsl.out x (by simp [hx])) hs
  have htk : Hid (∀ W vc vr, RdS W g p vc vr (y :: ws) → Calls Tryz.prog 97 #[.pointer (some ⟨g, 0, none⟩)] W fun e w' => e = .returned (.string ⟨y.toArray⟩) ∧ RdS w' g p vc vr ws ∧ OnlyG g W w') := Lib.hid fun W vc vr h => (take_one g _ _ _ y ws W h.wd).mono fun e w' h' => ⟨h'.1, h.took h'.2.1 h'.2.2, h'.2.2⟩
  generalize hnn : ws.length = nn at *
  clear hE hT hyw
  by_cases hk : k = 0
  · subst hk
    simp only [decide_true]
    by_cases hyd : y = wDefault
    · have hy1 : (y == [100, 101, 102, 97, 117, 108, 116]) = true := by rw [hyd]; rfl
      have hyv : (⟨y.toArray⟩ : ByteArray) = ⟨#[100, 101, 102, 97, 117, 108, 116]⟩ := by rw [hyd]; rfl
      have hlf : lineF p true (y :: ws) = endF (takeD p ws) := by rw [line_first, if_pos hyd]
      rw [hlf]
      rw [hyv] at htk
      cases ws with
      | nil =>
        have hbad : Hid (∀ W, BelowS g w W → LnPost g (endF (takeD p [])) w (.panicked (errP 190)) W) := Lib.hid fun W hb => LnPost.bad rfl hb
        have htk2 := Lib.hid fun W vc vr (h : RdS W g p vc vr []) => take_none g _ _ _ W h.wd
        clear hyd hlf
        go_enter Tryz.func62, Tryz.ntmps62
        go_wp2_with (first
          | (go_at_call 61; refine hsp.out.mono ?_; rintro e w2 ⟨⟨a2, k2, rfl, hk1, hk2, hr2, hst2⟩, hb2⟩; obtain ⟨vc, vr, ⟨v0, c2⟩, f2, hS3, ho3⟩ := hcut.out w2 a2 k2 hb2 hk1 hk2 hr2.out hst2.out; have hs2 := hb2.size; have hb3 := Lib.hid (below_only (below_to hgg hb2 (by omega)) ho3.out (by omega) (by rintro k rfl; exact Nat.le_refl _)))
          | (go_at_call 97; refine (htk.out _ _ _ hS3.out).mono ?_; rintro e w4 ⟨rfl, hS4, ho4⟩; have hs4 := ho4.size; have hs3 := ho3.out.size; replace hS4 := Lib.hid hS4; replace ho4 := Lib.hid (below_only hb3.out ho4 (by omega) (by rintro k rfl; exact Nat.le_refl _)); clear hS3 htk)
          | (go_at_call 97; refine (htk2.out _ _ _ hS4.out).mono ?_; rintro e w5 ⟨rfl, rfl⟩)
          | (go_at_call 59; refine (hmt.out _).mono ?_; rintro e w6 ⟨rfl, rfl⟩))
        exact ⟨rfl, hbad.out _ ho4.out⟩
      | cons x r =>
        have hxl : x.length ≤ 65536 := hw1.out x (by simp)
        have htk2 := Lib.hid fun W vc vr (h : RdS W g p vc vr (x :: r)) => (take_one g _ _ _ x r W h.wd).mono fun e w' h' => (⟨h'.1, h.took h'.2.1 h'.2.2, h'.2.2⟩ : e = .returned (.string ⟨x.toArray⟩) ∧ RdS w' g p vc vr r ∧ OnlyG g W w')
        cases hd : parseP x with
        | none =>
          have hbad : Hid (∀ W, BelowS g w W → LnPost g (endF (takeD p (x :: r))) w (.panicked (errP 190)) W) := Lib.hid fun W hb => LnPost.bad (endF_none (by show (parseP x).map _ = _; rw [hd]; rfl)) hb
          have hlab := Lib.hid fun W hT => label_no x W hxl hT hd
          have hgl2 := Lib.hid gotL_no
          clear hyd hlf
          go_enter Tryz.func62, Tryz.ntmps62
          go_wp2_with (first
            | (go_at_call 61; refine hsp.out.mono ?_; rintro e w2 ⟨⟨a2, k2, rfl, hk1, hk2, hr2, hst2⟩, hb2⟩; obtain ⟨vc, vr, ⟨v0, c2⟩, f2, hS3, ho3⟩ := hcut.out w2 a2 k2 hb2 hk1 hk2 hr2.out hst2.out; have hs2 := hb2.size; have hb3 := Lib.hid (below_only (below_to hgg hb2 (by omega)) ho3.out (by omega) (by rintro k rfl; exact Nat.le_refl _)))
            | (go_at_call 97; refine (htk.out _ _ _ hS3.out).mono ?_; rintro e w4 ⟨rfl, hS4, ho4⟩; have hs4 := ho4.size; have hs3 := ho3.out.size; replace hS4 := Lib.hid hS4; replace ho4 := Lib.hid (below_only hb3.out ho4 (by omega) (by rintro k rfl; exact Nat.le_refl _)); clear hS3 htk)
            | (go_at_call 97; refine (htk2.out _ _ _ hS4.out).mono ?_; rintro e w5 ⟨rfl, hS5, ho5⟩; have hs5 := ho5.size; replace ho5 := Lib.hid (below_only ho4.out ho5 (by omega) (by rintro k rfl; exact Nat.le_refl _)); clear hS5)
            | (go_at_call 59; refine (hmt.out _).mono ?_; rintro e w6 ⟨rfl, rfl⟩)
            | (go_at_call 99; refine (hlab.out _ (hTt.out _ ho5.out).tab).mono ?_; rintro e w8 ⟨rfl, hb8⟩; replace hb8 := Lib.hid (below_to ho5.out hb8 (by omega)))
            | (go_at_call 98; refine (hgl2.out _).mono ?_; rintro e w9 ⟨rfl, rfl⟩))
          exact ⟨rfl, hbad.out _ hb8.out⟩
        | some d =>
          have htd : takeD p (x :: r) = some ({ p with dflt := d }, r) := by show (parseP x).map _ = _; rw [hd]; rfl
          have hlab := Lib.hid fun W hT => label_ok x d W hxl hT hd
          have hgl2 := Lib.hid (gotL_ok d)
          have hDs : Hid (∀ W vc vr, RdS W g p vc vr r → Hid (RdE (W.setCell ⟨g, 1, none⟩ (labV d)) g { p with dflt := d } r.length) ∧ Hid (OnlyG g W (W.setCell ⟨g, 1, none⟩ (labV d)))) := Lib.hid fun W vc vr h => ⟨Lib.hid (h.setD d).1, Lib.hid (h.setD d).2⟩
          unfold labV at hDs
          cases r with
          | nil =>
            have hgood : Hid (∀ W, RdE W g { p with dflt := d } 0 → BelowS g w W → LnPost g (endF (takeD p [x])) w (.returned (.tuple #[])) W) := Lib.hid fun W hE hb => LnPost.good (endF_nil htd) hE hb
            clear hyd hlf htd
            rw [List.length_nil] at hDs
            go_enter Tryz.func62, Tryz.ntmps62
            go_wp2_with (first
              | (go_at_call 61; refine hsp.out.mono ?_; rintro e w2 ⟨⟨a2, k2, rfl, hk1, hk2, hr2, hst2⟩, hb2⟩; obtain ⟨vc, vr, ⟨v0, c2⟩, f2, hS3, ho3⟩ := hcut.out w2 a2 k2 hb2 hk1 hk2 hr2.out hst2.out; have hs2 := hb2.size; have hb3 := Lib.hid (below_only (below_to hgg hb2 (by omega)) ho3.out (by omega) (by rintro k rfl; exact Nat.le_refl _)))
              | (go_at_call 97; refine (htk.out _ _ _ hS3.out).mono ?_; rintro e w4 ⟨rfl, hS4, ho4⟩; have hs4 := ho4.size; have hs3 := ho3.out.size; replace hS4 := Lib.hid hS4; replace ho4 := Lib.hid (below_only hb3.out ho4 (by omega) (by rintro k rfl; exact Nat.le_refl _)); clear hS3 htk)
              | (go_at_call 97; refine (htk2.out _ _ _ hS4.out).mono ?_; rintro e w5 ⟨rfl, hS5, ho5⟩; have hs5 := ho5.size; replace hS5 := Lib.hid hS5; replace ho5 := Lib.hid (below_only ho4.out ho5 (by omega) (by rintro k rfl; exact Nat.le_refl _)); clear hS4)
              | (go_at_call 99; refine (hlab.out _ (hTt.out _ ho5.out).tab).mono ?_; rintro e w8 ⟨rfl, hb8⟩; have hS8 := hS5.out.below hb8; have hs8 := hb8.size; replace hb8 := Lib.hid (below_to ho5.out hb8 (by omega)); obtain ⟨c8, f8⟩ := hS8.dflt; obtain ⟨hE9, ho9⟩ := hDs.out _ _ _ hS8; have hb9 := Lib.hid (below_only hb8.out ho9.out (by omega) (by rintro k rfl; exact Nat.le_refl _)); obtain ⟨a9, k9, c9⟩ := hE9.out.len; clear hS5 hS8)
              | (go_at_call 98; refine (hgl2.out _).mono ?_; rintro e w9 ⟨rfl, rfl⟩)
              | (go_at_call 59; refine (hmt.out _).mono ?_; rintro e w6 ⟨rfl, rfl⟩))
            go_end0
            exact hgood.out _ hE9.out hb9.out
          | cons x2 r2 =>
            have hbad : Hid (∀ W, BelowS g w W → LnPost g (endF (takeD p (x :: x2 :: r2))) w (.panicked (errP 190)) W) := Lib.hid fun W hb => LnPost.bad (endF_cons htd) hb
            have hnz : (((r2.length + 1 : Nat) : Int) == 0) = false := by simp; omega
            have hnz2 : (((r2.length : Nat) : Int) + 1 == 0) = false := by simp; omega
            have hnz3 : ¬ ((r2.length : Nat) : Int) + 1 = 0 := by omega
            clear hyd hlf htd
            rw [List.length_cons] at hDs
            generalize r2.length = m2 at *
            go_enter Tryz.func62, Tryz.ntmps62
            go_wp2_with (first
              | (go_at_call 61; refine hsp.out.mono ?_; rintro e w2 ⟨⟨a2, k2, rfl, hk1, hk2, hr2, hst2⟩, hb2⟩; obtain ⟨vc, vr, ⟨v0, c2⟩, f2, hS3, ho3⟩ := hcut.out w2 a2 k2 hb2 hk1 hk2 hr2.out hst2.out; have hs2 := hb2.size; have hb3 := Lib.hid (below_only (below_to hgg hb2 (by omega)) ho3.out (by omega) (by rintro k rfl; exact Nat.le_refl _)))
              | (go_at_call 97; refine (htk.out _ _ _ hS3.out).mono ?_; rintro e w4 ⟨rfl, hS4, ho4⟩; have hs4 := ho4.size; have hs3 := ho3.out.size; replace hS4 := Lib.hid hS4; replace ho4 := Lib.hid (below_only hb3.out ho4 (by omega) (by rintro k rfl; exact Nat.le_refl _)); clear hS3 htk)
              | (go_at_call 97; refine (htk2.out _ _ _ hS4.out).mono ?_; rintro e w5 ⟨rfl, hS5, ho5⟩; have hs5 := ho5.size; replace hS5 := Lib.hid hS5; replace ho5 := Lib.hid (below_only ho4.out ho5 (by omega) (by rintro k rfl; exact Nat.le_refl _)); clear hS4)
              | (go_at_call 99; refine (hlab.out _ (hTt.out _ ho5.out).tab).mono ?_; rintro e w8 ⟨rfl, hb8⟩; have hS8 := hS5.out.below hb8; have hs8 := hb8.size; replace hb8 := Lib.hid (below_to ho5.out hb8 (by omega)); obtain ⟨c8, f8⟩ := hS8.dflt; obtain ⟨hE9, ho9⟩ := hDs.out _ _ _ hS8; have hb9 := Lib.hid (below_only hb8.out ho9.out (by omega) (by rintro k rfl; exact Nat.le_refl _)); obtain ⟨a9, k9, c9⟩ := hE9.out.len; clear hS5 hS8)
              | (go_at_call 98; refine (hgl2.out _).mono ?_; rintro e w9 ⟨rfl, rfl⟩)
              | (go_at_call 59; first | (refine (hmt.out _).mono ?_; rintro e w6 ⟨rfl, rfl⟩) | (refine (hmf.out _).mono ?_; rintro e w6 ⟨rfl, rfl⟩)))
            exact ⟨rfl, hbad.out _ hb9.out⟩
    · have hy1 : (y == [100, 101, 102, 97, 117, 108, 116]) = false := by rw [beq_eq_false_iff_ne]; exact hyd
      have hbad : Hid (∀ W, BelowS g w W → LnPost g (lineF p true (y :: ws)) w (.panicked (errP 190)) W) := Lib.hid fun W hb => LnPost.bad (by rw [line_first, if_neg hyd]) hb
      clear hyd
      go_enter Tryz.func62, Tryz.ntmps62
      go_wp2_with (first
        | (go_at_call 61; refine hsp.out.mono ?_; rintro e w2 ⟨⟨a2, k2, rfl, hk1, hk2, hr2, hst2⟩, hb2⟩; obtain ⟨vc, vr, ⟨v0, c2⟩, f2, hS3, ho3⟩ := hcut.out w2 a2 k2 hb2 hk1 hk2 hr2.out hst2.out; have hs2 := hb2.size; have hb3 := Lib.hid (below_only (below_to hgg hb2 (by omega)) ho3.out (by omega) (by rintro k rfl; exact Nat.le_refl _)))
        | (go_at_call 97; refine (htk.out _ _ _ hS3.out).mono ?_; rintro e w4 ⟨rfl, hS4, ho4⟩; have hs4 := ho4.size; have hs3 := ho3.out.size; replace ho4 := Lib.hid (below_only hb3.out ho4 (by omega) (by rintro k rfl; exact Nat.le_refl _)); clear hS3 htk hS4)
        | (go_at_call 59; refine (hmf.out _).mono ?_; rintro e w6 ⟨rfl, rfl⟩))
      exact ⟨rfl, hbad.out _ ho4.out⟩
  · have hkI : ¬ (k : Int) = 0 := by omega
    simp only [hk, decide_false]
    rw [line_nextF]
    have hrd := Lib.hid reads_any
    have hlk := fun W b hb => run_lookR y W b hb
    cases hf : rdsF y with
    | none =>
      have hbad : Hid (∀ W, BelowS g w W → LnPost g (endF (takeF p y ws)) w (.panicked (errP 190)) W) := Lib.hid fun W hb => LnPost.bad (endF_none (takeF_none hf)) hb
      rw [hf] at hlk
      simp only [rdsV, Option.isSome_none] at hlk
      replace hlk := Lib.hid hlk
      clear hf
      go_enter Tryz.func62, Tryz.ntmps62
      go_wp2_with (first
        | (go_at_call 61; refine hsp.out.mono ?_; rintro e w2 ⟨⟨a2, k2, rfl, hk1, hk2, hr2, hst2⟩, hb2⟩; obtain ⟨vc, vr, ⟨v0, c2⟩, f2, hS3, ho3⟩ := hcut.out w2 a2 k2 hb2 hk1 hk2 hr2.out hst2.out; have hs2 := hb2.size; have hb3 := Lib.hid (below_only (below_to hgg hb2 (by omega)) ho3.out (by omega) (by rintro k rfl; exact Nat.le_refl _)))
        | (go_at_call 97; refine (htk.out _ _ _ hS3.out).mono ?_; rintro e w4 ⟨rfl, hS4, ho4⟩; have hs4 := ho4.size; have hs3 := ho3.out.size; replace ho4 := Lib.hid (below_only hb3.out ho4 (by omega) (by rintro k rfl; exact Nat.le_refl _)); clear hS3 htk hS4)
        | (go_at_call 100; refine (hrd.out _).mono ?_; rintro e w5 ⟨b5, rfl, hm5, hb5⟩; have hlk5 := hlk.out _ _ hm5; have hs5 := hb5.size; replace hb5 := Lib.hid (below_to ho4.out hb5 (by omega)))
        | (go_at_call 59; refine (hmf.out _).mono ?_; rintro e w6 ⟨rfl, rfl⟩))
      exact ⟨rfl, hbad.out _ hb5.out⟩
    | some f =>
      have hen := rdsF_enters hf
      have hrf : Hid (∀ W vc vr, RdS W g p vc vr ws → TabP W → Calls Tryz.prog f #[.pointer (some ⟨g, 0, none⟩)] W (RdPost g (takeF p y ws) W)) := Lib.hid fun W vc vr h1 h2 => readsF_any f g p vc vr y ws hf hg hw1.out hl hl2 W h1 h2
      rw [hf] at hlk
      simp only [rdsV, Option.isSome_some] at hlk
      replace hlk := Lib.hid hlk
      cases htf : takeF p y ws with
      | none =>
        rw [htf] at hrf
        have hbad : Hid (∀ W, BelowS g w W → LnPost g (endF none) w (.panicked (errP 190)) W) := Lib.hid fun W hb => LnPost.bad rfl hb
        clear hf htf
        go_enter Tryz.func62, Tryz.ntmps62
        go_wp2_with (first
          | (go_at_call 61; refine hsp.out.mono ?_; rintro e w2 ⟨⟨a2, k2, rfl, hk1, hk2, hr2, hst2⟩, hb2⟩; obtain ⟨vc, vr, ⟨v0, c2⟩, f2, hS3, ho3⟩ := hcut.out w2 a2 k2 hb2 hk1 hk2 hr2.out hst2.out; have hs2 := hb2.size; have hb3 := Lib.hid (below_only (below_to hgg hb2 (by omega)) ho3.out (by omega) (by rintro k rfl; exact Nat.le_refl _)))
          | (go_at_call 97; refine (htk.out _ _ _ hS3.out).mono ?_; rintro e w4 ⟨rfl, hS4, ho4⟩; have hs4 := ho4.size; have hs3 := ho3.out.size; replace hS4 := Lib.hid hS4; replace ho4 := Lib.hid (below_only hb3.out ho4 (by omega) (by rintro k rfl; exact Nat.le_refl _)); clear hS3 htk)
          | (go_at_call 100; refine (hrd.out _).mono ?_; rintro e w5 ⟨b5, rfl, hm5, hb5⟩; have hlk5 := hlk.out _ _ hm5; have hs5 := hb5.size; have hS5 := Lib.hid (hS4.out.below hb5); replace hb5 := Lib.hid (below_to ho4.out hb5 (by omega)))
          | (go_at_call 59; refine (hmt.out _).mono ?_; rintro e w6 ⟨rfl, rfl⟩)
          | (refine (hrf.out _ _ _ hS5.out (hTt.out _ hb5.out)).mono ?_; rintro e w7 ⟨h7, -, hb7⟩; obtain rfl := h7 rfl; replace hb7 := Lib.hid (hb5.out.trans hb7)))
        exact ⟨rfl, hbad.out _ hb7.out⟩
      | some qr =>
        obtain ⟨q, r⟩ := qr
        rw [htf] at hrf
        cases r with
        | nil =>
          have hgood : Hid (∀ W, RdE W g q 0 → BelowS g w W → LnPost g (endF (some (q, []))) w (.returned (.tuple #[])) W) := Lib.hid fun W hE hb => LnPost.good rfl hE hb
          clear hf htf
          go_enter Tryz.func62, Tryz.ntmps62
          go_wp2_with (first
            | (go_at_call 61; refine hsp.out.mono ?_; rintro e w2 ⟨⟨a2, k2, rfl, hk1, hk2, hr2, hst2⟩, hb2⟩; obtain ⟨vc, vr, ⟨v0, c2⟩, f2, hS3, ho3⟩ := hcut.out w2 a2 k2 hb2 hk1 hk2 hr2.out hst2.out; have hs2 := hb2.size; have hb3 := Lib.hid (below_only (below_to hgg hb2 (by omega)) ho3.out (by omega) (by rintro k rfl; exact Nat.le_refl _)))
            | (go_at_call 97; refine (htk.out _ _ _ hS3.out).mono ?_; rintro e w4 ⟨rfl, hS4, ho4⟩; have hs4 := ho4.size; have hs3 := ho3.out.size; replace hS4 := Lib.hid hS4; replace ho4 := Lib.hid (below_only hb3.out ho4 (by omega) (by rintro k rfl; exact Nat.le_refl _)); clear hS3 htk)
            | (go_at_call 100; refine (hrd.out _).mono ?_; rintro e w5 ⟨b5, rfl, hm5, hb5⟩; have hlk5 := hlk.out _ _ hm5; have hs5 := hb5.size; have hS5 := Lib.hid (hS4.out.below hb5); replace hb5 := Lib.hid (below_to ho4.out hb5 (by omega)))
            | (go_at_call 59; refine (hmt.out _).mono ?_; rintro e w6 ⟨rfl, rfl⟩)
            | (refine (hrf.out _ _ _ hS5.out (hTt.out _ hb5.out)).mono ?_; rintro e w7 ⟨-, h7, hb7⟩; obtain ⟨rfl, hE7⟩ := h7 _ _ rfl; rw [List.length_nil] at hE7; obtain ⟨a7, k7, c7⟩ := hE7.len; replace hE7 := Lib.hid hE7; replace hb7 := Lib.hid (hb5.out.trans hb7)))
          go_end0
          exact hgood.out _ hE7.out hb7.out
        | cons x2 r2 =>
          have hbad : Hid (∀ W, BelowS g w W → LnPost g (endF (some (q, x2 :: r2))) w (.panicked (errP 190)) W) := Lib.hid fun W hb => LnPost.bad rfl hb
          have hnz : (((r2.length + 1 : Nat) : Int) == 0) = false := by simp; omega
          have hnz2 : (((r2.length : Nat) : Int) + 1 == 0) = false := by simp; omega
          have hnz3 : ¬ ((r2.length : Nat) : Int) + 1 = 0 := by omega
          obtain ⟨m2, hm2⟩ : ∃ m, Hid (m = r2.length) := ⟨_, Lib.hid rfl⟩
          rw [← hm2.out] at hnz hnz2 hnz3
          clear hf htf
          go_enter Tryz.func62, Tryz.ntmps62
          go_wp2_with (first
            | (go_at_call 61; refine hsp.out.mono ?_; rintro e w2 ⟨⟨a2, k2, rfl, hk1, hk2, hr2, hst2⟩, hb2⟩; obtain ⟨vc, vr, ⟨v0, c2⟩, f2, hS3, ho3⟩ := hcut.out w2 a2 k2 hb2 hk1 hk2 hr2.out hst2.out; have hs2 := hb2.size; have hb3 := Lib.hid (below_only (below_to hgg hb2 (by omega)) ho3.out (by omega) (by rintro k rfl; exact Nat.le_refl _)))
            | (go_at_call 97; refine (htk.out _ _ _ hS3.out).mono ?_; rintro e w4 ⟨rfl, hS4, ho4⟩; have hs4 := ho4.size; have hs3 := ho3.out.size; replace hS4 := Lib.hid hS4; replace ho4 := Lib.hid (below_only hb3.out ho4 (by omega) (by rintro k rfl; exact Nat.le_refl _)); clear hS3 htk)
            | (go_at_call 100; refine (hrd.out _).mono ?_; rintro e w5 ⟨b5, rfl, hm5, hb5⟩; have hlk5 := hlk.out _ _ hm5; have hs5 := hb5.size; have hS5 := Lib.hid (hS4.out.below hb5); replace hb5 := Lib.hid (below_to ho4.out hb5 (by omega)))
            | (go_at_call 59; first | (refine (hmt.out _).mono ?_; rintro e w6 ⟨rfl, rfl⟩) | (refine (hmf.out _).mono ?_; rintro e w6 ⟨rfl, rfl⟩))
            | (refine (hrf.out _ _ _ hS5.out (hTt.out _ hb5.out)).mono ?_; rintro e w7 ⟨-, h7, hb7⟩; obtain ⟨rfl, hE7⟩ := h7 _ _ rfl; rw [List.length_cons, ← hm2.out] at hE7; obtain ⟨a7, k7, c7⟩ := hE7.len; replace hE7 := Lib.hid hE7; replace hb7 := Lib.hid (hb5.out.trans hb7)))
          exact ⟨rfl, hbad.out _ hb7.out⟩
end Go.Proofs.YthpallkphamobaaGreatDoor
