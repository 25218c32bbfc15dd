/- Texts of this claim, merged; no condition. -/
import Derived.Test.YtbicfaiabpcgfaaGreatDoorD27
import Derived.Test.YtbicfaiabpcgfaaGreatDoorD06
import Derived.Test.YtbicfaiabpcgfaaGreatDoorD03
set_option linter.all false
namespace Go.Proofs.YtbicfaiabpcgfaaGreatDoor
open Go.RowKit Go.Shelf
attribute [local go_sem] Oper.semAt_some
attribute [local go_sem 20000] run_max_big run_min_small

/-- The number of rounds, in a box. -/
def NbS (k9 : Nat) (Pk : Prop) (v : Int) (S : Nat → Prop) (W : World) : Prop := Pk ∧ (∀ j, S j → j < W.heap.size) ∧ S k9 ∧ Box W k9 (.int .i64 v) 3
theorem NbS.fac {k9 : Nat} {Pk : Prop} {v : Int} {S : Nat → Prop} : Fac S (NbS k9 Pk v S) :=
  ⟨fun W W' ⟨h0, h1, h2, h3⟩ hz hs => ⟨h0, fun j hj => Nat.lt_of_lt_of_le (h1 j hj) hz, h2, (hs _ h2 (h1 _ h2)).trans h3⟩, fun W h => h.2.1⟩
theorem NbS.fac' {k9 : Nat} {R Pk : Prop} {v : Int} {S : Nat → Prop} : Fac S (fun W => R ∧ NbS k9 Pk v S W) :=
  ⟨fun W W' h hz hs => ⟨h.1, NbS.fac.on W W' h.2 hz hs⟩, fun W h => h.2.2.1⟩
/-- What the law's turns find in memory. -/
structure FwS (w : World) (cs : List Nat) (a : Option Addr) (c : Nat) (x : Int) (p5 : Nat) (p : Option Addr) (q bx : Nat) (W : World) : Prop where
  bl : Box W w.heap.size (.slice a cs.length c) 32
  bm : Box W (w.heap.size + 1) (.int .i64 x) 3
  br : Box W (w.heap.size + 1 + 1) (.bool false) 4
  bp : Box W p5 (.slice p (opsL cs).length q) 33
  bx : Box W bx (.slice a cs.length c) 32
  hp : IntsAt W p q (opsL cs)
  hc : CodeAt W a c cs
  hb : Below w.heap.size w W
theorem FwS.below {w : World} {cs : List Nat} {a : Option Addr} {c : Nat} {x : Int} {p5 : Nat} {p : Option Addr} {q bx : Nat} {W W' : World} (h : FwS w cs a c x p5 p q bx W) (hb : Below W.heap.size W W') : FwS w cs a c x p5 p q bx W' :=
  ⟨h.bl.below hb, h.bm.below hb, h.br.below hb, h.bp.below hb, h.bx.below hb, h.hp.below hb, h.hc.below hb, xtrans h.hb hb⟩
set_option maxRecDepth 100000 in
set_option maxHeartbeats 16000000 in
theorem codeOps_go (cs : List Nat) (a : Option Addr) (c : Nat) (x : Int) (w : World) (hC : CodeAt w a c cs) (hl : cs.length ≤ 300) (hx1 : -9223372036854775808 ≤ x) (hx2 : x ≤ 9223372036854775807) (hT : Tab w) :
    Calls Tryz.prog 4 #[.slice a cs.length c, .int .i64 x] w (Yes w) := by
  have hlb : ¬ ((cs.length : Int) > 300) := by omega
  have hwl : (opsL cs).length ≤ 300 := by have := opsL_len cs; omega
  have hwk := Lib.hid fun W (h : Below w.heap.size w W) => works10_at W (hT.below h)
  have hA : Below w.heap.size w (((w.alloc (.cells #[.slice a cs.length c] 32)).alloc (.cells #[.int .i64 x] 3)).alloc (.cells #[.bool false] 4)) := xalloc (xalloc (xalloc (xrefl w) _) _) _
  have bl1 : Hid (Box (((w.alloc (.cells #[.slice a cs.length c] 32)).alloc (.cells #[.int .i64 x] 3)).alloc (.cells #[.bool false] 4)) w.heap.size (.slice a cs.length c) 32) := Lib.hid ((Box.new w _ _).below (xalloc (xalloc (xrefl _) _) _))
  have bm1 : Hid (Box (((w.alloc (.cells #[.slice a cs.length c] 32)).alloc (.cells #[.int .i64 x] 3)).alloc (.cells #[.bool false] 4)) (w.heap.size + 1) (.int .i64 x) 3) := Lib.hid (by have := (Box.new (w.alloc (.cells #[.slice a cs.length c] 32)) (.int .i64 x) 3).below (xalloc (xrefl _) (.cells #[.bool false] 4)); rwa [World.size_alloc] at this)
  have br1 : Hid (Box (((w.alloc (.cells #[.slice a cs.length c] 32)).alloc (.cells #[.int .i64 x] 3)).alloc (.cells #[.bool false] 4)) (w.heap.size + 2) (.bool false) 4) := Lib.hid (by have := Box.new ((w.alloc (.cells #[.slice a cs.length c] 32)).alloc (.cells #[.int .i64 x] 3)) (.bool false) 4; rwa [World.size_alloc, World.size_alloc] at this)
  have cl0 := bl1.out.cell
  have hro := Lib.hid (fun W (h : Below w.heap.size w W) => refOps_any cs a c W (hC.below h))
  have hops := Lib.hid fun W => ops_any a cs.length c W
  have hnil := fun k W => run_eql_fn_nil (P := Tryz.prog) 36 (by kernel_rfl) (.func 33) #[] #[.pointer (some ⟨k, 0, none⟩)] W
  replace hA := Lib.hid hA
  replace hC := Lib.hid hC
  refine (callsIn_wide (n := 0)).1 ?_
  refine callsIn_of_wp_marks Tryz.func4 rfl trivial ?_ rfl
  simp only [Tryz.ntmps4, List.size_toArray, List.length_cons, List.length_nil, Nat.reduceAdd, Nat.reduceSub, Array.replicate_succ, Array.replicate_zero, List.push_toArray, List.append_toArray, List.nil_append, List.cons_append]
  refine wpIn_wide.2 ?_
  go_wp2_with (first
    | (go_at_call 13; refine (hro.out _ hA.out).mono ?_; rintro e w1 ⟨⟨v, rfl, hv⟩, hb1⟩; obtain ⟨p, q, rfl, hP, -⟩ := hv.at; have hx1 := Lib.hid (xalloc hb1 (.cells #[.slice p (opsL cs).length q] 33)); replace hP := Lib.hid (hP.below (xalloc (xrefl w1) (.cells #[.slice p (opsL cs).length q] 33))); have hbp := Lib.hid (Box.new w1 (.slice p (opsL cs).length q) 33); have cl1 := (bl1.out.below hx1.out).cell; clear hv)
    | (go_at_call 14; refine (hops.out _).mono ?_; rintro e w' ⟨rfl, rfl⟩))
  obtain ⟨wq, hwq⟩ : ∃ wq, wq = (w1.alloc (.cells #[.slice p (opsL cs).length q] 33)).alloc (.cells #[.slice a cs.length c] 32) := ⟨_, rfl⟩
  have hq1 : Below (w1.alloc (.cells #[.slice p (opsL cs).length q] 33)).heap.size (w1.alloc (.cells #[.slice p (opsL cs).length q] 33)) wq := by rw [hwq]; exact xalloc (xrefl _) _
  have hbx : Box wq (w1.heap.size + 1) (.slice a cs.length c) 32 := by have := Box.new (w1.alloc (.cells #[.slice p (opsL cs).length q] 33)) (.slice a cs.length c) 32; rw [World.size_alloc] at this; rw [hwq]; exact this
  have hsq : wq.heap.size = w1.heap.size + 2 := by rw [hwq]; simp
  have hq8 : Below wq.heap.size wq (wq.alloc (.cells #[.int .i64 0] 3)) := xalloc (xrefl wq) _
  have h1q := xtrans hq1 hq8
  have hxw := xtrans hx1.out h1q
  have hAx : Below (((w.alloc (.cells #[.slice a cs.length c] 32)).alloc (.cells #[.int .i64 x] 3)).alloc (.cells #[.bool false] 4)).heap.size (((w.alloc (.cells #[.slice a cs.length c] 32)).alloc (.cells #[.int .i64 x] 3)).alloc (.cells #[.bool false] 4)) (wq.alloc (.cells #[.int .i64 0] 3)) := hxw
  have hS : FwS w cs a c x w1.heap.size p q (w1.heap.size + 1) (wq.alloc (.cells #[.int .i64 0] 3)) := ⟨bl1.out.below hAx, bm1.out.below hAx, br1.out.below hAx, hbp.out.below h1q, hbx.below hq8, hP.out.below h1q, (hC.out.below hA.out).below hAx, xtrans hA.out hAx⟩
  have bt : Box (wq.alloc (.cells #[.int .i64 0] 3)) (w1.heap.size + 1 + 1) (.int .i64 ((0 : Nat) : Int)) 3 := by have := Box.new wq (.int .i64 ((0 : Nat) : Int)) 3; rw [hsq] at this; exact this
  have l8 : w1.heap.size + 1 + 1 < (wq.alloc (.cells #[.int .i64 0] 3)).heap.size := by rw [World.size_alloc, hsq]; omega
  have l1 : w.heap.size + 3 ≤ w1.heap.size := by have := hb1.size; simp at this; omega
  have lq1 : w1.heap.size < w1.heap.size + 1 := by omega
  have lq2 : w1.heap.size + 1 < w1.heap.size + 1 + 1 := by omega
  rw [← hwq]
  generalize hk8 : w1.heap.size + 1 + 1 = k8 at *
  generalize hkx : w1.heap.size + 1 = bx at *
  generalize w1.heap.size = p5 at *
  generalize wq.alloc (.cells #[.int .i64 0] 3) = w8 at *
  clear hAx hxw h1q hq8 hsq hbx hq1 hwq hP hbp hx1 cl1 hb1 bl1 bm1 br1 cl0 hA hC hro hops hnil hk8 hkx
  refine wp_loop_rounds 3 ?_
  rw [rounds_succ]
  have ct := bt.cell
  replace hS := Lib.hid hS
  replace bt := Lib.hid bt
  go_wp2
  have hB9 := xalloc (xrefl w8) (.cells #[.int .i64 0] 3)
  have hn9 : Box (w8.alloc (.cells #[.int .i64 0] 3)) w8.heap.size (.int .i64 ((0 : Nat) : Int)) 3 := Box.new w8 _ _
  have s9 : w8.heap.size < (w8.alloc (.cells #[.int .i64 0] 3)).heap.size := by rw [World.size_alloc]; omega
  obtain ⟨v, hv⟩ : ∃ v, w8.alloc (.cells #[.int .i64 0] 3) = v := ⟨_, rfl⟩
  rw [hv] at hB9 hn9 s9 ⊢
  have lbx := hS.out.bx.lt
  have hcr : Hid (∀ j, (cs ≠ [] ∧ ∃ y, a = some y ∧ y.block = j) → j < w8.heap.size) := Lib.hid fun j h0 => codeRd_old (w' := w) (bx := 0) hS.out.hc h0.2 h0.1
  have lk8 := bt.out.lt
  refine wp_mid 2 (fun a a' W' => ∃ D, a' = { a with defers := { target := .collected D, args := #[] } :: a.defers } ∧ ∃ m : Nat, (m : Int) = smallF ((opsL cs).length : Int) (bigF 1 x) ∧ Below w8.heap.size w8 W' ∧ Box W' w8.heap.size (.int .i64 (m : Int)) 3 ∧ W'.heap[D]? = some (.deferred (some [])) ∧ v.heap.size ≤ D) ?range ?rest (fun _ _ h => h)
  case range =>
    refine (wpIn_wide (n := 0)).1 ?_
    refine wp_rangeL (w0 := w8) (gf := 33) (lb := #[.pointer (some ⟨bx, 0, none⟩)]) rfl (enters_of Tryz.func33 (by kernel_rfl) rfl) (encs := encOp cs) (Rd := codeRd bx a cs) (opsL cs)
      (fun k hk => by
        rcases hk with rfl | hk
        · omega
        · have := hcr.out k hk; omega) hB9 (fun W hW => ops_seq cs bx a c W ((hS.out.bx.below hB9).below hW) ((hS.out.hc.below hB9).below hW)) (fun x => rfl)
      (fun k S W => NbS w8.heap.size (k = 0 ∨ (k : Int) < x) (k : Int) S W) (fun k c S W => (c = .exit 2 ∧ x ≤ ((k + 1 : Nat) : Int)) ∧ NbS w8.heap.size (k = 0 ∨ (k : Int) < x) ((k + 1 : Nat) : Int) S W) (fun k S => NbS.fac) (fun k c S => NbS.fac') (fun j => j = w8.heap.size)
      (fun j hj => ⟨by omega, fun hr => by
        rcases hr with rfl | hr
        · omega
        · have := hcr.out j hr; omega⟩) ⟨.inl rfl, by rintro j rfl; omega, rfl, hn9⟩ ?round ?done ?stop
    case round =>
      intro l0 k hk W
      have hst := Lib.hid (fun (W : World) (h : IntsAt W p q (opsL cs)) => h.get hk)
      have hxl := opsL_lt (List.getElem_mem hk)
      have hkI : (k : Int) < (opsL cs).length := by omega
      have hkN : ¬ (opsL cs).length ≤ k := by omega
      unfold encOp
      dsimp only
      generalize (opsL cs)[k] = y at *
      simp only [List.zip_toArray, List.zip_cons_cons, List.zip_nil_right, List.size_toArray, List.foldl_toArray', List.foldl_cons, List.foldl_nil, List.setIfInBounds_toArray, List.set_cons_succ, List.set_cons_zero]
      gi_wp2
      refine ⟨trivial, fun S W2 hb2 hzz _ hSo hS2 => ?_⟩
      obtain ⟨hpk, h1, h2, hbn⟩ := hS2
      have hF2 := hS.out.below hb2
      have cn := hbn.cell
      have cf := hbn.free
      have cp := hF2.bp.cell
      have cm := hF2.bm.cell
      have ct2 := (bt.out.below hb2).cell
      have ln : (opsL cs).length ≤ 300 := hwl
      have hwk1 : IntKind.i64.wrap ((k : Int) + 1) = (k : Int) + 1 := by simp [IntKind.wrap, IntKind.bits, IntKind.signed]; omega
      obtain ⟨b, o, rfl, c0⟩ := hst.out W2 hF2.hp
      obtain ⟨b2, o2, ea, c1, hy256⟩ := hF2.hc.get hxl
      have cl := hF2.bl.cell
      rw [ea] at cl
      have hyI : (y : Int) < cs.length := by omega
      have hyN : ¬ cs.length ≤ y := by omega
      generalize (byN cs y) = y8 at *
      replace hF2 := Lib.hid hF2
      replace hbn := Lib.hid hbn
      replace hSo := Lib.hid hSo
      replace h1 := Lib.hid h1
      clear hb2 ct hst
      generalize (opsL cs).length = L at *
      generalize w8.heap.size = k9 at *
      by_cases hxk : x ≤ (k : Int) + 1
      · gi_wp2
        exact ⟨(Only.refl S W2).setCell ⟨k9, 0, none⟩ _ h2, S, fun j hj => .inl hj, ⟨rfl, by omega⟩, hpk, (fun j hj => by have := h1.out j hj; simpa [World.setCell] using this), h2, hbn.out.set _⟩
      · gi_wp2
        exact ⟨(Only.refl S W2).setCell ⟨k9, 0, none⟩ _ h2, S, fun j hj => .inl hj, .inr (by omega), (fun j hj => by have := h1.out j hj; simpa [World.setCell] using this), h2, hbn.out.set _⟩
    case done =>
      intro D S W hD hSD hb _ hSw hS2 hK
      obtain ⟨hpk, h1, h2, hbn⟩ := hS2
      exact ⟨.inl rfl, D, rfl, (opsL cs).length, by unfold smallF bigF; rcases hpk with h | h <;> (repeat' split) <;> omega, hb, hbn, hK, hD⟩
    case stop =>
      intro D k c S W hkl hD hSD hb _ hSw hS2 hK
      obtain ⟨⟨rfl, hq⟩, hpk, h1, h2, hbn⟩ := hS2
      gi_wp2
      exact ⟨k + 1, by unfold smallF bigF; rcases hpk with h | h <;> (repeat' split) <;> omega, hbn⟩
  case rest =>
    rintro _ W6 ⟨D1, rfl, m, hm, hb6, hn6, hD6, hDl⟩
    have hF6 := hS.out.below hb6
    have ct6 := (bt.out.below hb6).cell
    have cn6 := hn6.cell
    have cp6 := hF6.bp.cell
    have cm6 := hF6.bm.cell
    replace hF6 := Lib.hid hF6
    replace hn6 := Lib.hid hn6
    replace hb6 := Lib.hid hb6
    replace hD6 := Lib.hid hD6
    dsimp only
    go_wp2
    have h67 : Below W6.heap.size W6 (W6.alloc (.cells #[.int .i64 1] 3)) := xalloc (xrefl W6) _
    have bt1 : Box (W6.alloc (.cells #[.int .i64 1] 3)) W6.heap.size (.int .i64 ((1 : Nat) : Int)) 3 := Box.new W6 _ _
    have hS1 := hF6.out.below h67
    have hD1 := (h67.block D1 (Array.getElem?_eq_some_iff.1 hD6.out).1).trans hD6.out
    have l8' : W6.heap.size < (W6.alloc (.cells #[.int .i64 1] 3)).heap.size := by rw [World.size_alloc]; omega
    have hd1w : w.heap.size ≤ D1 := by have := hS.out.hb.size; omega
    generalize hk8b : W6.heap.size = k8b at *
    generalize W6.alloc (.cells #[.int .i64 1] 3) = wB at *
    replace hD1 := Lib.hid hD1
    clear hS bt ct hB9 hn9 s9 hv lbx hcr lk8 hb6 hn6 hD6 hF6 ct6 cn6 cp6 cm6 hm h67 hk8b
    rw [rounds_succ]
    have ct := bt1.cell
    replace hS1 := Lib.hid hS1
    replace bt1 := Lib.hid bt1
    go_wp2
    have hB9 := xalloc (xrefl wB) (.cells #[.int .i64 0] 3)
    have hn9 : Box (wB.alloc (.cells #[.int .i64 0] 3)) wB.heap.size (.int .i64 ((0 : Nat) : Int)) 3 := Box.new wB _ _
    have s9 : wB.heap.size < (wB.alloc (.cells #[.int .i64 0] 3)).heap.size := by rw [World.size_alloc]; omega
    obtain ⟨v, hv⟩ : ∃ v, wB.alloc (.cells #[.int .i64 0] 3) = v := ⟨_, rfl⟩
    rw [hv] at hB9 hn9 s9 ⊢
    have lbx := hS1.out.bx.lt
    have hcr : Hid (∀ j, (cs ≠ [] ∧ ∃ y, a = some y ∧ y.block = j) → j < wB.heap.size) := Lib.hid fun j h0 => codeRd_old (w' := w) (bx := 0) hS1.out.hc h0.2 h0.1
    have lk8 := bt1.out.lt
    refine wp_mid 2 (fun a a' W' => ∃ D, a' = { a with defers := { target := .collected D, args := #[] } :: a.defers } ∧ ∃ m : Nat, m = (opsL cs).length ∧ Below wB.heap.size wB W' ∧ Box W' wB.heap.size (.int .i64 (m : Int)) 3 ∧ W'.heap[D]? = some (.deferred (some [])) ∧ v.heap.size ≤ D) ?range ?rest (fun _ _ h => h)
    case range =>
      refine (wpIn_wide (n := 0)).1 ?_
      refine wp_rangeL (w0 := wB) (gf := 33) (lb := #[.pointer (some ⟨bx, 0, none⟩)]) rfl (enters_of Tryz.func33 (by kernel_rfl) rfl) (encs := encOp cs) (Rd := codeRd bx a cs) (opsL cs)
        (fun k hk => by
          rcases hk with rfl | hk
          · omega
          · have := hcr.out k hk; omega) hB9 (fun W hW => ops_seq cs bx a c W ((hS1.out.bx.below hB9).below hW) ((hS1.out.hc.below hB9).below hW)) (fun x => rfl)
        (fun k S W => NbS wB.heap.size (True) (k : Int) S W) (fun k c S W => (c = .exit 2 ∧ False) ∧ NbS wB.heap.size (True) ((k + 1 : Nat) : Int) S W) (fun k S => NbS.fac) (fun k c S => NbS.fac') (fun j => j = wB.heap.size)
        (fun j hj => ⟨by omega, fun hr => by
          rcases hr with rfl | hr
          · omega
          · have := hcr.out j hr; omega⟩) ⟨trivial, by rintro j rfl; omega, rfl, hn9⟩ ?round ?done ?stop
      case round =>
        intro l0 k hk W
        have hst := Lib.hid (fun (W : World) (h : IntsAt W p q (opsL cs)) => h.get hk)
        have hxl := opsL_lt (List.getElem_mem hk)
        have hkI : (k : Int) < (opsL cs).length := by omega
        have hkN : ¬ (opsL cs).length ≤ k := by omega
        unfold encOp
        dsimp only
        generalize (opsL cs)[k] = y at *
        simp only [List.zip_toArray, List.zip_cons_cons, List.zip_nil_right, List.size_toArray, List.foldl_toArray', List.foldl_cons, List.foldl_nil, List.setIfInBounds_toArray, List.set_cons_succ, List.set_cons_zero]
        gi_wp2
        refine ⟨trivial, fun S W2 hb2 hzz _ hSo hS2 => ?_⟩
        obtain ⟨hpk, h1, h2, hbn⟩ := hS2
        have hF2 := hS1.out.below hb2
        have cn := hbn.cell
        have cf := hbn.free
        have cp := hF2.bp.cell
        have cm := hF2.bm.cell
        have ct2 := (bt1.out.below hb2).cell
        have ln : (opsL cs).length ≤ 300 := hwl
        have hwk1 : IntKind.i64.wrap ((k : Int) + 1) = (k : Int) + 1 := by simp [IntKind.wrap, IntKind.bits, IntKind.signed]; omega
        obtain ⟨b, o, rfl, c0⟩ := hst.out W2 hF2.hp
        obtain ⟨b2, o2, ea, c1, hy256⟩ := hF2.hc.get hxl
        have cl := hF2.bl.cell
        rw [ea] at cl
        have hyI : (y : Int) < cs.length := by omega
        have hyN : ¬ cs.length ≤ y := by omega
        generalize (byN cs y) = y8 at *
        replace hF2 := Lib.hid hF2
        replace hbn := Lib.hid hbn
        replace hSo := Lib.hid hSo
        replace h1 := Lib.hid h1
        clear hb2 ct hst
        generalize (opsL cs).length = L at *
        generalize wB.heap.size = k9 at *
        gi_wp2
        exact ⟨(Only.refl S W2).setCell ⟨k9, 0, none⟩ _ h2, S, fun j hj => .inl hj, trivial, (fun j hj => by have := h1.out j hj; simpa [World.setCell] using this), h2, hbn.out.set _⟩
      case done =>
        intro D S W hD hSD hb _ hSw hS2 hK
        obtain ⟨hpk, h1, h2, hbn⟩ := hS2
        exact ⟨.inl rfl, D, rfl, (opsL cs).length, rfl, hb, hbn, hK, hD⟩
      case stop =>
        intro D k c S W hkl hD hSD hb _ hSw hS2 hK
        exact hS2.1.2.elim
    case rest =>
      rintro _ W6 ⟨D2, rfl, m, hm, hb6, hn6, hD6, hDl⟩
      subst hm
      have hF6 := hS1.out.below hb6
      have ct6 := (bt1.out.below hb6).cell
      have cn6 := hn6.cell
      have cp6 := hF6.bp.cell
      have cm6 := hF6.bm.cell
      replace hF6 := Lib.hid hF6
      replace hn6 := Lib.hid hn6
      replace hb6 := Lib.hid hb6
      replace hD6 := Lib.hid hD6
      dsimp only
      go_wp2
      rw [rounds_succ]
      have h67 : Below W6.heap.size W6 (W6.alloc (.cells #[.int .i64 2] 3)) := xalloc (xrefl W6) _
      have btC := (Box.new W6 (.int .i64 2) 3).cell
      have hSC := Lib.hid (hF6.out.below h67)
      have hD1b := Lib.hid ((h67.block D1 (Array.getElem?_eq_some_iff.1 ((hb6.out.block D1 (Array.getElem?_eq_some_iff.1 hD1.out).1).trans hD1.out)).1).trans ((hb6.out.block D1 (Array.getElem?_eq_some_iff.1 hD1.out).1).trans hD1.out))
      have hD2b := Lib.hid ((h67.block D2 (Array.getElem?_eq_some_iff.1 hD6.out).1).trans hD6.out)
      have hdl1 := (Array.getElem?_eq_some_iff.1 hD1.out).1
      generalize W6.alloc (.cells #[.int .i64 2] 3) = wC at *
      have hd2w : D1 < D2 := by omega
      clear hB9 hn9 s9 hv hb6 hn6 hD6 hF6 ct6 cn6 cp6 cm6 h67 hD1
      go_wp2_with (go_at_call 8; refine (hwk.out _ hSC.out.hb).mono ?_; rintro e W8 ⟨rfl, hb8⟩; have hS8 := hSC.out.below hb8; have cr := hS8.br.cell; have fr := hS8.br.free; have hD1c := (hb8.block D1 (Array.getElem?_eq_some_iff.1 hD1b.out).1).trans hD1b.out; have hD2c := (hb8.block D2 (Array.getElem?_eq_some_iff.1 hD2b.out).1).trans hD2b.out; replace hS8 := Lib.hid hS8; replace hD1c := Lib.hid hD1c; replace hD2c := Lib.hid hD2c; replace hb8 := Lib.hid hb8)
      have hne : ∀ D, W8.heap[D]? = some (.deferred (some [])) → D ≠ w.heap.size + 1 + 1 := fun D h1 e => by
        have h2 := hS8.out.br
        unfold Box at h2
        rw [e, h2] at h1
        cases h1
      have hn1 := hne D1 hD1c.out
      have hn2 := hne D2 hD2c.out
      have hbE : Below w.heap.size w (W8.setCell ⟨w.heap.size + 1 + 1, 0, none⟩ (.bool true)) := hS8.out.hb.setCell (by simp only; omega) _
      have hE1 : (W8.setCell ⟨w.heap.size + 1 + 1, 0, none⟩ (.bool true)).heap[D1]? = some (.deferred (some [])) := (Below.heap_setCell _ ⟨w.heap.size + 1 + 1, 0, none⟩ _ D1 hn1).trans hD1c.out
      have hE2 : (W8.setCell ⟨w.heap.size + 1 + 1, 0, none⟩ (.bool true)).heap[D2]? = some (.deferred (some [])) := (Below.heap_setCell _ ⟨w.heap.size + 1 + 1, 0, none⟩ _ D2 hn2).trans hD2c.out
      have hE3 := hS8.out.br.set (.bool true)
      generalize W8.setCell ⟨w.heap.size + 1 + 1, 0, none⟩ (.bool true) = WE at hbE hE1 hE2 hE3 ⊢
      have hk1 : (WE.putObj D2 (.deferred none)).heap[D1]? = some (.deferred (some [])) := (World.putObj_heap_other (by omega)).trans hE1
      have ho := ((Only.refl (fun k => k = D2 ∨ k = D1) WE).putObj D2 (.deferred none) (.inl rfl)).putObj D1 (.deferred none) (.inr rfl)
      refine ⟨by simp, .inl ⟨_, _, rfl, run_takeDeferred hE2, by simp, .inl ⟨_, _, rfl, run_takeDeferred hk1, ?_⟩⟩⟩
      exact ⟨_, results_bool rfl _ _ (w.heap.size + 1 + 1) (.bool true) rfl (hE3.only ho (by omega)).cell, rfl, ho.below hbE hbE.size (by rintro i (rfl | rfl) <;> omega)⟩

set_option maxRecDepth 100000 in
set_option maxHeartbeats 2000000 in
theorem codeOps_walk (a : Option Addr) (c : Nat) (zs : List Int) (x : Int) (w : World) (hl : zs.length ≤ c ∧ c ≤ 9223372036854775807) (hr : RowAt .u8 w a zs) (ha : a = none → c = 0) (hw : ∀ z ∈ zs, (Lit.int .u8 z).wf = true) (hx : -9223372036854775808 ≤ x ∧ x ≤ 9223372036854775807) (hT : Tab w) :
    Calls Tryz.prog 4 #[.slice a zs.length c, .int .i64 x] w (Yes w) := by
  by_cases h : (zs.length : Int) > 300
  · have hwk := Lib.hid fun W (h : Below w.heap.size w W) => works10_at W (hT.below h)
    have hb0 := Lib.hid (xalloc (xalloc (xalloc (xrefl w) (.cells #[.slice a zs.length c] 32)) (.cells #[.int .i64 x] 3)) (.cells #[.bool false] 4))
    have bl1 : Hid (Box (((w.alloc (.cells #[.slice a zs.length c] 32)).alloc (.cells #[.int .i64 x] 3)).alloc (.cells #[.bool false] 4)) w.heap.size (.slice a zs.length c) 32) := Lib.hid ((Box.new w _ _).below (xalloc (xalloc (xrefl _) _) _))
    have br1 : Hid (Box (((w.alloc (.cells #[.slice a zs.length c] 32)).alloc (.cells #[.int .i64 x] 3)).alloc (.cells #[.bool false] 4)) (w.heap.size + 1 + 1) (.bool false) 4) := Lib.hid (by have := Box.new ((w.alloc (.cells #[.slice a zs.length c] 32)).alloc (.cells #[.int .i64 x] 3)) (.bool false) 4; rwa [World.size_alloc, World.size_alloc] at this)
    have cl0 := bl1.out.cell
    clear hr ha hw hl hx
    refine (callsIn_wide (n := 0)).1 ?_
    refine callsIn_of_wp_marks Tryz.func4 rfl trivial ?_ rfl
    simp only [Tryz.ntmps4, List.size_toArray, List.length_cons, List.length_nil, Nat.reduceAdd, Nat.reduceSub, Array.replicate_succ, Array.replicate_zero, List.push_toArray, List.append_toArray, List.nil_append, List.cons_append]
    refine wpIn_wide.2 ?_
    go_wp2_with (go_at_call 8; refine (hwk.out _ hb0.out).mono ?_; rintro e w3 ⟨rfl, b3⟩; have hB := br1.out.below b3; have cr := hB.cell; have fr := hB.free; replace hB := Lib.hid hB)
    have hbE : Below w.heap.size w (w3.setCell ⟨w.heap.size + 1 + 1, 0, none⟩ (.bool true)) := (xtrans hb0.out b3).setCell (by simp only; omega) _
    have hE3 := hB.out.set (.bool true)
    exact ⟨_, results_bool rfl _ _ (w.heap.size + 1 + 1) (.bool true) rfl hE3.cell, rfl, hbE⟩
  · obtain ⟨cs, rfl, hC⟩ := code_of hl hr ha hw (by omega)
    rw [natI_len] at h ⊢
    exact codeOps_go cs a c x w hC (by omega) hx.1 hx.2 hT
end Go.Proofs.YtbicfaiabpcgfaaGreatDoor
