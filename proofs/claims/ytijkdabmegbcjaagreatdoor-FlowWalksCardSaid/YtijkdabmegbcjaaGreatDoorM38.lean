/- The walk of FlowWalks. -/
import Derived.Test.YtijkdabmegbcjaaGreatDoorM37
set_option linter.all false
namespace Go.Proofs.YtijkdabmegbcjaaGreatDoor
open Go.RowKit Go.Shelf
attribute [local go_sem] Oper.semAt_some
attribute [local go_sem 20000] run_max_big run_min_small

/-- The number of rounds, in a box. -/
def NbS (k9 : Nat) (Pk : Prop) (v : Int) (S : Nat → Prop) (W : World) : Prop := Pk ∧ (∀ j, S j → j < W.heap.size) ∧ S k9 ∧ Box W k9 (.int .i64 v) 3
theorem NbS.fac {k9 : Nat} {Pk : Prop} {v : Int} {S : Nat → Prop} : Fac S (NbS k9 Pk v S) :=
  ⟨fun W W' ⟨h0, h1, h2, h3⟩ hz hs => ⟨h0, fun j hj => Nat.lt_of_lt_of_le (h1 j hj) hz, h2, (hs _ h2 (h1 _ h2)).trans h3⟩, fun W h => h.2.1⟩
theorem NbS.fac' {k9 : Nat} {R Pk : Prop} {v : Int} {S : Nat → Prop} : Fac S (fun W => R ∧ NbS k9 Pk v S W) :=
  ⟨fun W W' h hz hs => ⟨h.1, NbS.fac.on W W' h.2 hz hs⟩, fun W h => h.2.2.1⟩
theorem wpListIn_exec_g {F : Fence} {N : Nat} {P : Program} {ops : Array Oper} {rest : List Oper} {o : Oper} {ac : Act} {w : World} {Q : Exit → Act → World → Prop} (hw : Region.wanted o (yielded ops ac.tmps) = true) (hnd : ∀ c, o.op ≠ .defer c) (hab : ∀ f, o.about P w ac.eval = some f → F.fn f) (v : Value)
    (hr : (execOp ac.eval o).run P w = .ok (.value v) w) (h : wpListIn F N P ops Q rest (ac.put o.dst v) w) : wpListIn F N P ops Q (o :: rest) ac w := by
  refine wpListIn_step fun K hK => ?_
  rw [if_pos hw]
  unfold Oper.wpIn
  refine ⟨hab, ?_⟩
  rw [Oper.semAt_plain F _ _ hnd, hr]
  exact hK _ _ h
theorem run_neq_step {o : Oper} {ac : Act} {w : World} (r : TypeId) (x y : Operand) (ho : o.op = .binOp .neq 45 x y r) (a b : Int) (hx : ac.eval x = .agg #[.int .i64 a, .int .i64 b]) (hy : ac.eval y = .agg #[.int .i64 a, .int .i64 b]) : (execOp ac.eval o).run Tryz.prog w = .ok (.value (.bool false)) w := by
  have hg : (eqGuard .neq 45 x y (.agg #[.int .i64 a, .int .i64 b]) (.agg #[.int .i64 a, .int .i64 b])).run Tryz.prog w = .ok () w := run_eqGuard_agg (hm := (by kernel_rfl : Tryz.prog.eqGuardType Tryz.prog.depth 45 = false)) ..
  have he : (Op.equalIn 10000 45 (.agg #[.int .i64 a, .int .i64 b]) (.agg #[.int .i64 a, .int .i64 b])).run Tryz.prog w = .ok true w := by
    have hu := Tryz.underlying3
    rw [run_equalIn_agg w 9999 45 _ _ (by kernel_rfl) (by kernel_rfl)]
    go_simp
  unfold execOp
  simp only [ho, hx, hy, Sem.run_bind, Sem.run_pure, Result.andThen_ok, hg, run_neq_struct, he]
  rfl
/-- What the law's turns find in memory. -/
structure FwS (w : World) (cs : List Nat) (n x : Int) (p5 : Nat) (p : Option Addr) (q : Nat) (w4 W : World) : Prop where
  bm : Box W w.heap.size (.int .i64 x) 3
  br : Box W (w.heap.size + 1) (.bool false) 4
  bp : Box W p5 (.slice p (walkZ cs n).length q) 36
  hp : StepsAt W p q (walkZ cs n)
  h4 : Below w4.heap.size w4 W
  hb : Below w.heap.size w W
theorem FwS.below {w : World} {cs : List Nat} {n x : Int} {p5 : Nat} {p : Option Addr} {q : Nat} {w4 W W' : World} (h : FwS w cs n x p5 p q w4 W) (hb : Below W.heap.size W W') : FwS w cs n x p5 p q w4 W' :=
  ⟨h.bm.below hb, h.br.below hb, h.bp.below hb, h.hp.below hb, xtrans h.h4 hb, xtrans h.hb hb⟩
set_option maxRecDepth 100000 in
set_option maxHeartbeats 8000000 in
theorem flowWalks_go (cs : List Nat) (a : Option Addr) (c : Nat) (n x : Int) (w : World) (hC : CodeAt w a c cs) (hl : cs.length ≤ 120) (hx1 : -9223372036854775808 ≤ x) (hx2 : x ≤ 9223372036854775807) :
    Calls Tryz.prog 5 #[.slice a cs.length c, .int .i64 n, .int .i64 x] w (Yes w) := by
  have hlb : ¬ ((cs.length : Int) > 120) := by omega
  have hwl := walkZ_len (cs := cs) (n := n) (by omega)
  have hrl : (reachZ cs n).length ≤ 1000 := by
    rw [reachZ_walk]
    have := sl_len (setL_sl ((walkZ cs n).map (·.1))) (n := cs.length) (fun y hy => by
      rw [mem_setL, List.mem_map] at hy
      obtain ⟨z, hz, rfl⟩ := hy
      exact walkZ_lt z hz)
    omega
  have hA : Below w.heap.size w ((w.alloc (.cells #[.int .i64 x] 3)).alloc (.cells #[.bool false] 4)) := xalloc (xalloc (xrefl w) _) _
  have bm1 : Hid (Box ((w.alloc (.cells #[.int .i64 x] 3)).alloc (.cells #[.bool false] 4)) w.heap.size (.int .i64 x) 3) := Lib.hid ((Box.new w _ _).below (xalloc (xrefl _) _))
  have br1 : Hid (Box ((w.alloc (.cells #[.int .i64 x] 3)).alloc (.cells #[.bool false] 4)) (w.heap.size + 1) (.bool false) 4) := Lib.hid (by have := Box.new (w.alloc (.cells #[.int .i64 x] 3)) (.bool false) 4; rwa [World.size_alloc] at this)
  have sA : ((w.alloc (.cells #[.int .i64 x] 3)).alloc (.cells #[.bool false] 4)).heap.size = w.heap.size + 2 := by simp
  have hrw := Lib.hid (refWalk_any cs n a c _ (hC.below hA))
  have hfw := Lib.hid (fun W (h : Below w.heap.size w W) => walk_any cs n a c W (hC.below h) (by omega))
  have hrc := Lib.hid (fun W (h : Below w.heap.size w W) => reach_any cs n a c W (hC.below h) (by omega))
  have hrr := Lib.hid (fun W (h : Below w.heap.size w W) => refReach_any cs n a c W (hC.below h))
  have hnil := fun m k W => run_eql_fn_nil (P := Tryz.prog) 39 (by kernel_rfl) (.func 54) #[] #[.pointer (some ⟨m, 0, none⟩), .pointer (some ⟨k, 0, none⟩)] W
  replace hA := Lib.hid hA
  replace sA := Lib.hid sA
  clear hC
  refine (callsIn_wide (n := 0)).1 ?_
  refine callsIn_of_wp_marks Tryz.func5 rfl trivial ?_ rfl
  simp only [Tryz.ntmps5, List.size_toArray, List.length_cons, List.length_nil, Nat.reduceAdd, Nat.reduceSub, Array.replicate_succ, Array.replicate_zero, List.push_toArray, List.append_toArray, List.nil_append, List.cons_append]
  refine wpIn_wide.2 ?_
  go_wp2_with (first
    | (go_at_call 20; refine hrw.out.mono ?_; rintro e w1 ⟨⟨p, q, rfl, hP, -⟩, hb1⟩; have hB1 := Lib.hid (xtrans hA.out hb1); have hB2 := Lib.hid (xalloc hB1.out (.cells #[.slice p (walkZ cs n).length q] 36)); replace hP := Lib.hid hP; replace hb1 := Lib.hid hb1)
    | (go_at_call 21; refine (hfw.out _ hB2.out).mono ?_; rintro e w4 ⟨⟨mbx, nbx, mb, rfl, hW⟩, hb4⟩; have hB4 := Lib.hid (xtrans hB2.out hb4); replace hW := Lib.hid hW; replace hb4 := Lib.hid hb4)
    | (go_at_call 23; refine (hrc.out _ hB4.out).mono ?_; rintro e w5 ⟨⟨v5, rfl, hv5⟩, hb5⟩; obtain ⟨a5, c5, rfl, hI5, -⟩ := hv5.at; replace hI5 := Lib.hid hI5; have hB5 := Lib.hid (xtrans hB4.out hb5); replace hb5 := Lib.hid hb5; clear hv5)
    | (go_at_call 24; refine (hrr.out _ hB5.out).mono ?_; rintro e w6 ⟨⟨v6, rfl, hv6⟩, hb6⟩; obtain ⟨a6, c6, rfl, hI6, -⟩ := hv6.at; replace hI6 := Lib.hid hI6; have hB6 := Lib.hid (xtrans hB5.out hb6); have hI56 := Lib.hid (hI5.out.below hb6); replace hb6 := Lib.hid hb6; clear hv6)
    | (go_at_call 22; refine (refInts_any _ _ _ _ _ _ w6 hI56.out hI6.out hrl hrl).mono ?_; rintro e w7 ⟨rfl, k7, hk7⟩; rw [decide_eq_true rfl]; have hb7 := Lib.hid (show Below w6.heap.size w6 w7 by rw [hk7]; exact xdrewN (xrefl w6) k7); clear hk7))
  have hW4 := hW.out
  have c4 : Below w4.heap.size w4 (w7.alloc (.cells #[.int .i64 0] 3)) := xtrans hb5.out (xtrans hb6.out (xtrans hb7.out (xalloc (xrefl w7) _)))
  have c1 : Below w1.heap.size w1 (w7.alloc (.cells #[.int .i64 0] 3)) := xtrans (xalloc (xrefl w1) (.cells #[.slice p (walkZ cs n).length q] 36)) (xtrans hb4.out c4)
  have bp1 : Box (w7.alloc (.cells #[.int .i64 0] 3)) w1.heap.size (.slice p (walkZ cs n).length q) 36 := (Box.new w1 _ _).below (xtrans hb4.out c4)
  have hS : FwS w cs n x w1.heap.size p q w4 (w7.alloc (.cells #[.int .i64 0] 3)) := ⟨(bm1.out.below hb1.out).below c1, (br1.out.below hb1.out).below c1, bp1, hP.out.below c1, c4, xtrans hB1.out c1⟩
  have bt : Box (w7.alloc (.cells #[.int .i64 0] 3)) w7.heap.size (.int .i64 ((0 : Nat) : Int)) 3 := Box.new w7 _ _
  have l1 : w.heap.size + 2 ≤ w1.heap.size := by rw [← sA.out]; exact hb1.out.size
  have l4 : w1.heap.size < w4.heap.size := by have := hb4.out.size; rw [World.size_alloc] at this; omega
  have l7 : w4.heap.size ≤ w7.heap.size := (xtrans hb5.out (xtrans hb6.out hb7.out)).size
  have l8 : w7.heap.size < (w7.alloc (.cells #[.int .i64 0] 3)).heap.size := by rw [World.size_alloc]; omega
  generalize (w1.alloc (.cells #[.slice p (walkZ cs n).length q] 36)).heap.size = lo at hW4
  generalize w1.heap.size = p5 at *
  generalize hk8 : w7.heap.size = k8 at *
  generalize w7.alloc (.cells #[.int .i64 0] 3) = w8 at *
  clear c4 c1 bp1 hP hW hb1 hb4 hb5 hb6 hb7 hI5 hI6 hI56 hB1 hB2 hB4 hB5 hB6 hA sA bm1 br1 hfw hrw hrc hrr hk8 hnil
  replace hW4 := Lib.hid hW4
  refine wp_loop_rounds 3 ?_
  rw [rounds_succ]
  have ct := bt.cell
  replace hS := Lib.hid hS
  replace bt := Lib.hid bt
  go_wp2
  have hB9 := xalloc (xrefl w8) (.cells #[.int .i64 0] 3)
  have hn9 : Box (w8.alloc (.cells #[.int .i64 0] 3)) w8.heap.size (.int .i64 ((0 : Nat) : Int)) 3 := Box.new w8 _ _
  have s9 : w8.heap.size < (w8.alloc (.cells #[.int .i64 0] 3)).heap.size := by rw [World.size_alloc]; omega
  obtain ⟨v, hv⟩ : ∃ v, w8.alloc (.cells #[.int .i64 0] 3) = v := ⟨_, rfl⟩
  rw [hv] at hB9 hn9 s9 ⊢
  have l9 := hS.out.h4.size
  have lk8 := bt.out.lt
  refine wp_mid 2 (fun a a' W' => ∃ D, a' = { a with defers := { target := .collected D, args := #[] } :: a.defers } ∧ ∃ m : Nat, (m : Int) = smallF ((walkZ cs n).length : Int) (bigF 1 x) ∧ Below w8.heap.size w8 W' ∧ Box W' w8.heap.size (.int .i64 (m : Int)) 3 ∧ W'.heap[D]? = some (.deferred (some [])) ∧ v.heap.size ≤ D) ?range ?rest (fun _ _ h => h)
  case range =>
    refine (wpIn_wide (n := 0)).1 ?_
    refine wp_rangeL (w0 := w8) (gf := 54) (lb := #[.pointer (some ⟨mbx, 0, none⟩), .pointer (some ⟨nbx, 0, none⟩)]) rfl (enters_of Tryz.func54 (by kernel_rfl) rfl) (encs := encS) (Rd := WkRd lo w4) (walkZ cs n)
      (fun k hk => by have := hk.2; omega) hB9 (fun W hW => walk_seq cs n mbx nbx mb lo w4 W hW4.out (xtrans (xtrans hS.out.h4 hB9) hW)) (fun x => rfl)
      (fun k S W => NbS w8.heap.size (k = 0 ∨ (k : Int) < x) (k : Int) S W) (fun k c S W => (c = .exit 2 ∧ x ≤ ((k + 1 : Nat) : Int)) ∧ NbS w8.heap.size (k = 0 ∨ (k : Int) < x) ((k + 1 : Nat) : Int) S W) (fun k S => NbS.fac) (fun k c S => NbS.fac') (fun j => j = w8.heap.size)
      (fun j hj => ⟨by omega, fun hr => by have := hr.2; omega⟩) ⟨.inl rfl, by rintro j rfl; omega, rfl, hn9⟩ ?round ?done ?stop
    case round =>
      intro l0 k hk W
      have hst := Lib.hid (fun (W : World) (h : StepsAt W p q (walkZ cs n)) => h.elt k hk)
      have hkI : (k : Int) < (walkZ cs n).length := by omega
      have hkN : ¬ (walkZ cs n).length ≤ k := by omega
      unfold encS
      dsimp only
      generalize (walkZ cs n)[k] = y at *
      obtain ⟨y, d⟩ := y
      simp only [List.zip_toArray, List.zip_cons_cons, List.zip_nil_right, List.size_toArray, List.foldl_toArray', List.foldl_cons, List.foldl_nil, List.setIfInBounds_toArray, List.set_cons_succ, List.set_cons_zero]
      gi_wp2
      refine ⟨trivial, fun S W2 hb2 hzz _ hSo hS2 => ?_⟩
      obtain ⟨hpk, h1, h2, hbn⟩ := hS2
      have hF2 := hS.out.below hb2
      have cn := hbn.cell
      have cf := hbn.free
      have cp := hF2.bp.cell
      have cm := hF2.bm.cell
      have ct2 := (bt.out.below hb2).cell
      have ln : (walkZ cs n).length ≤ 41000 := hwl
      obtain ⟨b, o, rfl, hr⟩ := hst.out W2 hF2.hp
      have c0 : W2.cell? ⟨b, o + k * 2, none⟩ = some (.int .i64 y) := by have := hr 0 _ rfl; rwa [Nat.add_zero] at this
      have c1 : W2.cell? ⟨b, o + k * 2 + 1, none⟩ = some (.int .i64 d) := hr 1 _ rfl
      clear hr
      replace hF2 := Lib.hid hF2
      replace hbn := Lib.hid hbn
      replace hSo := Lib.hid hSo
      replace h1 := Lib.hid h1
      clear hb2 ct hst
      generalize (walkZ cs n).length = L at *
      generalize w8.heap.size = k9 at *
      by_cases hxk : x ≤ (k : Int) + 1
      · gi_wp2
        exact ⟨(Only.refl S W2).setCell ⟨k9, 0, none⟩ _ h2, S, fun j hj => .inl hj, ⟨rfl, by omega⟩, hpk, (fun j hj => by have := h1.out j hj; simpa [World.setCell] using this), h2, hbn.out.set _⟩
      · gi_wp2
        exact ⟨(Only.refl S W2).setCell ⟨k9, 0, none⟩ _ h2, S, fun j hj => .inl hj, .inr (by omega), (fun j hj => by have := h1.out j hj; simpa [World.setCell] using this), h2, hbn.out.set _⟩
    case done =>
      intro D S W hD hSD hb _ hSw hS2 hK
      obtain ⟨hpk, h1, h2, hbn⟩ := hS2
      exact ⟨.inl rfl, D, rfl, (walkZ cs n).length, by unfold smallF bigF; rcases hpk with h | h <;> (repeat' split) <;> omega, hb, hbn, hK, hD⟩
    case stop =>
      intro D k c S W hkl hD hSD hb _ hSw hS2 hK
      obtain ⟨⟨rfl, hq⟩, hpk, h1, h2, hbn⟩ := hS2
      gi_wp2
      exact ⟨k + 1, by unfold smallF bigF; rcases hpk with h | h <;> (repeat' split) <;> omega, hbn⟩
  case rest =>
    rintro _ W6 ⟨D1, rfl, m, hm, hb6, hn6, hD6, hDl⟩
    have hF6 := hS.out.below hb6
    have ct6 := (bt.out.below hb6).cell
    have cn6 := hn6.cell
    have cp6 := hF6.bp.cell
    have cm6 := hF6.bm.cell
    replace hF6 := Lib.hid hF6
    replace hn6 := Lib.hid hn6
    replace hb6 := Lib.hid hb6
    replace hD6 := Lib.hid hD6
    dsimp only
    go_wp2
    have h67 : Below W6.heap.size W6 (W6.alloc (.cells #[.int .i64 1] 3)) := xalloc (xrefl W6) _
    have bt1 : Box (W6.alloc (.cells #[.int .i64 1] 3)) W6.heap.size (.int .i64 ((1 : Nat) : Int)) 3 := Box.new W6 _ _
    have hS1 := hF6.out.below h67
    have hD1 := (h67.block D1 (Array.getElem?_eq_some_iff.1 hD6.out).1).trans hD6.out
    have l8' : W6.heap.size < (W6.alloc (.cells #[.int .i64 1] 3)).heap.size := by rw [World.size_alloc]; omega
    have l7' : w4.heap.size ≤ W6.heap.size := hF6.out.h4.size
    have hd1w : w.heap.size ≤ D1 := by have := hS.out.hb.size; omega
    generalize hk8b : W6.heap.size = k8b at *
    generalize W6.alloc (.cells #[.int .i64 1] 3) = wB at *
    replace hD1 := Lib.hid hD1
    clear hS bt ct hB9 hn9 s9 hv l9 lk8 hb6 hn6 hD6 hF6 ct6 cn6 cp6 cm6 hm h67 hk8b
    rw [rounds_succ]
    have ct := bt1.cell
    replace hS1 := Lib.hid hS1
    replace bt1 := Lib.hid bt1
    go_wp2
    have hB9 := xalloc (xrefl wB) (.cells #[.int .i64 0] 3)
    have hn9 : Box (wB.alloc (.cells #[.int .i64 0] 3)) wB.heap.size (.int .i64 ((0 : Nat) : Int)) 3 := Box.new wB _ _
    have s9 : wB.heap.size < (wB.alloc (.cells #[.int .i64 0] 3)).heap.size := by rw [World.size_alloc]; omega
    obtain ⟨v, hv⟩ : ∃ v, wB.alloc (.cells #[.int .i64 0] 3) = v := ⟨_, rfl⟩
    rw [hv] at hB9 hn9 s9 ⊢
    have l9 := hS1.out.h4.size
    have lk8 := bt1.out.lt
    refine wp_mid 2 (fun a a' W' => ∃ D, a' = { a with defers := { target := .collected D, args := #[] } :: a.defers } ∧ ∃ m : Nat, m = (walkZ cs n).length ∧ Below wB.heap.size wB W' ∧ Box W' wB.heap.size (.int .i64 (m : Int)) 3 ∧ W'.heap[D]? = some (.deferred (some [])) ∧ v.heap.size ≤ D) ?range ?rest (fun _ _ h => h)
    case range =>
      refine (wpIn_wide (n := 0)).1 ?_
      refine wp_rangeL (w0 := wB) (gf := 54) (lb := #[.pointer (some ⟨mbx, 0, none⟩), .pointer (some ⟨nbx, 0, none⟩)]) rfl (enters_of Tryz.func54 (by kernel_rfl) rfl) (encs := encS) (Rd := WkRd lo w4) (walkZ cs n)
        (fun k hk => by have := hk.2; omega) hB9 (fun W hW => walk_seq cs n mbx nbx mb lo w4 W hW4.out (xtrans (xtrans hS1.out.h4 hB9) hW)) (fun x => rfl)
        (fun k S W => NbS wB.heap.size (True) (k : Int) S W) (fun k c S W => (c = .exit 2 ∧ False) ∧ NbS wB.heap.size (True) ((k + 1 : Nat) : Int) S W) (fun k S => NbS.fac) (fun k c S => NbS.fac') (fun j => j = wB.heap.size)
        (fun j hj => ⟨by omega, fun hr => by have := hr.2; omega⟩) ⟨trivial, by rintro j rfl; omega, rfl, hn9⟩ ?round ?done ?stop
      case round =>
        intro l0 k hk W
        have hst := Lib.hid (fun (W : World) (h : StepsAt W p q (walkZ cs n)) => h.elt k hk)
        have hkI : (k : Int) < (walkZ cs n).length := by omega
        have hkN : ¬ (walkZ cs n).length ≤ k := by omega
        unfold encS
        dsimp only
        generalize (walkZ cs n)[k] = y at *
        obtain ⟨y, d⟩ := y
        simp only [List.zip_toArray, List.zip_cons_cons, List.zip_nil_right, List.size_toArray, List.foldl_toArray', List.foldl_cons, List.foldl_nil, List.setIfInBounds_toArray, List.set_cons_succ, List.set_cons_zero]
        gi_wp2
        refine ⟨trivial, fun S W2 hb2 hzz _ hSo hS2 => ?_⟩
        obtain ⟨hpk, h1, h2, hbn⟩ := hS2
        have hF2 := hS1.out.below hb2
        have cn := hbn.cell
        have cf := hbn.free
        have cp := hF2.bp.cell
        have cm := hF2.bm.cell
        have ct2 := (bt1.out.below hb2).cell
        have ln : (walkZ cs n).length ≤ 41000 := hwl
        obtain ⟨b, o, rfl, hr⟩ := hst.out W2 hF2.hp
        have c0 : W2.cell? ⟨b, o + k * 2, none⟩ = some (.int .i64 y) := by have := hr 0 _ rfl; rwa [Nat.add_zero] at this
        have c1 : W2.cell? ⟨b, o + k * 2 + 1, none⟩ = some (.int .i64 d) := hr 1 _ rfl
        clear hr
        replace hF2 := Lib.hid hF2
        replace hbn := Lib.hid hbn
        replace hSo := Lib.hid hSo
        replace h1 := Lib.hid h1
        clear hb2 ct hst
        generalize (walkZ cs n).length = L at *
        generalize wB.heap.size = k9 at *
        gi_wp2
        exact ⟨(Only.refl S W2).setCell ⟨k9, 0, none⟩ _ h2, S, fun j hj => .inl hj, trivial, (fun j hj => by have := h1.out j hj; simpa [World.setCell] using this), h2, hbn.out.set _⟩
      case done =>
        intro D S W hD hSD hb _ hSw hS2 hK
        obtain ⟨hpk, h1, h2, hbn⟩ := hS2
        exact ⟨.inl rfl, D, rfl, (walkZ cs n).length, rfl, hb, hbn, hK, hD⟩
      case stop =>
        intro D k c S W hkl hD hSD hb _ hSw hS2 hK
        exact hS2.1.2.elim
    case rest =>
      rintro _ W6 ⟨D2, rfl, m, hm, hb6, hn6, hD6, hDl⟩
      subst hm
      have hF6 := hS1.out.below hb6
      have ct6 := (bt1.out.below hb6).cell
      have cn6 := hn6.cell
      have cp6 := hF6.bp.cell
      have cm6 := hF6.bm.cell
      replace hF6 := Lib.hid hF6
      replace hn6 := Lib.hid hn6
      replace hb6 := Lib.hid hb6
      replace hD6 := Lib.hid hD6
      dsimp only
      go_wp2
      rw [rounds_succ]
      have h67 : Below W6.heap.size W6 (W6.alloc (.cells #[.int .i64 2] 3)) := xalloc (xrefl W6) _
      have btC := (Box.new W6 (.int .i64 2) 3).cell
      have hSC := Lib.hid (hF6.out.below h67)
      have hD1b := Lib.hid ((h67.block D1 (Array.getElem?_eq_some_iff.1 ((hb6.out.block D1 (Array.getElem?_eq_some_iff.1 hD1.out).1).trans hD1.out)).1).trans ((hb6.out.block D1 (Array.getElem?_eq_some_iff.1 hD1.out).1).trans hD1.out))
      have hD2b := Lib.hid ((h67.block D2 (Array.getElem?_eq_some_iff.1 hD6.out).1).trans hD6.out)
      have hdl1 := (Array.getElem?_eq_some_iff.1 hD1.out).1
      generalize W6.alloc (.cells #[.int .i64 2] 3) = wC at *
      have hd2w : D1 < D2 := by omega
      clear hB9 hn9 s9 hv hb6 hn6 hD6 hF6 ct6 cn6 cp6 cm6 h67 hD1
      go_wp2_with (go_at_call 12; refine (works_any _).mono ?_; rintro e W8 ⟨rfl, hb8⟩; have hS8 := hSC.out.below hb8; have cr := hS8.br.cell; have fr := hS8.br.free; have hD1c := (hb8.block D1 (Array.getElem?_eq_some_iff.1 hD1b.out).1).trans hD1b.out; have hD2c := (hb8.block D2 (Array.getElem?_eq_some_iff.1 hD2b.out).1).trans hD2b.out; replace hS8 := Lib.hid hS8; replace hD1c := Lib.hid hD1c; replace hD2c := Lib.hid hD2c; replace hb8 := Lib.hid hb8)
      have hne : ∀ D, W8.heap[D]? = some (.deferred (some [])) → D ≠ w.heap.size + 1 := fun D h1 e => by
        have h2 := hS8.out.br
        unfold Box at h2
        rw [e, h2] at h1
        cases h1
      have hn1 := hne D1 hD1c.out
      have hn2 := hne D2 hD2c.out
      have hbE : Below w.heap.size w (W8.setCell ⟨w.heap.size + 1, 0, none⟩ (.bool true)) := hS8.out.hb.setCell (by simp only; omega) _
      have hE1 : (W8.setCell ⟨w.heap.size + 1, 0, none⟩ (.bool true)).heap[D1]? = some (.deferred (some [])) := (Below.heap_setCell _ ⟨w.heap.size + 1, 0, none⟩ _ D1 hn1).trans hD1c.out
      have hE2 : (W8.setCell ⟨w.heap.size + 1, 0, none⟩ (.bool true)).heap[D2]? = some (.deferred (some [])) := (Below.heap_setCell _ ⟨w.heap.size + 1, 0, none⟩ _ D2 hn2).trans hD2c.out
      have hE3 := hS8.out.br.set (.bool true)
      generalize W8.setCell ⟨w.heap.size + 1, 0, none⟩ (.bool true) = WE at hbE hE1 hE2 hE3 ⊢
      have hk1 : (WE.putObj D2 (.deferred none)).heap[D1]? = some (.deferred (some [])) := (World.putObj_heap_other (by omega)).trans hE1
      have ho := ((Only.refl (fun k => k = D2 ∨ k = D1) WE).putObj D2 (.deferred none) (.inl rfl)).putObj D1 (.deferred none) (.inr rfl)
      refine ⟨by simp, .inl ⟨_, _, rfl, run_takeDeferred hE2, by simp, .inl ⟨_, _, rfl, run_takeDeferred hk1, ?_⟩⟩⟩
      exact ⟨_, results_bool rfl _ _ (w.heap.size + 1) (.bool true) rfl (hE3.only ho (by omega)).cell, rfl, ho.below hbE hbE.size (by rintro i (rfl | rfl) <;> omega)⟩

set_option maxRecDepth 100000 in
set_option maxHeartbeats 2000000 in
theorem flowWalks_walk (a : Option Addr) (c : Nat) (zs : List Int) (n x : Int) (w : World) (hl : zs.length ≤ c ∧ c ≤ 9223372036854775807) (hr : RowAt .u8 w a zs) (ha : a = none → c = 0) (hw : ∀ z ∈ zs, (Lit.int .u8 z).wf = true) (hn : -9223372036854775808 ≤ n ∧ n ≤ 9223372036854775807) (hx : -9223372036854775808 ≤ x ∧ x ≤ 9223372036854775807) (_ : TabF w) :
    Calls Tryz.prog 5 #[.slice a zs.length c, .int .i64 n, .int .i64 x] w (Yes w) := by
  by_cases h : (zs.length : Int) > 120
  · clear hr ha hw hl hn hx
    refine (callsIn_wide (n := 0)).1 ?_
    refine callsIn_of_wp_marks Tryz.func5 rfl trivial ?_ rfl
    simp only [Tryz.ntmps5, List.size_toArray, List.length_cons, List.length_nil, Nat.reduceAdd, Nat.reduceSub, Array.replicate_succ, Array.replicate_zero, List.push_toArray, List.append_toArray, List.nil_append, List.cons_append]
    refine wpIn_wide.2 ?_
    have br1 : Hid (Box ((w.alloc (.cells #[.int .i64 x] 3)).alloc (.cells #[.bool false] 4)) (w.heap.size + 1) (.bool false) 4) := Lib.hid (by have := Box.new (w.alloc (.cells #[.int .i64 x] 3)) (.bool false) 4; rwa [World.size_alloc] at this)
    go_wp2_with (go_at_call 12; refine (works_any _).mono ?_; rintro e w3 ⟨rfl, b3⟩; have hB := br1.out.below b3; have cr := hB.cell; have fr := hB.free; replace hB := Lib.hid hB)
    have hbE : Below w.heap.size w (w3.setCell ⟨w.heap.size + 1, 0, none⟩ (.bool true)) := (xtrans (xalloc (xalloc (xrefl w) _) _) b3).setCell (by simp only; omega) _
    have hE3 := hB.out.set (.bool true)
    exact ⟨_, results_bool rfl _ _ (w.heap.size + 1) (.bool true) rfl hE3.cell, rfl, hbE⟩
  · obtain ⟨cs, rfl, hC⟩ := code_of hl hr ha hw (by omega)
    rw [natI_len] at h ⊢
    exact flowWalks_go cs a c n x w hC (by omega) hx.1 hx.2
end Go.Proofs.YtijkdabmegbcjaaGreatDoor
