/- Texts of this claim, merged; no condition. -/
import Derived.Test.YtijkdabmegbcjaaGreatDoorT14
import Derived.Test.YtijkdabmegbcjaaGreatDoorT11
import Derived.Test.YtijkdabmegbcjaaGreatDoorTS
import Derived.Test.YtijkdabmegbcjaaGreatDoorTA
set_option linter.all false
namespace Go.Proofs.YtijkdabmegbcjaaGreatDoor
section
open Go.RowKit Go.Shelf
theorem own_same {w w' : World} {base : Nat} {e : TypeId} {size : Nat} {v : Value} {n : Nat} {xs : List Value} (h : w.ownsRow base e size v n xs) (hk : ∀ g, v.ownBlock = some g → g < w.heap.size → w'.heap[g]? = w.heap[g]?) : w'.ownsRow base e size v n xs := by
  refine ⟨h.1, ?_⟩
  rcases h.2 with hn | ⟨g, cap, cur, rfl, hb, hg, r⟩
  · exact .inl hn
  · exact .inr ⟨g, cap, cur, rfl, hb, (hk g rfl (Array.getElem?_eq_some_iff.1 hg).1).trans hg, r⟩
theorem own_lt {w : World} {base : Nat} {e : TypeId} {size : Nat} {v : Value} {n : Nat} {xs : List Value} (h : w.ownsRow base e size v n xs) {g : Nat} (hv : v.ownBlock = some g) : base ≤ g ∧ g < w.heap.size := by
  rcases h.2 with ⟨rfl, -⟩ | ⟨g', cap, cur, rfl, hb, hg, r⟩
  · cases hv
  · obtain rfl : g' = g := Option.some.inj hv
    exact ⟨hb, (Array.getElem?_eq_some_iff.1 hg).1⟩
theorem own_ne {w : World} {base bx : Nat} {v u : Value} {e T : TypeId} {size n : Nat} {xs : List Value} (h : w.ownsRow base e size v n xs) (hb : Box w bx u T) (hT : e ≠ T) : v.ownBlock ≠ some bx := by
  rcases h.2 with ⟨rfl, -⟩ | ⟨g, cap, cur, rfl, _, hg, _⟩
  · intro e; cases e
  · intro e2
    have : g = bx := Option.some.inj e2
    subst this
    unfold Box at hb
    rw [hg] at hb
    injection hb with hb
    injection hb with h1 h2
    exact hT h2
theorem only_grown {w w' : World} {row : Option Nat} (h : w.grownBy w' row) : Only (fun k => row = some k) w w' :=
  ⟨h.os, h.tape, h.output, h.size, fun k hk hn => h.block k hk fun e => hn e.symm⟩
def BoxR (B : Nat) (ET : TypeId) (sz : Nat) (ST : TypeId) (r n : Nat) (xs : List Value) (S : Nat → Prop) (W : World) : Prop :=
  ∃ v, Box W r v ST ∧ W.ownsRow B ET sz v n xs ∧ S r ∧ (∀ g, v.ownBlock = some g → S g) ∧ ∀ j, S j → j < W.heap.size
section
variable {B : Nat} {ET : TypeId} {sz : Nat} {ST : TypeId} {r n : Nat} {xs : List Value} {S : Nat → Prop} {W W' : World}
theorem boxR_fac : Fac S (BoxR B ET sz ST r n xs S) :=
  ⟨fun W W' ⟨v, h1, h2, h3, h4, h5⟩ hz hs => ⟨v, (hs r h3 h1.lt).trans h1, own_same h2 fun g hg hl => hs g (h4 g hg) hl, h3, h4, fun j hj => Nat.lt_of_lt_of_le (h5 j hj) hz⟩, fun W ⟨_, _, _, _, _, h⟩ k hk => h k hk⟩
theorem boxR_new (w : World) (T : TypeId) (hB : B ≤ w.heap.size) : BoxR B ET sz T w.heap.size 0 [] (· = w.heap.size) (w.alloc (.cells #[.slice none 0 0] T)) :=
  ⟨_, Box.new _ _ _, ⟨by simp, .inl ⟨rfl, rfl⟩⟩, rfl, (by rintro g h; cases h), fun j hj => by rw [World.size_alloc]; omega⟩
theorem boxR_next {v V5 : Value} {W2 W3 W5 : World} {m : Nat} {ys : List Value} (hT : ET ≠ ST) (h1 : Box W2 r v ST) (h2 : W2.ownsRow B ET sz v n xs) (h3 : S r) (h4 : ∀ g, v.ownBlock = some g → S g) (hb : Below W2.heap.size W2 W3) (hg5 : W3.grownBy W5 v.ownBlock)
    (o5 : W5.ownsRow B ET sz V5 m ys) (hvb : V5.ownBlock = v.ownBlock ∨ ∀ k, V5.ownBlock = some k → W3.heap.size ≤ k) :
    Only S W2 (W5.setCell ⟨r, 0, none⟩ V5) ∧ ∃ S', (∀ j, S' j → S j ∨ W2.heap.size ≤ j) ∧ BoxR B ET sz ST r m ys S' (W5.setCell ⟨r, 0, none⟩ V5) := by
  have hon : Only (· = r) W5 (W5.setCell ⟨r, 0, none⟩ V5) := (Only.refl _ _).setCell _ _ rfl
  have ho : Only S W2 (W5.setCell ⟨r, 0, none⟩ V5) :=
    ((Below.only hb : Only S W2 W3).trans ((only_grown hg5).mono fun k _ h => h4 k h)).trans (hon.mono fun k _ h => by rw [h]; exact h3)
  have hne : v.ownBlock ≠ some r := own_ne h2 h1 hT
  have c5 : Box W5 r v ST := (h1.below hb).only (only_grown hg5) hne
  have hne5 := own_ne o5 c5 hT
  refine ⟨ho, fun j => j = r ∨ V5.ownBlock = some j, fun j hj => ?_, V5, c5.set V5, own_same o5 fun g hg hl => hon.same g hl fun e => hne5 (by rw [hg, e]), .inl rfl, fun g hg => .inr hg, fun j hj => ?_⟩
  · rcases hj with rfl | hj
    · exact .inl h3
    · rcases hvb with e | e
      · exact .inl (h4 j (by rw [← e]; exact hj))
      · exact .inr (Nat.le_trans hb.size (e j hj))
  · rcases hj with rfl | hj
    · exact Nat.lt_of_lt_of_le c5.lt hon.size
    · exact Nat.lt_of_lt_of_le (own_lt o5 hj).2 hon.size
end
theorem results_slice {P : Program} {fn : Func} {p : Tmp} {T e : TypeId} (h : fn.results = #[.cell p T]) (hu : P.underlying T = some (.slice e)) (tmps : Array Value) (w : World) (g : Nat) (v : Value) (T' : TypeId) (hp : tmps.getD p undef = .pointer (some ⟨g, 0, none⟩)) (hc : Box w g v T') :
    (results fn tmps).run P w = .ok v w := by
  have hp' : tmps[p]?.getD undef = .pointer (some ⟨g, 0, none⟩) := by simpa using hp
  have hu' := run_underlying hu w
  have hc' := hc.cell
  simp [results, h, hp', asAddr]
  unfold loadVar isAgg
  simp [Sem.run_bind, hu', hc', Result.andThen_ok, Sem.run]
end
section
open Go.RowKit Go.Shelf
attribute [local go_sem] Oper.semAt_some
def mkTo (cs : List Nat) (k : Nat) : List Nat := ((opsL cs).take k).filter fun i => byN cs i == 91
def MkS (w : World) (cs : List Nat) (k : Nat) (S : Nat → Prop) (W : World) : Prop :=
  BoxR w.heap.size 3 1 42 w.heap.size (mkTo cs k).length ((natI (mkTo cs k)).map (Value.int .i64)) S W
theorem mkTo_len (cs : List Nat) (k : Nat) : (mkTo cs k).length ≤ cs.length := by
  have h1 := List.length_filter_le (fun i => byN cs i == 91) ((opsL cs).take k)
  have h2 := opsL_len cs
  unfold mkTo
  rw [List.length_take] at h1
  omega
theorem codeRd_old {w w' : World} {bx : Nat} {a : Option Addr} {c : Nat} {cs : List Nat} (h : CodeAt w a c cs) {k : Nat} (hk : ∃ y, a = some y ∧ y.block = k) (h0 : cs ≠ []) : k < w.heap.size := by
  obtain ⟨y, e, rfl⟩ := hk
  obtain ⟨b, o, e2, hc⟩ := h.row 0 (by rw [natI_len]; exact List.length_pos_iff.2 h0)
  rw [e2] at e; cases e
  exact cell_lt hc
set_option maxRecDepth 100000 in
set_option maxHeartbeats 2000000 in
theorem marks_any (cs : List Nat) (a : Option Addr) (c : Nat) (w : World) (h : CodeAt w a c cs) :
    Calls Tryz.prog 109 #[.slice a cs.length c] w fun e w' => (∃ v, e = .returned v ∧ OwnI w w' v (marksL cs)) ∧ Below w.heap.size w w' := by
  obtain ⟨i0, hi0, hz0, hz1, hz2⟩ := info_parts info_int
  have hlen := h.len
  have hol := opsL_len cs
  have hall : Hid (mkTo cs (opsL cs).length = marksL cs) := qh (by unfold mkTo marksL; rw [List.take_length])
  have hstep := qh fun k (hk : k < (opsL cs).length) => marks_step (cs := cs) hk
  have hlt := qh fun x (hx : x ∈ opsL cs) => opsL_lt hx
  have hml := qh (mkTo_len cs)
  have hB0 := boxR_new (B := w.heap.size) (ET := 3) (sz := 1) w 42 (Nat.le_refl _)
  have hops := qh fun W => ops_any a cs.length c W
  refine (callsIn_wide (n := 0)).1 ?_
  refine callsIn_of_wp_marks Tryz.func109 rfl trivial ?_ rfl
  simp only [Tryz.ntmps109, List.size_toArray, List.length_cons, List.length_nil, Nat.reduceAdd, Nat.reduceSub, Array.replicate_succ, Array.replicate_zero, List.push_toArray, List.append_toArray, List.nil_append, List.cons_append]
  refine wpIn_wide.2 ?_
  go_wp2_with (go_at_call 106; refine (hops.out _).mono ?_; rintro e w' ⟨rfl, rfl⟩)
  refine (wpIn_wide (n := 0)).1 ?_
  have hx1 : Box ((w.alloc (Obj.cells #[.slice none 0 0] 42)).alloc (Obj.cells #[.slice a cs.length c] 22)) (w.heap.size + 1) (.slice a cs.length c) 22 := by
    have := Box.new (w.alloc (Obj.cells #[.slice none 0 0] 42)) (.slice a cs.length c) 22
    rwa [World.size_alloc] at this
  have hb1 : Below w.heap.size w ((w.alloc (Obj.cells #[.slice none 0 0] 42)).alloc (Obj.cells #[.slice a cs.length c] 22)) := xalloc (xalloc (xrefl w) _) _
  have hS1 : MkS w cs 0 (· = w.heap.size) ((w.alloc (Obj.cells #[.slice none 0 0] 42)).alloc (Obj.cells #[.slice a cs.length c] 22)) := boxR_fac.below hB0 (xalloc (xrefl _) _)
  have hs1 : ((w.alloc (Obj.cells #[.slice none 0 0] 42)).alloc (Obj.cells #[.slice a cs.length c] 22)).heap.size = w.heap.size + 2 := by simp
  generalize (w.alloc (Obj.cells #[.slice none 0 0] 42)).alloc (Obj.cells #[.slice a cs.length c] 22) = w1 at *
  have hold := fun k (h0 : cs ≠ [] ∧ ∃ y, a = some y ∧ y.block = k) => codeRd_old (w' := w) (bx := 0) h h0.2 h0.1
  refine wp_rangeL (w0 := w) (gf := 130) (lb := #[.pointer (some ⟨w.heap.size + 1, 0, none⟩)]) rfl (enters_of Tryz.func130 (by kernel_rfl) rfl) (encs := encOp cs) (Rd := codeRd (w.heap.size + 1) a cs) (opsL cs)
    (fun k hk => by
      rcases hk with rfl | hk
      · omega
      · have := hold k hk; omega) hb1 (fun W hW => ops_seq cs _ a c W (hx1.below hW) ((h.below hb1).below hW)) (fun x => rfl) (MkS w cs) (fun _ _ _ _ => False) (fun k S => boxR_fac) (fun _ _ _ => ⟨fun _ _ h _ _ => h, fun _ h => h.elim⟩) (· = w.heap.size)
    (fun j hj => ⟨by omega, fun hr => by
      rcases hr with rfl | hr
      · omega
      · have := hold j hr; omega⟩) hS1 ?round ?done ?stop
  case round =>
    intro l0 k hk W
    unfold encOp
    dsimp only
    have hst := hstep.out k hk
    have hkl := hlt.out _ (List.getElem_mem hk)
    have hm1 := hml.out k
    generalize (opsL cs)[k] = x at *
    gi_wp2
    refine ⟨trivial, fun S W2 hb2 hzz _ hSo hS => ?_⟩
    have hsz2 := hb2.size
    unfold MkS at hS
    obtain ⟨v, h1, h2, h3, h4, h5⟩ := hS
    by_cases hm : byN cs x = 91
    · rw [hm]
      rw [if_pos hm] at hst
      replace hst := qh hst
      replace hm := qh hm
      have hcb := h1.cell
      have hfb := h1.free
      have hb3 : Below W2.heap.size W2 (W2.alloc (.cells #[.int .i64 x] 3)) := xalloc (xrefl _) _
      have hmid := qh fun V5 W5 (hg5 : (W2.alloc (.cells #[.int .i64 x] 3)).grownBy W5 v.ownBlock) (o5 : W5.ownsRow w.heap.size 3 1 V5 ((mkTo cs k).length + 1) ((natI (mkTo cs k)).map (Value.int .i64) ++ [.int .i64 x])) hvb => boxR_next (S := S) (by decide) h1 h2 h3 h4 hb3 hg5 o5 hvb
      have h2a := qh (h2.alloc (.cells #[.int .i64 x] 3))
      have hne := qh (own_ne h2 h1 (by decide))
      have h1a := qh (h1.below hb3)
      replace h5 := qh h5
      replace hSo := qh hSo
      have hq1 := qh (Box.new W2 (.int .i64 x) 3).cell
      clear h1 h2 h3 h4 hb3 hb2
      obtain ⟨a4, c4, rfl⟩ := own_slice h2a.out
      gi_wp2_with (gi_at_builtin; refine wpListIn_append_blkV (W2.alloc (.cells #[.int .i64 x] 3)) rfl _ _ 42 rfl w.heap.size 3 i0 (.int .i64 0) 1 8 Tryz.underlying42 hi0 hz0 hz1 hz2 rfl (by decide) (.slice a4 (mkTo cs k).length c4) (mkTo cs k).length _ rfl h2a.out ⟨W2.heap.size, 0, none⟩ 1 1 [.int .i64 x] rfl rfl (by intro j u hj; match j, hj with | 0, hj => (injection hj with hj; subst hj; exact hq1.out)) (by simp [Value.oneCell']) (by unfold maxLen; omega) (by omega) (by rw [World.size_alloc]; omega) ?_; intro V5 W5 o5 hg5 hvb; have hfin := qh (hmid.out V5 W5 hg5 o5 hvb); have c5 := (h1a.out.only (only_grown hg5) hne.out); have cc5 := c5.cell; have cf5 := c5.free; obtain ⟨a5, e5, rfl⟩ := own_slice o5; clear hg5 o5 hvb c5 hmid)
      obtain ⟨ho, S', hS', hB⟩ := hfin.out
      refine ⟨ho, S', hS', ?_⟩
      show BoxR _ _ _ _ _ _ _ _ _
      unfold mkTo at hB ⊢
      rw [hst.out, List.length_append, natI_app, List.map_append]
      exact hB
    · rw [if_neg hm, List.append_nil] at hst
      have hm1 : ((byN cs x : Int) == 91) = false := by simp; omega
      have hm2 : ¬ (byN cs x : Int) = 91 := by omega
      replace hst := qh hst
      generalize (byN cs x : Int) = y at *
      clear hm
      have hfin : Hid (∃ S', (∀ j, S' j → S j ∨ W2.heap.size ≤ j) ∧ MkS w cs (k + 1) S' W2) := qh ⟨S, fun j hj => .inl hj, by
        show BoxR _ _ _ _ _ _ _ _ _
        unfold mkTo at h2 ⊢
        rw [hst.out]
        exact ⟨v, h1, h2, h3, h4, h5⟩⟩
      clear h1 h2 h3 h4 h5 hSo hb2
      gi_wp2
      exact ⟨Only.refl _ _, hfin.out⟩
  case done =>
    intro D S W hD hSD hb _ _ hS hK
    unfold MkS at hS
    rw [hall.out] at hS
    obtain ⟨v, h1, h2, h3, h4, h5⟩ := hS
    have hcb := h1.cell
    have hfb := h1.free
    have hne := qh (own_ne h2 h1 (by decide))
    replace h1 := qh h1
    replace h2 := qh h2
    obtain ⟨a4, c4, rfl⟩ := own_slice h2.out
    go_wp2
    have hset := (Only.refl (· = w.heap.size) W).setCell ⟨w.heap.size, 0, none⟩ (.slice a4 (marksL cs).length c4) rfl
    have hbx := (h1.out.set (.slice a4 (marksL cs).length c4))
    have h2' : (W.setCell ⟨w.heap.size, 0, none⟩ (.slice a4 (marksL cs).length c4)).ownsRow w.heap.size 3 1 (.slice a4 (marksL cs).length c4) (marksL cs).length ((natI (marksL cs)).map (Value.int .i64)) := own_same h2.out fun g hg hl => hset.same g hl fun e => hne.out (by rw [hg, e])
    have hb' := hset.below hb hb.size (by rintro i rfl; exact Nat.le_refl _)
    have hK' := (hset.same D (Array.getElem?_eq_some_iff.1 hK).1 (by omega)).trans hK
    generalize W.setCell ⟨w.heap.size, 0, none⟩ (.slice a4 (marksL cs).length c4) = W7 at *
    have hput := (Only.refl (· = D) W7).putObj D (.deferred none) rfl
    refine ⟨by simp [Act.put], .inl ⟨_, _, rfl, run_takeDeferred hK', ?_⟩⟩
    have hDg : ∀ g, (Value.slice a4 (marksL cs).length c4).ownBlock = some g → g ≠ D := fun g hg e => by
      have h9 := h4 g hg
      exact hSD (by rw [← e]; exact h9)
    exact ⟨_, results_slice rfl Tryz.underlying42 _ _ w.heap.size _ 42 rfl (hbx.only hput (by omega)), ⟨_, rfl, own_same h2' fun g hg hl => hput.same g hl (hDg g hg)⟩, hput.below hb' hb'.size (by rintro i rfl; omega)⟩
  case stop => 
    intro D k c S W _ _ _ _ _ _ h
    exact h.elim
end
section
open Go.RowKit Go.Shelf
theorem small_limbs {N : Nat} (h : N < 2 ^ 256) : (N < 18446744073709551616 → limb N 0 = N ∧ limb N 1 = 0 ∧ limb N 2 = 0 ∧ limb N 3 = 0) ∧ (limb N 1 = 0 → limb N 2 = 0 → limb N 3 = 0 → N < 18446744073709551616) := by
  have hv := val_limbs N h
  have l0 := limb_lt N 0
  constructor
  · intro h1
    have a1 : limb N 1 = 0 := by
      rcases Nat.eq_zero_or_pos (limb N 1) with h | h
      · exact h
      · have : 2 ^ 64 ≤ limb N 1 * 2 ^ 64 := Nat.le_mul_of_pos_left _ h
        omega
    have a2 : limb N 2 = 0 := by
      rcases Nat.eq_zero_or_pos (limb N 2) with h | h
      · exact h
      · have : 2 ^ 128 ≤ limb N 2 * 2 ^ 128 := Nat.le_mul_of_pos_left _ h
        omega
    have a3 : limb N 3 = 0 := by
      rcases Nat.eq_zero_or_pos (limb N 3) with h | h
      · exact h
      · have : 2 ^ 192 ≤ limb N 3 * 2 ^ 192 := Nat.le_mul_of_pos_left _ h
        omega
    rw [a1, a2, a3] at hv
    exact ⟨by omega, a1, a2, a3⟩
  · intro a1 a2 a3
    rw [a1, a2, a3] at hv
    omega
set_option maxRecDepth 100000 in
set_option maxHeartbeats 2000000 in
theorem small_any (N : Nat) (w : World) (h : N < 2 ^ 256) : Calls Tryz.prog 110 #[wordV N] w fun e w' => e = .returned (.tuple #[.int .u64 (smallN N).1, .bool (smallN N).2]) ∧ Below w.heap.size w w' := by
  obtain ⟨h1, h2⟩ := small_limbs h
  have hd : Hid (([(limb N 0 : Int), limb N 1, limb N 2, limb N 3] = [(limb N 0 : Int), 0, 0, 0]) ↔ N < 18446744073709551616) := qh (by
    constructor
    · intro e
      injection e with _ e
      injection e with e1 e
      injection e with e2 e
      injection e with e3 _
      exact h2 (by omega) (by omega) (by omega)
    · intro hN
      obtain ⟨_, a1, a2, a3⟩ := h1 hN
      rw [a1, a2, a3]; rfl)
  have hl0 := limb_lt N 0
  unfold wordV smallN
  have hm : Tryz.prog.eqGuardType Tryz.prog.depth 32 = false := by kernel_rfl
  have hi : (Tryz.prog.info? 30).isSome = true := by kernel_rfl
  have hc : Tryz.prog.cellsOf 30 = 1 := by kernel_rfl
  replace hm := qh hm
  replace hi := qh hi
  replace hc := qh hc
  by_cases hN : N < 18446744073709551616
  · obtain ⟨a0, a1, a2, a3⟩ := h1 hN
    rw [if_pos hN]
    have hdd : Hid (decide ([(limb N 0 : Int), limb N 1, limb N 2, limb N 3] = [(limb N 0 : Int), 0, 0, 0]) = true) := qh (decide_eq_true (hd.out.2 hN))
    clear hd h1 h2 h a1 a2 a3 hN
    replace a0 := qh a0
    go_enter Tryz.func110, Tryz.ntmps110
    go_wp2_with (refine wpList_exec rfl (.bool false) (by rw [run_neq_at 32 _ _ _ rfl 30 4 .u64 .u64 [(limb N 0 : Int), limb N 1, limb N 2, limb N 3] [(limb N 0 : Int), 0, 0, 0] rfl rfl Tryz.underlying32 Tryz.underlying30 hi.out hc.out hm.out rfl rfl, hdd.out]; rfl) ?_)
    go_ret2
    exact ⟨by show Ending.returned (.tuple #[.int .u64 (limb N 0 : Nat), .bool true]) = _; rw [a0.out], xalloc (xrefl _) _⟩
  · rw [if_neg hN]
    have hdd : Hid (decide ([(limb N 0 : Int), limb N 1, limb N 2, limb N 3] = [(limb N 0 : Int), 0, 0, 0]) = false) := qh (decide_eq_false fun e => hN (hd.out.1 e))
    clear hd h1 h2 h hN
    go_enter Tryz.func110, Tryz.ntmps110
    go_wp2_with (refine wpList_exec rfl (.bool true) (by rw [run_neq_at 32 _ _ _ rfl 30 4 .u64 .u64 [(limb N 0 : Int), limb N 1, limb N 2, limb N 3] [(limb N 0 : Int), 0, 0, 0] rfl rfl Tryz.underlying32 Tryz.underlying30 hi.out hc.out hm.out rfl rfl, hdd.out]; rfl) ?_)
    go_ret2
    exact ⟨rfl, xalloc (xrefl _) _⟩
end
section
open Go.RowKit Go.Shelf
theorem contains_any (l : List Nat) (x : Int) (a : Option Addr) (c : Nat) (w : World) (h : IntsAt w a c l) (hl : l.length ≤ 9223372036854775807) :
    Calls Tryz.prog 135 #[.slice a l.length c, .int .i64 x] w fun e w' => e = .returned (.bool (inN l x)) ∧ w = w' := by
  by_cases h0 : l = []
  · subst h0
    exact (Tryz.slices_Contains_int_empty a c x w).mono fun e w' ⟨h1, h2⟩ => ⟨h1, h2.symm⟩
  · obtain ⟨b, o, rfl, -⟩ := h.get (List.length_pos_iff.2 h0)
    refine (Tryz.slices_Contains_int b o l.length c (natI l) x w (by rw [natI_len]; exact Nat.le_refl _) hl (fun j hj => ?_)).mono fun e w' ⟨h1, h2⟩ => ⟨?_, h2.symm⟩
    · rw [natI_len] at hj
      obtain ⟨b', o', e, hc⟩ := h.get hj
      cases e
      rw [hc]
      simp [natI, hj]
    · rw [h1]
      congr 2
      rw [← natI_len l, List.take_length]
      unfold inN natI
      rw [List.contains_eq_any_beq, List.any_map]
      congr 1
      funext y
      simp only [Function.comp]
      rw [Bool.eq_iff_iff, beq_iff_eq, beq_iff_eq]
      exact ⟨fun h => h.symm, fun h => h.symm⟩
set_option maxRecDepth 100000 in
set_option maxHeartbeats 4000000 in
theorem mark_any (cs : List Nat) (N : Nat) (a : Option Addr) (c : Nat) (w : World) (h : CodeAt w a c cs) (hN : N < 2 ^ 256) :
    Calls Tryz.prog 111 #[.slice a cs.length c, wordV N] w fun e w' => e = .returned (.bool (markN cs N)) ∧ Below w.heap.size w w' := by
  have hcl := h.len
  have hB0 : Hid (BlkG (w.alloc (.cells ((wordL N).map (Value.int .u64)).toArray 32)) w.heap.size 32 ((wordL N).map (Value.int .u64))) := qh (BlkG.new w _ _)
  have hb0 : Hid (Below w.heap.size w (w.alloc (.cells ((wordL N).map (Value.int .u64)).toArray 32))) := qh (xalloc (xrefl _) _)
  have hsmall := qh fun W => small_any N W hN
  have hmarks := qh fun W (hW : Below w.heap.size w W) => marks_any cs a c W (h.below hW)
  have hml : (marksL cs).length ≤ 200 := by
    have h1 := List.length_filter_le (fun i => byN cs i == 91) (opsL cs)
    have h2 := opsL_len cs
    unfold marksL; omega
  have hin := qh fun a1 c1 W (hI : IntsAt W a1 c1 (marksL cs)) => contains_any (marksL cs) N a1 c1 W hI (by omega)
  rw [inN_nat] at hin
  have hu := Tryz.underlying32
  rw [wordV_L] at *
  by_cases h1 : N < 18446744073709551616
  · have e : smallN N = (N, true) := by unfold smallN; rw [if_pos h1]
    rw [e] at hsmall
    have hw1 : IntKind.u64.wrap (cs.length : Int) = cs.length := by simp [IntKind.wrap, IntKind.bits, IntKind.signed]; omega
    by_cases h2 : N < cs.length
    · have em : markN cs N = decide (N ∈ marksL cs) := by unfold markN; simp [h2]
      rw [em]
      have h3 : (N : Int) < cs.length := by omega
      have hw2 : wrap64 (N : Int) = N := by rw [wrap64_small' N (by omega)]
      obtain ⟨b, o, rfl, hc, h256⟩ := (h.below hb0.out).get h2
      have hno : byN cs N ≠ 91 → decide (N ∈ marksL cs) = false := fun hne => decide_eq_false fun hm => hne (marksL_lt hm).2
      generalize decide (N ∈ marksL cs) = r at *
      generalize hL : (wordL N).map (Value.int .u64) = L at *
      replace hL := qh hL
      clear e em h1 h2 h
      by_cases h91 : byN cs N = 91
      · rw [h91] at hc
        clear hno h91 h256
        go_enter Tryz.func111, Tryz.ntmps111
        go_wp2_with (first
          | (refine wpList_load_blkG rfl 32 _ rfl w.heap.size rfl 32 _ _ hB0.out hu rfl (by rw [← hL.out]; kernel_rfl) ?_)
          | (go_at_call 110; refine (hsmall.out _).mono ?_; rintro e w1 ⟨rfl, hb1⟩; have hc1 := cbel hb1 hc; replace hb1 := qh (xtrans hb0.out hb1))
          | (go_at_call 109; refine (hmarks.out _ hb1.out).mono ?_; rintro e w2 ⟨⟨v, rfl, hv⟩, hb2⟩; obtain ⟨a1, c1, rfl, hI1, -⟩ := hv.at; replace hI1 := qh hI1; replace hb2 := qh hb2; clear hv)
          | (go_at_call 135; refine (hin.out a1 c1 _ hI1.out).mono ?_; rintro e w3 ⟨rfl, rfl⟩))
        go_ret
        exact ⟨rfl, xtrans hb1.out hb2.out⟩
      · have hr := hno h91
        subst hr
        have hm1 : ((byN cs N : Int) == 91) = false := by simp; omega
        have hm2 : ¬ (byN cs N : Int) = 91 := by omega
        generalize (byN cs N : Int) = y at *
        clear hno h91 h256
        go_enter Tryz.func111, Tryz.ntmps111
        go_wp2_with (first
          | (refine wpList_load_blkG rfl 32 _ rfl w.heap.size rfl 32 _ _ hB0.out hu rfl (by rw [← hL.out]; kernel_rfl) ?_)
          | (go_at_call 110; refine (hsmall.out _).mono ?_; rintro e w1 ⟨rfl, hb1⟩; have hc1 := cbel hb1 hc; replace hb1 := qh (xtrans hb0.out hb1)))
        go_ret
        exact ⟨rfl, hb1.out⟩
    · have em : markN cs N = false := by unfold markN; simp [h2]
      rw [em]
      have h3 : ¬ (N : Int) < cs.length := by omega
      generalize hL : (wordL N).map (Value.int .u64) = L at *
      replace hL := qh hL
      clear e em h1 h2 hin hmarks
      go_enter Tryz.func111, Tryz.ntmps111
      go_wp2_with (first
        | (refine wpList_load_blkG rfl 32 _ rfl w.heap.size rfl 32 _ _ hB0.out hu rfl (by rw [← hL.out]; kernel_rfl) ?_)
        | (go_at_call 110; refine (hsmall.out _).mono ?_; rintro e w1 ⟨rfl, hb1⟩; replace hb1 := qh (xtrans hb0.out hb1)))
      go_ret
      exact ⟨rfl, hb1.out⟩
  · have e : smallN N = (0, false) := by unfold smallN; rw [if_neg h1]
    rw [e] at hsmall
    have em : markN cs N = false := by unfold markN; rw [decide_eq_false (by omega)]; rfl
    rw [em]
    generalize hL : (wordL N).map (Value.int .u64) = L at *
    replace hL := qh hL
    clear e em h1 hin hmarks
    go_enter Tryz.func111, Tryz.ntmps111
    go_wp2_with (first
      | (refine wpList_load_blkG rfl 32 _ rfl w.heap.size rfl 32 _ _ hB0.out hu rfl (by rw [← hL.out]; kernel_rfl) ?_)
      | (go_at_call 110; refine (hsmall.out _).mono ?_; rintro e w1 ⟨rfl, hb1⟩; replace hb1 := qh (xtrans hb0.out hb1)))
    go_ret
    exact ⟨rfl, hb1.out⟩
end
section
open Go.RowKit Go.Shelf
theorem or_top (x y s : Nat) (hx : x % 2 ^ (s + 8) = 0) (hy : y < 256) (hx6 : x < 18446744073709551616) (hy6 : y * 2 ^ s < 18446744073709551616) : bits .or .u64 (x : Int) (IntKind.u64.wrap ((y : Int) * 2 ^ s)) = ((x + y * 2 ^ s : Nat) : Int) := by
  have e : ((y : Int) * 2 ^ s) = ((y * 2 ^ s : Nat) : Int) := by simp
  have w64 : ∀ n : Nat, n < 18446744073709551616 → IntKind.u64.wrap (n : Int) = n := by
    intro n hn
    simp [IntKind.wrap, IntKind.bits, IntKind.signed]; omega
  have o : ∀ n : Nat, BitVec.ofInt 64 (n : Int) = BitVec.ofNat 64 n := fun n => BitVec.ofInt_natCast 64 n
  have hys : y * 2 ^ s < 2 ^ (s + 8) := by
    rw [Nat.pow_add, Nat.mul_comm (2 ^ s)]
    exact Nat.mul_lt_mul_of_pos_right hy (Nat.two_pow_pos s)
  have hs : (x ||| y * 2 ^ s) = x + y * 2 ^ s := by
    obtain ⟨q, hq⟩ := Nat.dvd_of_mod_eq_zero hx
    rw [hq, ← Nat.two_pow_add_eq_or_of_lt hys q]
  have hlt : (x ||| y * 2 ^ s) < 2 ^ 64 := Nat.or_lt_two_pow (by simpa using hx6) (by simpa using hy6)
  rw [e, w64 _ hy6]
  show IntKind.u64.wrap (((BitVec.ofInt 64 (x : Int)) ||| (BitVec.ofInt 64 ((y * 2 ^ s : Nat) : Int))).toNat : Int) = _
  rw [o, o, BitVec.toNat_or, BitVec.toNat_ofNat, BitVec.toNat_ofNat, Nat.mod_eq_of_lt (by simpa using hx6), Nat.mod_eq_of_lt (by simpa using hy6), w64 _ (by simpa using hlt), hs]
def topN (N k : Nat) : Nat := 256 ^ k * (N / 256 ^ k)
set_option maxHeartbeats 4000000 in
theorem top_set (q b k : Nat) (hb : b < 256) (h : k < 32) : (wordL (256 ^ (k + 1) * q)).set (k / 8) ((limb (256 ^ (k + 1) * q) (k / 8) + b * 2 ^ (8 * (k % 8)) : Nat) : Int) = wordL (256 ^ (k + 1) * q + b * 256 ^ k) := by
  rcases cases32 k h with rfl | rfl | rfl | rfl | rfl | rfl | rfl | rfl | rfl | rfl | rfl | rfl | rfl | rfl | rfl | rfl | rfl | rfl | rfl | rfl | rfl | rfl | rfl | rfl | rfl | rfl | rfl | rfl | rfl | rfl | rfl | rfl <;> simp [wordL, limb] <;> omega
theorem topN_step (N k : Nat) : topN N (k + 1) + byteAt N k * 256 ^ k = topN N k := by
  unfold topN byteAt
  have h1 := Nat.div_add_mod (N / 256 ^ k) 256
  rw [Nat.div_div_eq_div_mul, ← Nat.pow_succ] at h1
  have h2 : 256 ^ (k + 1) * (N / 256 ^ (k + 1)) = 256 ^ k * (256 * (N / 256 ^ (k + 1))) := by rw [Nat.pow_succ, Nat.mul_assoc]
  rw [h2, Nat.mul_comm (N / 256 ^ k % 256), ← Nat.mul_add, h1]
theorem topTo_succ (N k : Nat) (h : k < 32) : (wordL (topN N (k + 1))).set (k / 8) ((limb (topN N (k + 1)) (k / 8) + byteAt N k * 2 ^ (8 * (k % 8)) : Nat) : Int) = wordL (topN N k) := by
  rw [← topN_step N k]
  exact top_set _ _ k (byteAt_lt N k) h
set_option maxHeartbeats 4000000 in
theorem limb_q (q k : Nat) (h : k < 32) : limb (256 ^ (k + 1) * q) (k / 8) % 2 ^ (8 * (k % 8) + 8) = 0 := by
  rcases cases32 k h with rfl | rfl | rfl | rfl | rfl | rfl | rfl | rfl | rfl | rfl | rfl | rfl | rfl | rfl | rfl | rfl | rfl | rfl | rfl | rfl | rfl | rfl | rfl | rfl | rfl | rfl | rfl | rfl | rfl | rfl | rfl | rfl <;> simp [limb] <;> omega
theorem limb_top (N k : Nat) (h : k < 32) : limb (topN N (k + 1)) (k / 8) % 2 ^ (8 * (k % 8) + 8) = 0 := limb_q _ k h
theorem topN_zero (N : Nat) : topN N 0 = N := by unfold topN; simp
theorem topN_all {N k : Nat} (h : N < 256 ^ k) : topN N k = 0 := by unfold topN; rw [Nat.div_eq_of_lt h, Nat.mul_zero]
theorem numN_at (l : List Nat) (h256 : ∀ x ∈ l, x < 256) (i : Nat) (hi : i < l.length) : byteAt (numN l) (l.length - 1 - i) = l[i] := by
  have := numN_byte l.reverse (l.length - 1 - i) (fun x hx => h256 x (List.mem_reverse.1 hx))
  rw [List.reverse_reverse] at this
  rw [this, List.getD_eq_getElem?_getD, List.getElem?_eq_getElem (by rw [List.length_reverse]; omega), Option.getD_some, List.getElem_reverse]
  congr 1
  omega
set_option maxRecDepth 100000 in
set_option maxHeartbeats 4000000 in
theorem read_any (l : List Nat) (a : Option Addr) (c : Nat) (w : World) (h : RowAt .u8 w a (natI l)) (hl : l.length ≤ 32) (h256 : ∀ x ∈ l, x < 256) :
    Calls Tryz.prog 113 #[.slice a l.length c] w fun e w' => e = .returned (.tuple #[wordV (numN l), .int .i64 0]) ∧ Below w.heap.size w w' := by
  have hB0 : Hid (Blk .u64 (w.alloc (.cells #[.int .u64 0, .int .u64 0, .int .u64 0, .int .u64 0] 32)) w.heap.size 32 (wordL (topN (numN l) l.length))) := qh (by
    rw [topN_all (numN_lt l h256)]
    exact Blk.new w 32 [0, 0, 0, 0])
  have hb0 : Hid (Below w.heap.size w (w.alloc (.cells #[.int .u64 0, .int .u64 0, .int .u64 0, .int .u64 0] 32))) := qh (xalloc (xrefl _) _)
  have hat := qh fun i hi => numN_at l h256 i hi
  have hlI : (l.length : Int) ≤ 32 := by omega
  have h2 := qh h
  have hu := Tryz.underlying32
  generalize numN l = N at *
  clear h h256
  go_enter Tryz.func113, Tryz.ntmps113
  go_wp2
  go_loopw [13] (fun iv wr => ∃ i : Nat, i ≤ l.length ∧ iv = .int .i64 i ∧ Hid (Blk .u64 wr w.heap.size 32 (wordL (topN N (l.length - i)))) ∧ Hid (Below w.heap.size w wr)) (fun iv _ => l.length - (intOf iv).toNat)
  case atStart => exact ⟨0, by omega, rfl, hB0, hb0⟩
  case round =>
    clear hB0 hb0
    obtain ⟨i, hi, rfl, hB, hb⟩ := hrel
    by_cases hlt : i < l.length
    · have hltI : (i : Int) < l.length := by omega
      obtain ⟨b, o, rfl, hc⟩ := h2.out i (by rw [natI_len]; exact hlt)
      rw [natI_get] at hc
      have hb4 : b < w.heap.size := cell_lt hc
      have hcr : wr.cell? ⟨b, o + i, none⟩ = some (.int .u8 (l[i] : Int)) := (hb.out.cell (p := ⟨b, o + i, none⟩) hb4).trans hc
      obtain ⟨k, hk⟩ : ∃ k, k = l.length - 1 - i := ⟨_, rfl⟩
      have hk32 : k < 32 := by omega
      have hkk : (l.length : Int) - 1 - (i : Int) = (k : Int) := by omega
      have hby := hat.out i hlt
      rw [← hk] at hby
      have hB' := hB.out
      rw [show l.length - i = k + 1 by omega] at hB'
      have hc1 := hB'.cell (k / 8) (by show k / 8 < 4; omega)
      rw [wordL_get] at hc1
      have hf1 := hB'.frozen (k / 8)
      have hx := limb_lt (topN N (k + 1)) (k / 8)
      have hx2 := qh (limb_top N k hk32)
      have hy2 := qh (byte_small N k)
      have hy := byteAt_lt N k
      have hst := qh (topTo_succ N k hk32)
      rw [hby] at hy2 hst hy
      replace hB' := qh hB'
      replace hby := qh hby
      have hkn : Hid (l.length - (i + 1) = k) := qh (by omega)
      replace hk := qh hk
      generalize limb (topN N (k + 1)) (k / 8) = x at hc1 hx hx2 hst
      generalize l[i] = y at *
      clear hc hB
      go_wp2
      go_region
      rw [or_top x y _ hx2.out hy hx hy2.out]
      go_wp2
      refine ⟨⟨i + 1, by omega, by go_num, qh ?_, qh (xdrew (xsetb hb.out (Nat.le_refl _) _))⟩, by simp [intOf]; omega⟩
      have := hB'.out.set (k / 8) ((x + y * 2 ^ (8 * (k % 8)) : Nat) : Int)
      rw [hst.out] at this
      rw [hkn.out]
      exact this
    · obtain rfl : i = l.length := by omega
      rw [Nat.sub_self, topN_zero] at hB
      clear hlt
      have hG : Hid (BlkG wr w.heap.size 32 ((wordL N).map (Value.int .u64))) := qh hB.out
      go_wp2_with (first
        | (refine wpList_load_blkG rfl 32 _ rfl w.heap.size rfl 32 _ _ hG.out hu rfl (by kernel_rfl) ?_)
        | (refine wpList_store_blkG rfl 32 _ _ rfl w.heap.size rfl 32 _ ((wordL N).map (Value.int .u64)) hG.out rfl rfl (by kernel_rfl) rfl ?_; intro w2 hG2 ho2; replace hG2 := qh hG2; replace ho2 := qh ho2))
      refine bodyPost_ret (results_blkG2 (p := 2) rfl _ _ w.heap.size 32 _ _ rfl hG2.out hu rfl (by kernel_rfl)) rfl ⟨rfl, ?_⟩
      exact ho2.out.below hb.out hb.out.size (by rintro k rfl; exact Nat.le_refl _)
end
end Go.Proofs.YtijkdabmegbcjaaGreatDoor
