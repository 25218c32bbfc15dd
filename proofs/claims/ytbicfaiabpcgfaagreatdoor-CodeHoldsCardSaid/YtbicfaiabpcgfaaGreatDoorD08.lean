/- Texts of this claim, merged; no condition. -/
import Derived.Test.YtbicfaiabpcgfaaGreatDoorD07
import Derived.Test.YtbicfaiabpcgfaaGreatDoorD06
import Derived.Test.YtbicfaiabpcgfaaGreatDoorShelf
import Derived.Laws.CopyOwn
set_option linter.all false
namespace Go.Proofs.YtbicfaiabpcgfaaGreatDoor
open Go.RowKit Go.Shelf

theorem own_same {w w' : World} {base : Nat} {e : TypeId} {size : Nat} {v : Value} {n : Nat} {xs : List Value} (h : w.ownsRow base e size v n xs) (hk : ∀ g, v.ownBlock = some g → g < w.heap.size → w'.heap[g]? = w.heap[g]?) : w'.ownsRow base e size v n xs := by
  refine ⟨h.1, ?_⟩
  rcases h.2 with hn | ⟨g, cap, cur, rfl, hb, hg, r⟩
  · exact .inl hn
  · exact .inr ⟨g, cap, cur, rfl, hb, (hk g rfl (Array.getElem?_eq_some_iff.1 hg).1).trans hg, r⟩
theorem own_lt {w : World} {base : Nat} {e : TypeId} {size : Nat} {v : Value} {n : Nat} {xs : List Value} (h : w.ownsRow base e size v n xs) {g : Nat} (hv : v.ownBlock = some g) : base ≤ g ∧ g < w.heap.size := by
  rcases h.2 with ⟨rfl, -⟩ | ⟨g', cap, cur, rfl, hb, hg, r⟩
  · cases hv
  · obtain rfl : g' = g := Option.some.inj hv
    exact ⟨hb, (Array.getElem?_eq_some_iff.1 hg).1⟩
theorem own_ne {w : World} {base bx : Nat} {v u : Value} {e T : TypeId} {size n : Nat} {xs : List Value} (h : w.ownsRow base e size v n xs) (hb : Box w bx u T) (hT : e ≠ T) : v.ownBlock ≠ some bx := by
  rcases h.2 with ⟨rfl, -⟩ | ⟨g, cap, cur, rfl, _, hg, _⟩
  · intro e; cases e
  · intro e2
    have : g = bx := Option.some.inj e2
    subst this
    unfold Box at hb
    rw [hg] at hb
    injection hb with hb
    injection hb with h1 h2
    exact hT h2
theorem only_grown {w w' : World} {row : Option Nat} (h : w.grownBy w' row) : Only (fun k => row = some k) w w' :=
  ⟨h.os, h.tape, h.output, h.size, fun k hk hn => h.block k hk fun e => hn e.symm⟩
/-- The box in block r holds a slice of the call's own: n elements, their cells xs. S: the box's block and the slice's. -/
def BoxR (B : Nat) (ET : TypeId) (sz : Nat) (ST : TypeId) (r n : Nat) (xs : List Value) (S : Nat → Prop) (W : World) : Prop :=
  ∃ v, Box W r v ST ∧ W.ownsRow B ET sz v n xs ∧ S r ∧ (∀ g, v.ownBlock = some g → S g) ∧ ∀ j, S j → j < W.heap.size
section
variable {B : Nat} {ET : TypeId} {sz : Nat} {ST : TypeId} {r n : Nat} {xs : List Value} {S : Nat → Prop} {W W' : World}
theorem boxR_fac : Fac S (BoxR B ET sz ST r n xs S) :=
  ⟨fun W W' ⟨v, h1, h2, h3, h4, h5⟩ hz hs => ⟨v, (hs r h3 h1.lt).trans h1, own_same h2 fun g hg hl => hs g (h4 g hg) hl, h3, h4, fun j hj => Nat.lt_of_lt_of_le (h5 j hj) hz⟩, fun W ⟨_, _, _, _, _, h⟩ k hk => h k hk⟩
theorem boxR_new (w : World) (T : TypeId) (hB : B ≤ w.heap.size) : BoxR B ET sz T w.heap.size 0 [] (· = w.heap.size) (w.alloc (.cells #[.slice none 0 0] T)) :=
  ⟨_, Box.new _ _ _, ⟨by simp, .inl ⟨rfl, rfl⟩⟩, rfl, (by rintro g h; cases h), fun j hj => by rw [World.size_alloc]; omega⟩
/-- One append, stored back. -/
theorem boxR_next {v V5 : Value} {W2 W3 W5 : World} {m : Nat} {ys : List Value} (hT : ET ≠ ST) (h1 : Box W2 r v ST) (h2 : W2.ownsRow B ET sz v n xs) (h3 : S r) (h4 : ∀ g, v.ownBlock = some g → S g) (hb : Below W2.heap.size W2 W3) (hg5 : W3.grownBy W5 v.ownBlock)
    (o5 : W5.ownsRow B ET sz V5 m ys) (hvb : V5.ownBlock = v.ownBlock ∨ ∀ k, V5.ownBlock = some k → W3.heap.size ≤ k) :
    Only S W2 (W5.setCell ⟨r, 0, none⟩ V5) ∧ ∃ S', (∀ j, S' j → S j ∨ W2.heap.size ≤ j) ∧ BoxR B ET sz ST r m ys S' (W5.setCell ⟨r, 0, none⟩ V5) := by
  have hon : Only (· = r) W5 (W5.setCell ⟨r, 0, none⟩ V5) := (Only.refl _ _).setCell _ _ rfl
  have ho : Only S W2 (W5.setCell ⟨r, 0, none⟩ V5) :=
    ((Below.only hb : Only S W2 W3).trans ((only_grown hg5).mono fun k _ h => h4 k h)).trans (hon.mono fun k _ h => by rw [h]; exact h3)
  have hne : v.ownBlock ≠ some r := own_ne h2 h1 hT
  have c5 : Box W5 r v ST := (h1.below hb).only (only_grown hg5) hne
  have hne5 := own_ne o5 c5 hT
  refine ⟨ho, fun j => j = r ∨ V5.ownBlock = some j, fun j hj => ?_, V5, c5.set V5, own_same o5 fun g hg hl => hon.same g hl fun e => hne5 (by rw [hg, e]), .inl rfl, fun g hg => .inr hg, fun j hj => ?_⟩
  · rcases hj with rfl | hj
    · exact .inl h3
    · rcases hvb with e | e
      · exact .inl (h4 j (by rw [← e]; exact hj))
      · exact .inr (Nat.le_trans hb.size (e j hj))
  · rcases hj with rfl | hj
    · exact Nat.lt_of_lt_of_le c5.lt hon.size
    · exact Nat.lt_of_lt_of_le (own_lt o5 hj).2 hon.size
end
/-- A named result that is one cell, read at the return. -/
theorem results_slice {P : Program} {fn : Func} {p : Tmp} {T e : TypeId} (h : fn.results = #[.cell p T]) (hu : P.underlying T = some (.slice e)) (tmps : Array Value) (w : World) (g : Nat) (v : Value) (T' : TypeId) (hp : tmps.getD p undef = .pointer (some ⟨g, 0, none⟩)) (hc : Box w g v T') :
    (results fn tmps).run P w = .ok v w := by
  have hp' : tmps[p]?.getD undef = .pointer (some ⟨g, 0, none⟩) := by simpa using hp
  have hu' := run_underlying hu w
  have hc' := hc.cell
  simp [results, h, hp', asAddr]
  unfold loadVar isAgg
  simp [Sem.run_bind, hu', hc', Result.andThen_ok, Sem.run]
end Go.Proofs.YtbicfaiabpcgfaaGreatDoor
namespace Go.Proofs.YtbicfaiabpcgfaaGreatDoor
open Go.RowKit Go.Shelf
attribute [local go_sem] Oper.semAt_some

def mkTo (cs : List Nat) (k : Nat) : List Nat := ((opsL cs).take k).filter fun i => byN cs i == 91
/-- After k rounds. -/
def MkS (w : World) (cs : List Nat) (k : Nat) (S : Nat → Prop) (W : World) : Prop :=
  BoxR w.heap.size 3 1 33 w.heap.size (mkTo cs k).length ((natI (mkTo cs k)).map (Value.int .i64)) S W
theorem mkTo_len (cs : List Nat) (k : Nat) : (mkTo cs k).length ≤ cs.length := by
  have h1 := List.length_filter_le (fun i => byN cs i == 91) ((opsL cs).take k)
  have h2 := opsL_len cs
  unfold mkTo
  rw [List.length_take] at h1
  omega
theorem codeRd_old {w w' : World} {bx : Nat} {a : Option Addr} {c : Nat} {cs : List Nat} (h : CodeAt w a c cs) {k : Nat} (hk : ∃ y, a = some y ∧ y.block = k) (h0 : cs ≠ []) : k < w.heap.size := by
  obtain ⟨y, e, rfl⟩ := hk
  obtain ⟨b, o, e2, hc⟩ := h.row 0 (by rw [natI_len]; exact List.length_pos_iff.2 h0)
  rw [e2] at e; cases e
  exact cell_lt hc
set_option maxRecDepth 100000 in
set_option maxHeartbeats 2000000 in
theorem marks_any (cs : List Nat) (a : Option Addr) (c : Nat) (w : World) (h : CodeAt w a c cs) :
    Calls Tryz.prog 20 #[.slice a cs.length c] w fun e w' => (∃ v, e = .returned v ∧ OwnI w w' v (marksL cs)) ∧ Below w.heap.size w w' := by
  obtain ⟨i0, hi0, hz0, hz1, hz2⟩ := info_parts info_int
  have hlen := h.len
  have hol := opsL_len cs
  have hall : Hid (mkTo cs (opsL cs).length = marksL cs) := Lib.hid (by unfold mkTo marksL; rw [List.take_length])
  have hstep := Lib.hid fun k (hk : k < (opsL cs).length) => marks_step (cs := cs) hk
  have hlt := Lib.hid fun x (hx : x ∈ opsL cs) => opsL_lt hx
  have hml := Lib.hid (mkTo_len cs)
  have hB0 := boxR_new (B := w.heap.size) (ET := 3) (sz := 1) w 33 (Nat.le_refl _)
  have hops := Lib.hid fun W => ops_any a cs.length c W
  refine (callsIn_wide (n := 0)).1 ?_
  refine callsIn_of_wp_marks Tryz.func20 rfl trivial ?_ rfl
  simp only [Tryz.ntmps20, List.size_toArray, List.length_cons, List.length_nil, Nat.reduceAdd, Nat.reduceSub, Array.replicate_succ, Array.replicate_zero, List.push_toArray, List.append_toArray, List.nil_append, List.cons_append]
  refine wpIn_wide.2 ?_
  go_wp2_with (go_at_call 14; refine (hops.out _).mono ?_; rintro e w' ⟨rfl, rfl⟩)
  refine (wpIn_wide (n := 0)).1 ?_
  have hx1 : Box ((w.alloc (Obj.cells #[.slice none 0 0] 33)).alloc (Obj.cells #[.slice a cs.length c] 32)) (w.heap.size + 1) (.slice a cs.length c) 32 := by
    have := Box.new (w.alloc (Obj.cells #[.slice none 0 0] 33)) (.slice a cs.length c) 32
    rwa [World.size_alloc] at this
  have hb1 : Below w.heap.size w ((w.alloc (Obj.cells #[.slice none 0 0] 33)).alloc (Obj.cells #[.slice a cs.length c] 32)) := xalloc (xalloc (xrefl w) _) _
  have hS1 : MkS w cs 0 (· = w.heap.size) ((w.alloc (Obj.cells #[.slice none 0 0] 33)).alloc (Obj.cells #[.slice a cs.length c] 32)) := boxR_fac.below hB0 (xalloc (xrefl _) _)
  have hs1 : ((w.alloc (Obj.cells #[.slice none 0 0] 33)).alloc (Obj.cells #[.slice a cs.length c] 32)).heap.size = w.heap.size + 2 := by simp
  generalize (w.alloc (Obj.cells #[.slice none 0 0] 33)).alloc (Obj.cells #[.slice a cs.length c] 32) = w1 at *
  have hold := fun k (h0 : cs ≠ [] ∧ ∃ y, a = some y ∧ y.block = k) => codeRd_old (w' := w) (bx := 0) h h0.2 h0.1
  refine wp_rangeL (w0 := w) (gf := 33) (lb := #[.pointer (some ⟨w.heap.size + 1, 0, none⟩)]) rfl (enters_of Tryz.func33 (by kernel_rfl) rfl) (encs := encOp cs) (Rd := codeRd (w.heap.size + 1) a cs) (opsL cs)
    (fun k hk => by
      rcases hk with rfl | hk
      · omega
      · have := hold k hk; omega) hb1 (fun W hW => ops_seq cs _ a c W (hx1.below hW) ((h.below hb1).below hW)) (fun x => rfl) (MkS w cs) (fun _ _ _ _ => False) (fun k S => boxR_fac) (fun _ _ _ => ⟨fun _ _ h _ _ => h, fun _ h => h.elim⟩) (· = w.heap.size)
    (fun j hj => ⟨by omega, fun hr => by
      rcases hr with rfl | hr
      · omega
      · have := hold j hr; omega⟩) hS1 ?round ?done ?stop
  case round =>
    intro l0 k hk W
    unfold encOp
    dsimp only
    have hst := hstep.out k hk
    have hkl := hlt.out _ (List.getElem_mem hk)
    have hm1 := hml.out k
    generalize (opsL cs)[k] = x at *
    gi_wp2
    refine ⟨trivial, fun S W2 hb2 hzz _ hSo hS => ?_⟩
    have hsz2 := hb2.size
    unfold MkS at hS
    obtain ⟨v, h1, h2, h3, h4, h5⟩ := hS
    by_cases hm : byN cs x = 91
    · rw [hm]
      rw [if_pos hm] at hst
      replace hst := Lib.hid hst
      replace hm := Lib.hid hm
      have hcb := h1.cell
      have hfb := h1.free
      have hb3 : Below W2.heap.size W2 (W2.alloc (.cells #[.int .i64 x] 3)) := xalloc (xrefl _) _
      have hmid := Lib.hid fun V5 W5 (hg5 : (W2.alloc (.cells #[.int .i64 x] 3)).grownBy W5 v.ownBlock) (o5 : W5.ownsRow w.heap.size 3 1 V5 ((mkTo cs k).length + 1) ((natI (mkTo cs k)).map (Value.int .i64) ++ [.int .i64 x])) hvb => boxR_next (S := S) (by decide) h1 h2 h3 h4 hb3 hg5 o5 hvb
      have h2a := Lib.hid (h2.alloc (.cells #[.int .i64 x] 3))
      have hne := Lib.hid (own_ne h2 h1 (by decide))
      have h1a := Lib.hid (h1.below hb3)
      replace h5 := Lib.hid h5
      replace hSo := Lib.hid hSo
      have hq1 := Lib.hid (Box.new W2 (.int .i64 x) 3).cell
      clear h1 h2 h3 h4 hb3 hb2
      obtain ⟨a4, c4, rfl⟩ := own_slice h2a.out
      gi_wp2_with (gi_at_builtin; refine wpListIn_append_blkV (W2.alloc (.cells #[.int .i64 x] 3)) rfl _ _ 33 rfl w.heap.size 3 i0 (.int .i64 0) 1 8 Tryz.underlying33 hi0 hz0 hz1 hz2 rfl (by decide) (.slice a4 (mkTo cs k).length c4) (mkTo cs k).length _ rfl h2a.out ⟨W2.heap.size, 0, none⟩ 1 1 [.int .i64 x] rfl rfl (by intro j u hj; match j, hj with | 0, hj => (injection hj with hj; subst hj; exact hq1.out)) (by simp [Value.oneCell']) (by unfold maxLen; omega) (by omega) (by rw [World.size_alloc]; omega) ?_; intro V5 W5 o5 hg5 hvb; have hfin := Lib.hid (hmid.out V5 W5 hg5 o5 hvb); have c5 := (h1a.out.only (only_grown hg5) hne.out); have cc5 := c5.cell; have cf5 := c5.free; obtain ⟨a5, e5, rfl⟩ := own_slice o5; clear hg5 o5 hvb c5 hmid)
      obtain ⟨ho, S', hS', hB⟩ := hfin.out
      refine ⟨ho, S', hS', ?_⟩
      show BoxR _ _ _ _ _ _ _ _ _
      unfold mkTo at hB ⊢
      rw [hst.out, List.length_append, natI_app, List.map_append]
      exact hB
    · rw [if_neg hm, List.append_nil] at hst
      have hm1 : ((byN cs x : Int) == 91) = false := by simp; omega
      have hm2 : ¬ (byN cs x : Int) = 91 := by omega
      replace hst := Lib.hid hst
      generalize (byN cs x : Int) = y at *
      clear hm
      have hfin : Hid (∃ S', (∀ j, S' j → S j ∨ W2.heap.size ≤ j) ∧ MkS w cs (k + 1) S' W2) := Lib.hid ⟨S, fun j hj => .inl hj, by
        show BoxR _ _ _ _ _ _ _ _ _
        unfold mkTo at h2 ⊢
        rw [hst.out]
        exact ⟨v, h1, h2, h3, h4, h5⟩⟩
      clear h1 h2 h3 h4 h5 hSo hb2
      gi_wp2
      exact ⟨Only.refl _ _, hfin.out⟩
  case done =>
    intro D S W hD hSD hb _ _ hS hK
    unfold MkS at hS
    rw [hall.out] at hS
    obtain ⟨v, h1, h2, h3, h4, h5⟩ := hS
    have hcb := h1.cell
    have hfb := h1.free
    have hne := Lib.hid (own_ne h2 h1 (by decide))
    replace h1 := Lib.hid h1
    replace h2 := Lib.hid h2
    obtain ⟨a4, c4, rfl⟩ := own_slice h2.out
    go_wp2
    have hset := (Only.refl (· = w.heap.size) W).setCell ⟨w.heap.size, 0, none⟩ (.slice a4 (marksL cs).length c4) rfl
    have hbx := (h1.out.set (.slice a4 (marksL cs).length c4))
    have h2' : (W.setCell ⟨w.heap.size, 0, none⟩ (.slice a4 (marksL cs).length c4)).ownsRow w.heap.size 3 1 (.slice a4 (marksL cs).length c4) (marksL cs).length ((natI (marksL cs)).map (Value.int .i64)) := own_same h2.out fun g hg hl => hset.same g hl fun e => hne.out (by rw [hg, e])
    have hb' := hset.below hb hb.size (by rintro i rfl; exact Nat.le_refl _)
    have hK' := (hset.same D (Array.getElem?_eq_some_iff.1 hK).1 (by omega)).trans hK
    generalize W.setCell ⟨w.heap.size, 0, none⟩ (.slice a4 (marksL cs).length c4) = W7 at *
    have hput := (Only.refl (· = D) W7).putObj D (.deferred none) rfl
    refine ⟨by simp [Act.put], .inl ⟨_, _, rfl, run_takeDeferred hK', ?_⟩⟩
    have hDg : ∀ g, (Value.slice a4 (marksL cs).length c4).ownBlock = some g → g ≠ D := fun g hg e => by
      have h9 := h4 g hg
      exact hSD (by rw [← e]; exact h9)
    exact ⟨_, results_slice rfl Tryz.underlying33 _ _ w.heap.size _ 33 rfl (hbx.only hput (by omega)), ⟨_, rfl, own_same h2' fun g hg hl => hput.same g hl (hDg g hg)⟩, hput.below hb' hb'.size (by rintro i rfl; omega)⟩
  case stop => 
    intro D k c S W _ _ _ _ _ _ h
    exact h.elim
end Go.Proofs.YtbicfaiabpcgfaaGreatDoor
namespace Go.Proofs.YtbicfaiabpcgfaaGreatDoor
open Go.RowKit Go.Shelf

theorem or_top (x y s : Nat) (hx : x % 2 ^ (s + 8) = 0) (hy : y < 256) (hx6 : x < 18446744073709551616) (hy6 : y * 2 ^ s < 18446744073709551616) : bits .or .u64 (x : Int) (IntKind.u64.wrap ((y : Int) * 2 ^ s)) = ((x + y * 2 ^ s : Nat) : Int) := by
  have e : ((y : Int) * 2 ^ s) = ((y * 2 ^ s : Nat) : Int) := by simp
  have w64 : ∀ n : Nat, n < 18446744073709551616 → IntKind.u64.wrap (n : Int) = n := by
    intro n hn
    simp [IntKind.wrap, IntKind.bits, IntKind.signed]; omega
  have o : ∀ n : Nat, BitVec.ofInt 64 (n : Int) = BitVec.ofNat 64 n := fun n => BitVec.ofInt_natCast 64 n
  have hys : y * 2 ^ s < 2 ^ (s + 8) := by
    rw [Nat.pow_add, Nat.mul_comm (2 ^ s)]
    exact Nat.mul_lt_mul_of_pos_right hy (Nat.two_pow_pos s)
  have hs : (x ||| y * 2 ^ s) = x + y * 2 ^ s := by
    obtain ⟨q, hq⟩ := Nat.dvd_of_mod_eq_zero hx
    rw [hq, ← Nat.two_pow_add_eq_or_of_lt hys q]
  have hlt : (x ||| y * 2 ^ s) < 2 ^ 64 := Nat.or_lt_two_pow (by simpa using hx6) (by simpa using hy6)
  rw [e, w64 _ hy6]
  show IntKind.u64.wrap (((BitVec.ofInt 64 (x : Int)) ||| (BitVec.ofInt 64 ((y * 2 ^ s : Nat) : Int))).toNat : Int) = _
  rw [o, o, BitVec.toNat_or, BitVec.toNat_ofNat, BitVec.toNat_ofNat, Nat.mod_eq_of_lt (by simpa using hx6), Nat.mod_eq_of_lt (by simpa using hy6), w64 _ (by simpa using hlt), hs]
def topN (N k : Nat) : Nat := 256 ^ k * (N / 256 ^ k)
set_option maxHeartbeats 4000000 in
theorem top_set (q b k : Nat) (hb : b < 256) (h : k < 32) : (wordL (256 ^ (k + 1) * q)).set (k / 8) ((limb (256 ^ (k + 1) * q) (k / 8) + b * 2 ^ (8 * (k % 8)) : Nat) : Int) = wordL (256 ^ (k + 1) * q + b * 256 ^ k) := by
  rcases cases32 k h with rfl | rfl | rfl | rfl | rfl | rfl | rfl | rfl | rfl | rfl | rfl | rfl | rfl | rfl | rfl | rfl | rfl | rfl | rfl | rfl | rfl | rfl | rfl | rfl | rfl | rfl | rfl | rfl | rfl | rfl | rfl | rfl <;> simp [wordL, limb] <;> omega
theorem topN_step (N k : Nat) : topN N (k + 1) + byteAt N k * 256 ^ k = topN N k := by
  unfold topN byteAt
  have h1 := Nat.div_add_mod (N / 256 ^ k) 256
  rw [Nat.div_div_eq_div_mul, ← Nat.pow_succ] at h1
  have h2 : 256 ^ (k + 1) * (N / 256 ^ (k + 1)) = 256 ^ k * (256 * (N / 256 ^ (k + 1))) := by rw [Nat.pow_succ, Nat.mul_assoc]
  rw [h2, Nat.mul_comm (N / 256 ^ k % 256), ← Nat.mul_add, h1]
theorem topTo_succ (N k : Nat) (h : k < 32) : (wordL (topN N (k + 1))).set (k / 8) ((limb (topN N (k + 1)) (k / 8) + byteAt N k * 2 ^ (8 * (k % 8)) : Nat) : Int) = wordL (topN N k) := by
  rw [← topN_step N k]
  exact top_set _ _ k (byteAt_lt N k) h
set_option maxHeartbeats 4000000 in
theorem limb_q (q k : Nat) (h : k < 32) : limb (256 ^ (k + 1) * q) (k / 8) % 2 ^ (8 * (k % 8) + 8) = 0 := by
  rcases cases32 k h with rfl | rfl | rfl | rfl | rfl | rfl | rfl | rfl | rfl | rfl | rfl | rfl | rfl | rfl | rfl | rfl | rfl | rfl | rfl | rfl | rfl | rfl | rfl | rfl | rfl | rfl | rfl | rfl | rfl | rfl | rfl | rfl <;> simp [limb] <;> omega
theorem limb_top (N k : Nat) (h : k < 32) : limb (topN N (k + 1)) (k / 8) % 2 ^ (8 * (k % 8) + 8) = 0 := limb_q _ k h
theorem topN_zero (N : Nat) : topN N 0 = N := by unfold topN; simp
theorem topN_all {N k : Nat} (h : N < 256 ^ k) : topN N k = 0 := by unfold topN; rw [Nat.div_eq_of_lt h, Nat.mul_zero]
theorem numN_at (l : List Nat) (h256 : ∀ x ∈ l, x < 256) (i : Nat) (hi : i < l.length) : byteAt (numN l) (l.length - 1 - i) = l[i] := by
  have := numN_byte l.reverse (l.length - 1 - i) (fun x hx => h256 x (List.mem_reverse.1 hx))
  rw [List.reverse_reverse] at this
  rw [this, List.getD_eq_getElem?_getD, List.getElem?_eq_getElem (by rw [List.length_reverse]; omega), Option.getD_some, List.getElem_reverse]
  congr 1
  omega
set_option maxRecDepth 100000 in
set_option maxHeartbeats 4000000 in
theorem read_any (l : List Nat) (a : Option Addr) (c : Nat) (w : World) (h : RowAt .u8 w a (natI l)) (hl : l.length ≤ 32) (h256 : ∀ x ∈ l, x < 256) :
    Calls Tryz.prog 48 #[.slice a l.length c] w fun e w' => e = .returned (.tuple #[wordV (numN l), .int .i64 0]) ∧ Below w.heap.size w w' := by
  have hB0 : Hid (Blk .u64 (w.alloc (.cells #[.int .u64 0, .int .u64 0, .int .u64 0, .int .u64 0] 50)) w.heap.size 50 (wordL (topN (numN l) l.length))) := Lib.hid (by
    rw [topN_all (numN_lt l h256)]
    exact Blk.new w 50 [0, 0, 0, 0])
  have hb0 : Hid (Below w.heap.size w (w.alloc (.cells #[.int .u64 0, .int .u64 0, .int .u64 0, .int .u64 0] 50))) := Lib.hid (xalloc (xrefl _) _)
  have hat := Lib.hid fun i hi => numN_at l h256 i hi
  have hlI : (l.length : Int) ≤ 32 := by omega
  have h2 := Lib.hid h
  have hu := Tryz.underlying50
  generalize numN l = N at *
  clear h h256
  go_enter Tryz.func48, Tryz.ntmps48
  go_wp2
  go_loopw [13] (fun iv wr => ∃ i : Nat, i ≤ l.length ∧ iv = .int .i64 i ∧ Hid (Blk .u64 wr w.heap.size 50 (wordL (topN N (l.length - i)))) ∧ Hid (Below w.heap.size w wr)) (fun iv _ => l.length - (intOf iv).toNat)
  case atStart => exact ⟨0, by omega, rfl, hB0, hb0⟩
  case round =>
    clear hB0 hb0
    obtain ⟨i, hi, rfl, hB, hb⟩ := hrel
    by_cases hlt : i < l.length
    · have hltI : (i : Int) < l.length := by omega
      obtain ⟨b, o, rfl, hc⟩ := h2.out i (by rw [natI_len]; exact hlt)
      rw [natI_get] at hc
      have hb4 : b < w.heap.size := cell_lt hc
      have hcr : wr.cell? ⟨b, o + i, none⟩ = some (.int .u8 (l[i] : Int)) := (hb.out.cell (p := ⟨b, o + i, none⟩) hb4).trans hc
      obtain ⟨k, hk⟩ : ∃ k, k = l.length - 1 - i := ⟨_, rfl⟩
      have hk32 : k < 32 := by omega
      have hkk : (l.length : Int) - 1 - (i : Int) = (k : Int) := by omega
      have hby := hat.out i hlt
      rw [← hk] at hby
      have hB' := hB.out
      rw [show l.length - i = k + 1 by omega] at hB'
      have hc1 := hB'.cell (k / 8) (by show k / 8 < 4; omega)
      rw [wordL_get] at hc1
      have hf1 := hB'.frozen (k / 8)
      have hx := limb_lt (topN N (k + 1)) (k / 8)
      have hx2 := Lib.hid (limb_top N k hk32)
      have hy2 := Lib.hid (byte_small N k)
      have hy := byteAt_lt N k
      have hst := Lib.hid (topTo_succ N k hk32)
      rw [hby] at hy2 hst hy
      replace hB' := Lib.hid hB'
      replace hby := Lib.hid hby
      have hkn : Hid (l.length - (i + 1) = k) := Lib.hid (by omega)
      replace hk := Lib.hid hk
      generalize limb (topN N (k + 1)) (k / 8) = x at hc1 hx hx2 hst
      generalize l[i] = y at *
      clear hc hB
      go_wp2
      go_region
      rw [or_top x y _ hx2.out hy hx hy2.out]
      go_wp2
      refine ⟨⟨i + 1, by omega, by go_num, Lib.hid ?_, Lib.hid (xdrew (xsetb hb.out (Nat.le_refl _) _))⟩, by simp [intOf]; omega⟩
      have := hB'.out.set (k / 8) ((x + y * 2 ^ (8 * (k % 8)) : Nat) : Int)
      rw [hst.out] at this
      rw [hkn.out]
      exact this
    · obtain rfl : i = l.length := by omega
      rw [Nat.sub_self, topN_zero] at hB
      clear hlt
      have hG : Hid (BlkG wr w.heap.size 50 ((wordL N).map (Value.int .u64))) := Lib.hid hB.out
      go_wp2_with (first
        | (refine wpList_load_blkG rfl 50 _ rfl w.heap.size rfl 50 _ _ hG.out hu rfl (by kernel_rfl) ?_)
        | (refine wpList_store_blkG rfl 50 _ _ rfl w.heap.size rfl 50 _ ((wordL N).map (Value.int .u64)) hG.out rfl rfl (by kernel_rfl) rfl ?_; intro w2 hG2 ho2; replace hG2 := Lib.hid hG2; replace ho2 := Lib.hid ho2))
      refine bodyPost_ret (results_blkG2 (p := 2) rfl _ _ w.heap.size 50 _ _ rfl hG2.out hu rfl (by kernel_rfl)) rfl ⟨rfl, ?_⟩
      exact ho2.out.below hb.out hb.out.size (by rintro k rfl; exact Nat.le_refl _)
end Go.Proofs.YtbicfaiabpcgfaaGreatDoor
namespace Go.Proofs.YtbicfaiabpcgfaaGreatDoor
open Go.RowKit Go.Shelf

def behC (cs : List Nat) (i : Nat) : List Value := (natI ((cs.drop (i + 1)).take (szN (byN cs i)))).map (Value.int .u8)
theorem behC_len (cs : List Nat) (i : Nat) : (behC cs i).length = Nat.min (cs.length - (i + 1)) (szN (byN cs i)) := by
  unfold behC
  rw [List.length_map, natI_len, List.length_take, List.length_drop]
  show min _ _ = min _ _
  omega
theorem behC_get {cs : List Nat} {i j : Nat} {v : Value} (h : (behC cs i)[j]? = some v) : j < szN (byN cs i) ∧ i + 1 + j < cs.length ∧ v = .int .u8 (byN cs (i + 1 + j)) := by
  have e : (behC cs i)[j]? = ((cs.drop (i + 1)).take (szN (byN cs i)))[j]?.map fun x : Nat => Value.int .u8 (x : Int) := by unfold behC natI; rw [List.map_map, List.getElem?_map]; rfl
  rw [e] at h
  cases hq : ((cs.drop (i + 1)).take (szN (byN cs i)))[j]? with
  | none => rw [hq] at h; cases h
  | some y =>
    rw [hq] at h
    injection h with h
    obtain ⟨hj, rfl⟩ := List.getElem?_eq_some_iff.1 hq
    rw [List.length_take, List.length_drop] at hj
    refine ⟨by omega, by omega, ?_⟩
    rw [← h]
    show Value.int .u8 _ = .int .u8 ((cs.getD (i + 1 + j) 0 : Nat) : Int)
    rw [List.getD_eq_getElem?_getD, List.getElem?_eq_getElem (by omega)]
    simp
theorem splice_beh (cs : List Nat) (i : Nat) : splice ((List.replicate (szN (byN cs i)) (0 : Int)).map (Value.int .u8)) 0 (behC cs i) = (natI (restN cs i)).map (Value.int .u8) := by
  have hl := behC_len cs i
  have hle : (behC cs i).length ≤ szN (byN cs i) := by rw [hl]; exact Nat.min_le_right _ _
  apply List.ext_getElem
  · rw [length_splice _ _ _ (by simpa using hle)]
    simp [natI_len, restN_len]
  · intro j h1 h2
    have hj : j < szN (byN cs i) := by simpa [natI_len, restN_len] using h2
    unfold splice
    simp only [List.take_zero, List.nil_append, Nat.zero_add]
    rw [List.getElem_append]
    have hr : ((natI (restN cs i)).map (Value.int .u8))[j] = .int .u8 (byN cs (i + 1 + j)) := by simp [natI, restN]
    rw [hr]
    split
    · rename_i h
      exact (behC_get (List.getElem?_eq_getElem h)).2.2
    · rename_i h
      simp only [List.getElem_drop, List.getElem_map, List.getElem_replicate]
      congr 1
      have : cs.length ≤ i + 1 + j := by
        rw [hl] at h
        rcases Nat.lt_or_ge (i + 1 + j) cs.length with h3 | h3
        · exact absurd (Nat.lt_min.2 ⟨by omega, hj⟩) h
        · exact h3
      unfold byN
      rw [List.getD_eq_getElem?_getD, List.getElem?_eq_none this]
      rfl
set_option maxRecDepth 100000 in
set_option maxHeartbeats 4000000 in
theorem behind_any (cs : List Nat) (i : Nat) (a : Option Addr) (c : Nat) (w : World) (h : CodeAt w a c cs) (hlt : i < cs.length) :
    Calls Tryz.prog 36 #[.slice a cs.length c, .int .i64 i] w fun e w' => (∃ b n, e = .returned (.slice (some ⟨b, 0, none⟩) (restN cs i).length n) ∧ RowAt .u8 w' (some ⟨b, 0, none⟩) (natI (restN cs i)) ∧ w.heap.size ≤ b) ∧ Below w.heap.size w w' := by
  obtain ⟨i0, hi0, hz0, hz1, hz2⟩ := info_parts info_u8
  have hsz := szN_le (byN cs i)
  have hmk : Hid (∀ W, (Instr.makeSlice 32 (.int .i64 (szN (byN cs i) : Int)) (.int .i64 (szN (byN cs i) : Int))).run Tryz.prog W = .ok (.slice (some ⟨W.heap.size, 0, none⟩) (szN (byN cs i)) (szN (byN cs i))) (W.alloc (.cells ((List.replicate (szN (byN cs i)) (0 : Int)).map (Value.int .u8)).toArray 5))) := Lib.hid fun W =>
    run_mk_ints 32 5 i0 .u8 1 Tryz.underlying32 hi0 hz0 hz1 hz2 (szN (byN cs i)) _ rfl (by omega) (by omega) W
  have hcl := h.len
  have hcap := h.cap
  have hltI : (i : Int) < cs.length := by omega
  have hrl := restN_len cs i
  have h2 := Lib.hid h
  obtain ⟨b, o, rfl, hc1, h256⟩ := h.get hlt
  have hinf := Lib.hid (size_any (byN cs i) w h256)
  have hsp := splice_beh cs i
  have hBl := behC_len cs i
  have hle : (behC cs i).length ≤ szN (byN cs i) := by rw [hBl]; exact Nat.min_le_right _ _
  have hone : Hid (∀ v ∈ behC cs i, v.oneCell' = true) := Lib.hid (by
    intro v hv
    unfold behC at hv
    obtain ⟨z, -, rfl⟩ := List.mem_map.1 hv
    rfl)
  have hBg : Hid (∀ j v, (behC cs i)[j]? = some v → i + 1 + j < cs.length ∧ w.cell? ⟨b, o + (i + 1 + j), none⟩ = some v) := Lib.hid fun j v hj => by
    obtain ⟨-, h1, rfl⟩ := behC_get hj
    obtain ⟨b', o', e, hc, -⟩ := h.get h1
    cases e
    exact ⟨h1, hc⟩
  generalize behC cs i = C at *
  generalize hR : restN cs i = R at *
  clear hR
  generalize szN (byN cs i) = sz at *
  generalize byN cs i = x at *
  replace hrl := Lib.hid hrl
  replace hsp := Lib.hid hsp
  replace hBl := Lib.hid hBl
  clear hi0 hz0 hz1 hz2 h
  rcases hcap with ⟨hcp1, hcp2⟩
  by_cases hA : i + 1 < cs.length
  · have hA1 : (i : Int) + 1 < cs.length := by omega
    have hA2 : (i : Int) + 1 < c := by omega
    have hA3 : (i : Int) + 1 ≤ cs.length := by omega
    have hA4 : (i : Int) + 1 ≤ c := by omega
    go_enter Tryz.func36, Tryz.ntmps36
    go_wp2_with (go_at_call 34; refine hinf.out.mono ?_; rintro e w1 ⟨rfl, rfl⟩)
    rw [hmk.out]
    have hB0 : Hid (BlkG (w.alloc (.cells ((List.replicate sz (0 : Int)).map (Value.int .u8)).toArray 5)) w.heap.size 5 ((List.replicate sz (0 : Int)).map (Value.int .u8))) := Lib.hid (BlkG.new w _ _)
    have hb0 : Hid (Below w.heap.size w (w.alloc (.cells ((List.replicate sz (0 : Int)).map (Value.int .u8)).toArray 5))) := Lib.hid (xalloc (xrefl w) _)
    generalize w.alloc (.cells ((List.replicate sz (0 : Int)).map (Value.int .u8)).toArray 5) = w2 at hB0 hb0 ⊢
    clear hmk hinf
    go_wp2_with (refine wpList_copy_splice rfl _ _ 32 32 rfl 5 Tryz.underlying32 (by kernel_rfl) (some ⟨w.heap.size, 0, none⟩) (some ⟨b, o + (i + 1), none⟩) sz sz (cs.length - (i + 1)) (c - (i + 1)) rfl rfl w.heap.size 0 _ 5 hB0.out C hBl.out (fun _ => ⟨rfl, _, rfl, fun j v hj => by have h9 := (hBg.out j v hj).2; rw [Addr.add_lit, Nat.add_assoc]; exact cbel hb0.out h9⟩) (by rw [List.length_map, List.length_replicate]; omega) hone.out w.heap.size w hb0.out (Nat.le_refl _) ?_; intro w3 hG3 hb3)
    go_ret
    refine ⟨⟨w.heap.size, sz, by rw [hrl.out]; rfl, ?_, Nat.le_refl _⟩, hb3⟩
    have hq : BlkG w3 w.heap.size 5 ((natI R).map (Value.int .u8)) := by
      have := hG3.out
      rw [hsp.out] at this
      exact this
    intro j hj
    exact ⟨_, _, rfl, by rw [Nat.zero_add, hq.cell j (by simpa using hj)]; simp⟩
  · have hE : cs.length = i + 1 := by omega
    rw [hE, Nat.sub_self] at hBl
    have hC0 : Hid (C.length = 0) := Lib.hid (by rw [hBl.out]; exact Nat.zero_min _)
    clear hA hltI hBg h2
    rw [hE] at hcp1 ⊢
    clear hE hlt hcl
    have hA3 : (i : Int) + 1 ≤ c := by omega
    by_cases hc' : i + 1 < c
    · have hA2 : (i : Int) + 1 < c := by omega
      go_enter Tryz.func36, Tryz.ntmps36
      go_wp2_with (go_at_call 34; refine hinf.out.mono ?_; rintro e w1 ⟨rfl, rfl⟩)
      rw [hmk.out]
      have hB0 : Hid (BlkG (w.alloc (.cells ((List.replicate sz (0 : Int)).map (Value.int .u8)).toArray 5)) w.heap.size 5 ((List.replicate sz (0 : Int)).map (Value.int .u8))) := Lib.hid (BlkG.new w _ _)
      have hb0 : Hid (Below w.heap.size w (w.alloc (.cells ((List.replicate sz (0 : Int)).map (Value.int .u8)).toArray 5))) := Lib.hid (xalloc (xrefl w) _)
      generalize w.alloc (.cells ((List.replicate sz (0 : Int)).map (Value.int .u8)).toArray 5) = w2 at hB0 hb0 ⊢
      clear hmk hinf
      go_wp2_with (refine wpList_copy_splice rfl _ _ 32 32 rfl 5 Tryz.underlying32 (by kernel_rfl) (some ⟨w.heap.size, 0, none⟩) _ sz sz 0 _ rfl rfl w.heap.size 0 _ 5 hB0.out C hBl.out (fun hp => by have := hC0.out; omega) (by rw [List.length_map, List.length_replicate]; omega) hone.out w.heap.size w hb0.out (Nat.le_refl _) ?_; intro w3 hG3 hb3)
      go_ret
      refine ⟨⟨w.heap.size, sz, by rw [hrl.out]; rfl, ?_, Nat.le_refl _⟩, hb3⟩
      have hq : BlkG w3 w.heap.size 5 ((natI R).map (Value.int .u8)) := by
        have := hG3.out
        rw [hsp.out] at this
        exact this
      intro j hj
      exact ⟨_, _, rfl, by rw [Nat.zero_add, hq.cell j (by simpa using hj)]; simp⟩
    · obtain rfl : c = i + 1 := by omega
      clear hA3 hc' hcp1
      go_enter Tryz.func36, Tryz.ntmps36
      go_wp2_with (go_at_call 34; refine hinf.out.mono ?_; rintro e w1 ⟨rfl, rfl⟩)
      rw [hmk.out]
      have hB0 : Hid (BlkG (w.alloc (.cells ((List.replicate sz (0 : Int)).map (Value.int .u8)).toArray 5)) w.heap.size 5 ((List.replicate sz (0 : Int)).map (Value.int .u8))) := Lib.hid (BlkG.new w _ _)
      have hb0 : Hid (Below w.heap.size w (w.alloc (.cells ((List.replicate sz (0 : Int)).map (Value.int .u8)).toArray 5))) := Lib.hid (xalloc (xrefl w) _)
      generalize w.alloc (.cells ((List.replicate sz (0 : Int)).map (Value.int .u8)).toArray 5) = w2 at hB0 hb0 ⊢
      clear hmk hinf
      go_wp2_with (refine wpList_copy_splice rfl _ _ 32 32 rfl 5 Tryz.underlying32 (by kernel_rfl) (some ⟨w.heap.size, 0, none⟩) _ sz sz 0 _ rfl rfl w.heap.size 0 _ 5 hB0.out C hBl.out (fun hp => by have := hC0.out; omega) (by rw [List.length_map, List.length_replicate]; omega) hone.out w.heap.size w hb0.out (Nat.le_refl _) ?_; intro w3 hG3 hb3)
      go_ret
      refine ⟨⟨w.heap.size, sz, by rw [hrl.out]; rfl, ?_, Nat.le_refl _⟩, hb3⟩
      have hq : BlkG w3 w.heap.size 5 ((natI R).map (Value.int .u8)) := by
        have := hG3.out
        rw [hsp.out] at this
        exact this
      intro j hj
      exact ⟨_, _, rfl, by rw [Nat.zero_add, hq.cell j (by simpa using hj)]; simp⟩
end Go.Proofs.YtbicfaiabpcgfaaGreatDoor
