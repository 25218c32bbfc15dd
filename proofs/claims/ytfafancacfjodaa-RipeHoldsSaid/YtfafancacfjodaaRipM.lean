/- The program's digest (layer 24): a block that is mixed in. -/
import Derived.Test.YtfafancacfjodaaRipL
namespace Go.Proofs.Ytfafancacfjodaa
open Go.RowKit

set_option maxRecDepth 100000 in
set_option maxHeartbeats 2000000 in
theorem mix24_any (h b : Nat → BitVec 32) (w : World) :
    Calls Try.prog 11 #[arrV .u32 (rowI 5 h), arrV .u32 (rowI 16 b)] w fun e w' => e = .returned (arrV .u32 (rowI 5 (mixR h b))) ∧ Below w.heap.size w w' := by
  have hLA := fun W => gone_any false b h W
  have hLB := fun W => gone_any true b h W
  unfold arrV at hLA hLB ⊢
  obtain ⟨lh, hlh⟩ : ∃ l, l = rowI 5 h := ⟨_, rfl⟩
  obtain ⟨lb, hlb⟩ : ∃ l, l = rowI 16 b := ⟨_, rfl⟩
  obtain ⟨LA, hla⟩ : ∃ l, l = rowI 5 (lineF false b h) := ⟨_, rfl⟩
  obtain ⟨LB, hlb2⟩ : ∃ l, l = rowI 5 (lineF true b h) := ⟨_, rfl⟩
  rw [← hlh, ← hlb]
  rw [← hlh, ← hlb, ← hla] at hLA
  rw [← hlh, ← hlb, ← hlb2] at hLB
  have nh : lh.length = 5 := by rw [hlh, rowI_len]
  have nb : lb.length = 16 := by rw [hlb, rowI_len]
  have nA : LA.length = 5 := by rw [hla, rowI_len]
  have nB : LB.length = 5 := by rw [hlb2, rowI_len]
  go_enter Try.func11, Try.ntmps11
  obtain ⟨w1, hw1⟩ : ∃ w1, (((w.alloc (Obj.cells (lh.map (Value.int .u32)).toArray 29)).alloc (Obj.cells (lb.map (Value.int .u32)).toArray 30)).alloc (Obj.cells ((List.replicate 5 0).map (Value.int .u32)).toArray 29)) = w1 := ⟨_, rfl⟩
  have hH : Blk .u32 w1 w.heap.size 29 lh := by rw [← hw1]; exact ((Blk.new w _ lh).alloc _).alloc _
  have hB : Blk .u32 w1 (w.heap.size + 1) 30 lb := by rw [← hw1]; exact (Blk.new' _ _ _ lb (by simp)).alloc _
  have hR : Blk .u32 w1 (w.heap.size + 1 + 1) 29 (List.replicate 5 0) := by rw [← hw1]; exact Blk.new' _ _ _ _ (by simp)
  have hbw : Below w.heap.size w w1 := by rw [← hw1]; exact xalloc (xalloc (xalloc (xrefl _) _) _) _
  replace hw1 := Lib.hid hw1
  replace hlh := Lib.hid hlh
  replace hlb := Lib.hid hlb
  replace hla := Lib.hid hla
  replace hlb2 := Lib.hid hlb2
  replace nh := Lib.hid nh
  replace nb := Lib.hid nb
  replace nA := Lib.hid nA
  replace nB := Lib.hid nB
  replace hH := Lib.hid hH
  replace hB := Lib.hid hB
  replace hR := Lib.hid hR
  replace hLA := Lib.hid hLA
  replace hLB := Lib.hid hLB
  replace hbw := Lib.hid hbw
  go_upto_region 1 with fail
  refine wp_world (w' := w1) hw1.out ?_
  clear hw1
  obtain ⟨I, hI⟩ : ∃ I : (Nat → Bool) → Act → World → Prop, ∀ d ac wz, I d ac wz ↔ (∃ v5 v6 v8 v9 v10 v11 v12 v13 : Value, ac = { tmps := #[.agg ((lh).map (Value.int .u32)).toArray, .agg ((lb).map (Value.int .u32)).toArray, .pointer (some ⟨w.heap.size, 0, none⟩), .pointer (some ⟨w.heap.size + 1, 0, none⟩), .pointer (some ⟨w.heap.size + 1 + 1, 0, none⟩), v5, v6, undef, v8, v9, v10, v11, v12, v13, undef, undef, undef, undef, undef, undef, undef, undef, undef, undef, undef, undef, undef, undef, undef, undef, undef, undef, undef, undef, undef, undef, undef, undef], defers := [] }
    ∧ Below w1.heap.size w1 wz ∧ (d 0 = true → v8 = .agg ((lh).map (Value.int .u32)).toArray) ∧ (d 1 = true → v9 = .agg ((lb).map (Value.int .u32)).toArray) ∧ (d 2 = true → v10 = .agg ((LA).map (Value.int .u32)).toArray) ∧ (d 3 = true → v11 = .agg ((lh).map (Value.int .u32)).toArray) ∧ (d 4 = true → v12 = .agg ((lb).map (Value.int .u32)).toArray) ∧ (d 5 = true → v13 = .agg ((LB).map (Value.int .u32)).toArray)
    ∧ (d 8 = true → d 6 = true) ∧ (d 9 = true → d 7 = true)
    ∧ (d 6 = true → ∃ p, v5 = .pointer (some ⟨p, 0, none⟩) ∧ w1.heap.size ≤ p ∧ Blk .u32 wz p 54 (if d 8 = true then LA else (List.replicate 5 0)) ∧ (d 7 = true → v6 ≠ .pointer (some ⟨p, 0, none⟩)))
    ∧ (d 7 = true → ∃ p, v6 = .pointer (some ⟨p, 0, none⟩) ∧ w1.heap.size ≤ p ∧ Blk .u32 wz p 54 (if d 9 = true then LB else (List.replicate 5 0)) ∧ (d 6 = true → v5 ≠ .pointer (some ⟨p, 0, none⟩)))) := ⟨_, fun _ _ _ => Iff.rfl⟩
  replace hI := Lib.hid hI
  refine wp_region_inv (by kernel_rfl) (by kernel_rfl) I ?_ ?_ ?_
  · exact (hI.out _ _ _).2 ⟨undef, undef, undef, undef, undef, undef, undef, undef, rfl, xdrew (xrefl w1), by simp, by simp, by simp, by simp, by simp, by simp, by simp, by simp, by simp, by simp⟩
  · refine ⟨?_, ?_, ?_, ?_, ?_, ?_, ?_, ?_, ?_, ?_, trivial⟩
    · rintro d ac wz hn hwt hi; obtain ⟨v5, v6, v8, v9, v10, v11, v12, v13, rfl, hb, f8, f9, f10, f11, f12, f13, g0, g1, m0, m1⟩ := (hI.out d ac wz).1 hi; clear hi; simp [waitsFor, Region.binds] at hwt hn; replace f8 := Lib.hid f8; replace f9 := Lib.hid f9; replace f10 := Lib.hid f10; replace f11 := Lib.hid f11; replace f12 := Lib.hid f12; replace f13 := Lib.hid f13; replace m0 := Lib.hid m0; replace m1 := Lib.hid m1; replace g0 := Lib.hid g0; replace g1 := Lib.hid g1
      refine wp_load_blk 29 _ rfl w.heap.size rfl .u32 29 (lh) _ _ (hH.out.below hb) Try.underlying29 (by rw [nh.out]; kernel_rfl) ?_
      exact (hI.out _ _ _).2 ⟨v5, v6, .agg ((lh).map (Value.int .u32)).toArray, v9, v10, v11, v12, v13, rfl, hb, fun _ => rfl, by simpa [also] using f9.out, by simpa [also] using f10.out, by simpa [also] using f11.out, by simpa [also] using f12.out, by simpa [also] using f13.out, by simpa [also] using g0.out, by simpa [also] using g1.out, by simpa [also] using m0.out, by simpa [also] using m1.out⟩
    · rintro d ac wz hn hwt hi; obtain ⟨v5, v6, v8, v9, v10, v11, v12, v13, rfl, hb, f8, f9, f10, f11, f12, f13, g0, g1, m0, m1⟩ := (hI.out d ac wz).1 hi; clear hi; simp [waitsFor, Region.binds] at hwt hn; replace f8 := Lib.hid f8; replace f9 := Lib.hid f9; replace f10 := Lib.hid f10; replace f11 := Lib.hid f11; replace f12 := Lib.hid f12; replace f13 := Lib.hid f13; replace m0 := Lib.hid m0; replace m1 := Lib.hid m1; replace g0 := Lib.hid g0; replace g1 := Lib.hid g1
      refine wp_load_blk 30 _ rfl (w.heap.size + 1) rfl .u32 30 (lb) _ _ (hB.out.below hb) Try.underlying30 (by rw [nb.out]; kernel_rfl) ?_
      exact (hI.out _ _ _).2 ⟨v5, v6, v8, .agg ((lb).map (Value.int .u32)).toArray, v10, v11, v12, v13, rfl, hb, by simpa [also] using f8.out, fun _ => rfl, by simpa [also] using f10.out, by simpa [also] using f11.out, by simpa [also] using f12.out, by simpa [also] using f13.out, by simpa [also] using g0.out, by simpa [also] using g1.out, by simpa [also] using m0.out, by simpa [also] using m1.out⟩
    · rintro d ac wz hn hwt hi; obtain ⟨v5, v6, v8, v9, v10, v11, v12, v13, rfl, hb, f8, f9, f10, f11, f12, f13, g0, g1, m0, m1⟩ := (hI.out d ac wz).1 hi; clear hi; simp [waitsFor, Region.binds] at hwt hn; replace f8 := Lib.hid f8; replace f9 := Lib.hid f9; replace f10 := Lib.hid f10; replace f11 := Lib.hid f11; replace f12 := Lib.hid f12; replace f13 := Lib.hid f13; replace m0 := Lib.hid m0; replace m1 := Lib.hid m1; replace g0 := Lib.hid g0; replace g1 := Lib.hid g1
      have e8 := f8.out (by simp [hwt])
      have e9 := f9.out (by simp [hwt])
      subst e8 e9
      go_simp
      go_at_call 26
      refine (hLA.out _).mono ?_
      rintro e w' ⟨rfl, hbb⟩
      refine (hI.out _ _ _).2 ⟨v5, v6, .agg ((lh).map (Value.int .u32)).toArray, .agg ((lb).map (Value.int .u32)).toArray, .agg ((LA).map (Value.int .u32)).toArray, v11, v12, v13, rfl, xtrans hb hbb, fun _ => rfl, fun _ => rfl, fun _ => rfl, by simpa [also] using f11.out, by simpa [also] using f12.out, by simpa [also] using f13.out, by simpa [also] using g0.out, by simpa [also] using g1.out, ?_, ?_⟩
      · intro h
        obtain ⟨p, e1, e2, e3, e4⟩ := m0.out (by simpa [also] using h)
        exact ⟨p, e1, e2, by simpa [also] using e3.below hbb, by simpa [also] using e4⟩
      · intro h
        obtain ⟨p, e1, e2, e3, e4⟩ := m1.out (by simpa [also] using h)
        exact ⟨p, e1, e2, by simpa [also] using e3.below hbb, by simpa [also] using e4⟩
    · rintro d ac wz hn hwt hi; obtain ⟨v5, v6, v8, v9, v10, v11, v12, v13, rfl, hb, f8, f9, f10, f11, f12, f13, g0, g1, m0, m1⟩ := (hI.out d ac wz).1 hi; clear hi; simp [waitsFor, Region.binds] at hwt hn; replace f8 := Lib.hid f8; replace f9 := Lib.hid f9; replace f10 := Lib.hid f10; replace f11 := Lib.hid f11; replace f12 := Lib.hid f12; replace f13 := Lib.hid f13; replace m0 := Lib.hid m0; replace m1 := Lib.hid m1; replace g0 := Lib.hid g0; replace g1 := Lib.hid g1
      refine wp_load_blk 29 _ rfl w.heap.size rfl .u32 29 (lh) _ _ (hH.out.below hb) Try.underlying29 (by rw [nh.out]; kernel_rfl) ?_
      exact (hI.out _ _ _).2 ⟨v5, v6, v8, v9, v10, .agg ((lh).map (Value.int .u32)).toArray, v12, v13, rfl, hb, by simpa [also] using f8.out, by simpa [also] using f9.out, by simpa [also] using f10.out, fun _ => rfl, by simpa [also] using f12.out, by simpa [also] using f13.out, by simpa [also] using g0.out, by simpa [also] using g1.out, by simpa [also] using m0.out, by simpa [also] using m1.out⟩
    · rintro d ac wz hn hwt hi; obtain ⟨v5, v6, v8, v9, v10, v11, v12, v13, rfl, hb, f8, f9, f10, f11, f12, f13, g0, g1, m0, m1⟩ := (hI.out d ac wz).1 hi; clear hi; simp [waitsFor, Region.binds] at hwt hn; replace f8 := Lib.hid f8; replace f9 := Lib.hid f9; replace f10 := Lib.hid f10; replace f11 := Lib.hid f11; replace f12 := Lib.hid f12; replace f13 := Lib.hid f13; replace m0 := Lib.hid m0; replace m1 := Lib.hid m1; replace g0 := Lib.hid g0; replace g1 := Lib.hid g1
      refine wp_load_blk 30 _ rfl (w.heap.size + 1) rfl .u32 30 (lb) _ _ (hB.out.below hb) Try.underlying30 (by rw [nb.out]; kernel_rfl) ?_
      exact (hI.out _ _ _).2 ⟨v5, v6, v8, v9, v10, v11, .agg ((lb).map (Value.int .u32)).toArray, v13, rfl, hb, by simpa [also] using f8.out, by simpa [also] using f9.out, by simpa [also] using f10.out, by simpa [also] using f11.out, fun _ => rfl, by simpa [also] using f13.out, by simpa [also] using g0.out, by simpa [also] using g1.out, by simpa [also] using m0.out, by simpa [also] using m1.out⟩
    · rintro d ac wz hn hwt hi; obtain ⟨v5, v6, v8, v9, v10, v11, v12, v13, rfl, hb, f8, f9, f10, f11, f12, f13, g0, g1, m0, m1⟩ := (hI.out d ac wz).1 hi; clear hi; simp [waitsFor, Region.binds] at hwt hn; replace f8 := Lib.hid f8; replace f9 := Lib.hid f9; replace f10 := Lib.hid f10; replace f11 := Lib.hid f11; replace f12 := Lib.hid f12; replace f13 := Lib.hid f13; replace m0 := Lib.hid m0; replace m1 := Lib.hid m1; replace g0 := Lib.hid g0; replace g1 := Lib.hid g1
      have e11 := f11.out (by simp [hwt])
      have e12 := f12.out (by simp [hwt])
      subst e11 e12
      go_simp
      go_at_call 26
      refine (hLB.out _).mono ?_
      rintro e w' ⟨rfl, hbb⟩
      refine (hI.out _ _ _).2 ⟨v5, v6, v8, v9, v10, .agg ((lh).map (Value.int .u32)).toArray, .agg ((lb).map (Value.int .u32)).toArray, .agg ((LB).map (Value.int .u32)).toArray, rfl, xtrans hb hbb, by simpa [also] using f8.out, by simpa [also] using f9.out, by simpa [also] using f10.out, fun _ => rfl, fun _ => rfl, fun _ => rfl, by simpa [also] using g0.out, by simpa [also] using g1.out, ?_, ?_⟩
      · intro h
        obtain ⟨p, e1, e2, e3, e4⟩ := m0.out (by simpa [also] using h)
        exact ⟨p, e1, e2, by simpa [also] using e3.below hbb, by simpa [also] using e4⟩
      · intro h
        obtain ⟨p, e1, e2, e3, e4⟩ := m1.out (by simpa [also] using h)
        exact ⟨p, e1, e2, by simpa [also] using e3.below hbb, by simpa [also] using e4⟩
    · rintro d ac wz hn hwt hi; obtain ⟨v5, v6, v8, v9, v10, v11, v12, v13, rfl, hb, f8, f9, f10, f11, f12, f13, g0, g1, m0, m1⟩ := (hI.out d ac wz).1 hi; clear hi; simp [waitsFor, Region.binds] at hwt hn; replace f8 := Lib.hid f8; replace f9 := Lib.hid f9; replace f10 := Lib.hid f10; replace f11 := Lib.hid f11; replace f12 := Lib.hid f12; replace f13 := Lib.hid f13; replace m0 := Lib.hid m0; replace m1 := Lib.hid m1; replace g0 := Lib.hid g0; replace g1 := Lib.hid g1
      have hno : ¬ d 8 = true := by intro h; simp [g0.out h] at hn
      go_simp
      refine (hI.out _ _ _).2 ⟨.pointer (some ⟨wz.heap.size, 0, none⟩), v6, v8, v9, v10, v11, v12, v13, rfl, xalloc hb _, by simpa [also] using f8.out, by simpa [also] using f9.out, by simpa [also] using f10.out, by simpa [also] using f11.out, by simpa [also] using f12.out, by simpa [also] using f13.out, fun _ => rfl, by simpa [also] using g1.out, ?_, ?_⟩
      · intro h
        refine ⟨wz.heap.size, rfl, hb.size, ?_, ?_⟩
        · rw [if_neg (by simpa [also] using hno)]
          exact Blk.new' _ _ _ (List.replicate 5 0) rfl
        · intro h
          obtain ⟨p, e1, e2, e3, e4⟩ := m1.out (by simpa [also] using h)
          rw [e1]
          intro he
          have := e3.lt
          simp at he <;> omega
      · intro h
        obtain ⟨p, e1, e2, e3, e4⟩ := m1.out (by simpa [also] using h)
        refine ⟨p, e1, e2, by simpa [also] using e3.alloc _, ?_⟩
        intro _ he
        have := e3.lt
        simp at he <;> omega
    · rintro d ac wz hn hwt hi; obtain ⟨v5, v6, v8, v9, v10, v11, v12, v13, rfl, hb, f8, f9, f10, f11, f12, f13, g0, g1, m0, m1⟩ := (hI.out d ac wz).1 hi; clear hi; simp [waitsFor, Region.binds] at hwt hn; replace f8 := Lib.hid f8; replace f9 := Lib.hid f9; replace f10 := Lib.hid f10; replace f11 := Lib.hid f11; replace f12 := Lib.hid f12; replace f13 := Lib.hid f13; replace m0 := Lib.hid m0; replace m1 := Lib.hid m1; replace g0 := Lib.hid g0; replace g1 := Lib.hid g1
      have hno : ¬ d 9 = true := by intro h; simp [g1.out h] at hn
      go_simp
      refine (hI.out _ _ _).2 ⟨v5, .pointer (some ⟨wz.heap.size, 0, none⟩), v8, v9, v10, v11, v12, v13, rfl, xalloc hb _, by simpa [also] using f8.out, by simpa [also] using f9.out, by simpa [also] using f10.out, by simpa [also] using f11.out, by simpa [also] using f12.out, by simpa [also] using f13.out, by simpa [also] using g0.out, fun _ => rfl, ?_, ?_⟩
      · intro h
        obtain ⟨p, e1, e2, e3, e4⟩ := m0.out (by simpa [also] using h)
        refine ⟨p, e1, e2, by simpa [also] using e3.alloc _, ?_⟩
        intro _ he
        have := e3.lt
        simp at he <;> omega
      · intro h
        refine ⟨wz.heap.size, rfl, hb.size, ?_, ?_⟩
        · rw [if_neg (by simpa [also] using hno)]
          exact Blk.new' _ _ _ (List.replicate 5 0) rfl
        · intro h
          obtain ⟨p, e1, e2, e3, e4⟩ := m0.out (by simpa [also] using h)
          rw [e1]
          intro he
          have := e3.lt
          simp at he <;> omega
    · rintro d ac wz hn hwt hi; obtain ⟨v5, v6, v8, v9, v10, v11, v12, v13, rfl, hb, f8, f9, f10, f11, f12, f13, g0, g1, m0, m1⟩ := (hI.out d ac wz).1 hi; clear hi; simp [waitsFor, Region.binds] at hwt hn; replace f8 := Lib.hid f8; replace f9 := Lib.hid f9; replace f10 := Lib.hid f10; replace f11 := Lib.hid f11; replace f12 := Lib.hid f12; replace f13 := Lib.hid f13; replace m0 := Lib.hid m0; replace m1 := Lib.hid m1; replace g0 := Lib.hid g0; replace g1 := Lib.hid g1
      have h8 : d 6 = true := by simp [hwt]
      have h9 : d 7 = true := by simp [hwt]
      have e0 := f10.out (by simp [hwt])
      subst e0
      obtain ⟨p, e1, e2, e3, e4⟩ := m0.out h8
      obtain ⟨q, k1, k2, k3, k4⟩ := m1.out h9
      subst e1 k1
      have hpq : q ≠ p := by rintro rfl; exact e4 h9 rfl
      rw [if_neg (by simp [hn])] at e3
      refine wp_store_blk 54 _ _ rfl p rfl .u32 54 (List.replicate 5 0) LA e3 rfl (by rw [nA.out, List.length_replicate]) (by rw [nA.out]; kernel_rfl) ?_
      intro w2 hw2 ho2
      refine (hI.out _ _ _).2 ⟨.pointer (some ⟨p, 0, none⟩), .pointer (some ⟨q, 0, none⟩), v8, v9, .agg ((LA).map (Value.int .u32)).toArray, v11, v12, v13, rfl, ho2.below hb hb.size (by rintro i rfl; omega), by simpa [also] using f8.out, by simpa [also] using f9.out, fun _ => rfl, by simpa [also] using f11.out, by simpa [also] using f12.out, by simpa [also] using f13.out, fun _ => by simp [also, h8], fun _ => by simp [also, h9], ?_, ?_⟩
      · exact fun _ => ⟨p, rfl, by assumption, by simpa [also] using hw2, fun _ h => by simp at h <;> omega⟩
      · exact fun _ => ⟨q, rfl, by assumption, by simpa [also] using k3.only ho2 hpq, fun _ h => by simp at h <;> omega⟩
    · rintro d ac wz hn hwt hi; obtain ⟨v5, v6, v8, v9, v10, v11, v12, v13, rfl, hb, f8, f9, f10, f11, f12, f13, g0, g1, m0, m1⟩ := (hI.out d ac wz).1 hi; clear hi; simp [waitsFor, Region.binds] at hwt hn; replace f8 := Lib.hid f8; replace f9 := Lib.hid f9; replace f10 := Lib.hid f10; replace f11 := Lib.hid f11; replace f12 := Lib.hid f12; replace f13 := Lib.hid f13; replace m0 := Lib.hid m0; replace m1 := Lib.hid m1; replace g0 := Lib.hid g0; replace g1 := Lib.hid g1
      have h8 : d 6 = true := by simp [hwt]
      have h9 : d 7 = true := by simp [hwt]
      have e0 := f13.out (by simp [hwt])
      subst e0
      obtain ⟨p, e1, e2, e3, e4⟩ := m1.out h9
      obtain ⟨q, k1, k2, k3, k4⟩ := m0.out h8
      subst e1 k1
      have hpq : q ≠ p := by rintro rfl; exact e4 h8 rfl
      rw [if_neg (by simp [hn])] at e3
      refine wp_store_blk 54 _ _ rfl p rfl .u32 54 (List.replicate 5 0) LB e3 rfl (by rw [nB.out, List.length_replicate]) (by rw [nB.out]; kernel_rfl) ?_
      intro w2 hw2 ho2
      refine (hI.out _ _ _).2 ⟨.pointer (some ⟨q, 0, none⟩), .pointer (some ⟨p, 0, none⟩), v8, v9, v10, v11, v12, .agg ((LB).map (Value.int .u32)).toArray, rfl, ho2.below hb hb.size (by rintro i rfl; omega), by simpa [also] using f8.out, by simpa [also] using f9.out, by simpa [also] using f10.out, by simpa [also] using f11.out, by simpa [also] using f12.out, fun _ => rfl, fun _ => by simp [also, h8], fun _ => by simp [also, h9], ?_, ?_⟩
      · exact fun _ => ⟨q, rfl, by assumption, by simpa [also] using k3.only ho2 hpq, fun _ h => by simp at h <;> omega⟩
      · exact fun _ => ⟨p, rfl, by assumption, by simpa [also] using hw2, fun _ h => by simp at h <;> omega⟩
  intro d ac wz hall hi
  obtain ⟨v5, v6, v8, v9, v10, v11, v12, v13, rfl, hb, f8, f9, f10, f11, f12, f13, g0, g1, m0, m1⟩ := (hI.out d ac wz).1 hi
  clear hi
  simp [List.range_succ] at hall
  have e8 := f8 (by simp [hall])
  have e9 := f9 (by simp [hall])
  have e10 := f10 (by simp [hall])
  have e11 := f11 (by simp [hall])
  have e12 := f12 (by simp [hall])
  have e13 := f13 (by simp [hall])
  obtain ⟨px, e1, hpx, hX, hpq⟩ := m0 (by simp [hall])
  obtain ⟨py, e2, hpy, hY, -⟩ := m1 (by simp [hall])
  replace hpq := hpq (by simp [hall])
  subst e8 e9 e10 e11 e12 e13 e1 e2
  rw [if_pos (by simp [hall])] at hX hY
  replace hpq : py ≠ px := by rintro rfl; exact hpq rfl
  clear m0 m1 f8 f9 f10 f11 f12 f13 g0 g1 hall hI I
  dsimp only
  have hRl := hR.out.lt
  have hHz := Lib.hid (hH.out.below hb)
  have hRz := Lib.hid (hR.out.below hb)
  have hbz := xtrans hbw.out hb
  replace hX := Lib.hid hX
  replace hY := Lib.hid hY
  clear hH hB hR hbw hLA hLB hpq
  have hXl := hX.out.lt
  have hYl := hY.out.lt
  have hpo1 : px ≠ w.heap.size + 1 + 1 := by have := hRl; omega
  have hpo2 : py ≠ w.heap.size + 1 + 1 := by have := hRl; omega
  have hpo3 : w.heap.size ≠ w.heap.size + 1 + 1 := by omega
  clear hpx hpy hXl hYl hb hRl
  go_wp2
  go_loopw [14] (fun iv wx => ∃ i : Nat, i ≤ 5 ∧ iv = .int .i64 i ∧ Hid (Blk .u32 wx w.heap.size 29 lh) ∧ Hid (Blk .u32 wx px 54 LA) ∧ Hid (Blk .u32 wx py 54 LB) ∧ Hid (Blk .u32 wx (w.heap.size + 1 + 1) 29 (fillL 5 (fun i => iv32 (mixR h b i)) i)) ∧ Below w.heap.size w wx) (fun iv _ => 5 - (intOf iv).toNat)
  case atStart => exact ⟨0, by omega, rfl, hHz, hX, hY, by rw [fillL_zero]; exact hRz, hbz⟩
  case round =>
    clear hHz hX hY hRz hbz
    obtain ⟨i, hi, rfl, hH, hX, hY, hO, hb⟩ := hrel
    by_cases hlt : i < 5
    · have hlt2 : (i : Int) < 5 := by omega
      obtain ⟨j1, hj1⟩ : ∃ j, j = (i + 1) % 5 := ⟨_, rfl⟩
      obtain ⟨j2, hj2⟩ : ∃ j, j = (i + 2) % 5 := ⟨_, rfl⟩
      obtain ⟨j3, hj3⟩ : ∃ j, j = (i + 3) % 5 := ⟨_, rfl⟩
      have k1 : ((i : Int) + 1).tmod 5 = (j1 : Int) := by rw [Int.tmod_eq_emod_of_nonneg (by omega)]; omega
      have m1 : IntKind.i64.wrap ((i : Int) + 1) = (i : Int) + 1 := by rw [IntKind.wrap_i64]; omega
      have k2 : ((i : Int) + 2).tmod 5 = (j2 : Int) := by rw [Int.tmod_eq_emod_of_nonneg (by omega)]; omega
      have m2 : IntKind.i64.wrap ((i : Int) + 2) = (i : Int) + 2 := by rw [IntKind.wrap_i64]; omega
      have k3 : ((i : Int) + 3).tmod 5 = (j3 : Int) := by rw [Int.tmod_eq_emod_of_nonneg (by omega)]; omega
      have m3 : IntKind.i64.wrap ((i : Int) + 3) = (i : Int) + 3 := by rw [IntKind.wrap_i64]; omega
      have l1 : j1 < 5 := by omega
      have l2 : j2 < 5 := by omega
      have l3 : j3 < 5 := by omega
      have l1' : (j1 : Int) < 5 := by omega
      have l2' : (j2 : Int) < 5 := by omega
      have l3' : (j3 : Int) < 5 := by omega
      have c1 := hH.out.cell j1 (by rw [nh.out]; exact l1)
      have c2 := hX.out.cell j2 (by rw [nA.out]; exact l2)
      have c3 := hY.out.cell j3 (by rw [nB.out]; exact l3)
      have g1 : lh[j1]'(by rw [nh.out]; exact l1) = iv32 (h j1) := by have := hlh.out; subst this; exact rowI_get _ _ _ _
      have g2 : LA[j2]'(by rw [nA.out]; exact l2) = iv32 (lineF false b h j2) := by have := hla.out; subst this; exact rowI_get _ _ _ _
      have g3 : LB[j3]'(by rw [nB.out]; exact l3) = iv32 (lineF true b h j3) := by have := hlb2.out; subst this; exact rowI_get _ _ _ _
      rw [g1] at c1
      rw [g2] at c2
      rw [g3] at c3
      have hv : Hid (mixR h b i = add32 (add32 (h j1) (lineF false b h j2)) (lineF true b h j3)) := Lib.hid (by unfold mixR; rw [← hj1, ← hj2, ← hj3])
      clear g1 g2 g3
      generalize h j1 = x1 at c1 hv
      generalize lineF false b h j2 = x2 at c2 hv
      generalize lineF true b h j3 = x3 at c3 hv
      have co := hO.out.cell i (by rw [fillL_len]; exact hlt)
      have fo := hO.out.frozen i
      replace c1 := Lib.hid c1
      replace c2 := Lib.hid c2
      replace c3 := Lib.hid c3
      replace co := Lib.hid co
      replace fo := Lib.hid fo
      replace hj1 := Lib.hid hj1
      replace hj2 := Lib.hid hj2
      replace hj3 := Lib.hid hj3
      go_upto_region 5 with fail
      refine wp_region_growL 19 [fixd (.int .i64 i), fixd (.int .i64 i), fixd (.int .i64 (i + 1)), fixd (.int .i64 j1), fixd (.pointer (some ⟨w.heap.size, j1, none⟩)), fixd (.int .u32 (iv32 (x1))), fixd (.int .i64 i), fixd (.int .i64 (i + 2)), fixd (.int .i64 j2), fixd (.pointer (some ⟨px, j2, none⟩)), fixd (.int .u32 (iv32 (x2))), fixd (.int .u32 (iv32 (add32 x1 x2))), fixd (.int .i64 i), fixd (.int .i64 (i + 3)), fixd (.int .i64 j3), fixd (.pointer (some ⟨py, j3, none⟩)), fixd (.int .u32 (iv32 (x3))), fixd (.int .u32 (iv32 (add32 (add32 x1 x2) x3))), fixd (.pointer (some ⟨w.heap.size + 1 + 1, i, none⟩))] (by kernel_rfl) (by kernel_rfl) ?_
      simp only [List.take_succ_cons, List.take_zero, List.drop_succ_cons, List.drop_zero]
      try simp only [Act.put, List.setIfInBounds_toArray, List.set_cons_succ, List.set_cons_zero, List.nil_append, List.cons_append]
      refine wpGrowV_fix _ rfl rfl (fun W hb _ => by go_simp; first | exact xrefl W | exact ⟨rfl, xrefl W⟩) ?_
      try simp only [Act.put, List.setIfInBounds_toArray, List.set_cons_succ, List.set_cons_zero, List.nil_append, List.cons_append]
      refine wpGrowV_fix _ rfl rfl (fun W hb _ => by go_simp; first | exact xrefl W | exact ⟨rfl, xrefl W⟩) ?_
      try simp only [Act.put, List.setIfInBounds_toArray, List.set_cons_succ, List.set_cons_zero, List.nil_append, List.cons_append]
      refine wpGrowV_fix _ rfl rfl (fun W hb _ => by go_simp; first | exact xrefl W | exact ⟨rfl, xrefl W⟩) ?_
      try simp only [Act.put, List.setIfInBounds_toArray, List.set_cons_succ, List.set_cons_zero, List.nil_append, List.cons_append]
      refine wpGrowV_fix _ rfl rfl (fun W hb _ => by go_simp; first | exact xrefl W | exact ⟨rfl, xrefl W⟩) ?_
      try simp only [Act.put, List.setIfInBounds_toArray, List.set_cons_succ, List.set_cons_zero, List.nil_append, List.cons_append]
      refine wpGrowV_fix _ rfl rfl (fun W hb _ => by go_simp; first | exact xrefl W | exact ⟨rfl, xrefl W⟩) ?_
      try simp only [Act.put, List.setIfInBounds_toArray, List.set_cons_succ, List.set_cons_zero, List.nil_append, List.cons_append]
      refine wpGrowV_fix _ rfl rfl (fun W hb _ => by have c := cbel hb c1.out; go_simp; first | exact xrefl W | exact ⟨rfl, xrefl W⟩) ?_
      try simp only [Act.put, List.setIfInBounds_toArray, List.set_cons_succ, List.set_cons_zero, List.nil_append, List.cons_append]
      refine wpGrowV_fix _ rfl rfl (fun W hb _ => by go_simp; first | exact xrefl W | exact ⟨rfl, xrefl W⟩) ?_
      try simp only [Act.put, List.setIfInBounds_toArray, List.set_cons_succ, List.set_cons_zero, List.nil_append, List.cons_append]
      refine wpGrowV_fix _ rfl rfl (fun W hb _ => by go_simp; first | exact xrefl W | exact ⟨rfl, xrefl W⟩) ?_
      try simp only [Act.put, List.setIfInBounds_toArray, List.set_cons_succ, List.set_cons_zero, List.nil_append, List.cons_append]
      refine wpGrowV_fix _ rfl rfl (fun W hb _ => by go_simp; first | exact xrefl W | exact ⟨rfl, xrefl W⟩) ?_
      try simp only [Act.put, List.setIfInBounds_toArray, List.set_cons_succ, List.set_cons_zero, List.nil_append, List.cons_append]
      refine wpGrowV_fix _ rfl rfl (fun W hb _ => by go_simp; first | exact xrefl W | exact ⟨rfl, xrefl W⟩) ?_
      try simp only [Act.put, List.setIfInBounds_toArray, List.set_cons_succ, List.set_cons_zero, List.nil_append, List.cons_append]
      refine wpGrowV_fix _ rfl rfl (fun W hb _ => by have c := cbel hb c2.out; go_simp; first | exact xrefl W | exact ⟨rfl, xrefl W⟩) ?_
      try simp only [Act.put, List.setIfInBounds_toArray, List.set_cons_succ, List.set_cons_zero, List.nil_append, List.cons_append]
      refine wpGrowV_fix _ rfl rfl (fun W hb _ => by go_simp; first | exact xrefl W | exact ⟨rfl, xrefl W⟩) ?_
      try simp only [Act.put, List.setIfInBounds_toArray, List.set_cons_succ, List.set_cons_zero, List.nil_append, List.cons_append]
      refine wpGrowV_fix _ rfl rfl (fun W hb _ => by go_simp; first | exact xrefl W | exact ⟨rfl, xrefl W⟩) ?_
      try simp only [Act.put, List.setIfInBounds_toArray, List.set_cons_succ, List.set_cons_zero, List.nil_append, List.cons_append]
      refine wpGrowV_fix _ rfl rfl (fun W hb _ => by go_simp; first | exact xrefl W | exact ⟨rfl, xrefl W⟩) ?_
      try simp only [Act.put, List.setIfInBounds_toArray, List.set_cons_succ, List.set_cons_zero, List.nil_append, List.cons_append]
      refine wpGrowV_fix _ rfl rfl (fun W hb _ => by go_simp; first | exact xrefl W | exact ⟨rfl, xrefl W⟩) ?_
      try simp only [Act.put, List.setIfInBounds_toArray, List.set_cons_succ, List.set_cons_zero, List.nil_append, List.cons_append]
      refine wpGrowV_fix _ rfl rfl (fun W hb _ => by go_simp; first | exact xrefl W | exact ⟨rfl, xrefl W⟩) ?_
      try simp only [Act.put, List.setIfInBounds_toArray, List.set_cons_succ, List.set_cons_zero, List.nil_append, List.cons_append]
      refine wpGrowV_fix _ rfl rfl (fun W hb _ => by have c := cbel hb c3.out; go_simp; first | exact xrefl W | exact ⟨rfl, xrefl W⟩) ?_
      try simp only [Act.put, List.setIfInBounds_toArray, List.set_cons_succ, List.set_cons_zero, List.nil_append, List.cons_append]
      refine wpGrowV_fix _ rfl rfl (fun W hb _ => by go_simp; first | exact xrefl W | exact ⟨rfl, xrefl W⟩) ?_
      try simp only [Act.put, List.setIfInBounds_toArray, List.set_cons_succ, List.set_cons_zero, List.nil_append, List.cons_append]
      refine wpGrowV_fix _ rfl rfl (fun W hb _ => by go_simp; first | exact xrefl W | exact ⟨rfl, xrefl W⟩) ?_
      try simp only [Act.put, List.setIfInBounds_toArray, List.set_cons_succ, List.set_cons_zero, List.nil_append, List.cons_append]
      refine wpGrowV_nil fun Wa hba _ => ?_
      have co' := cbel hba co.out
      have fo' := fbel hba co.out fo.out
      have hOa := hO.out.below hba
      have hset := hOa.set i (iv32 (add32 (add32 x1 x2) x3))
      rw [← hv.out, fillL_succ 5 (fun i => iv32 (mixR h b i)) i, hv.out] at hset
      replace hset := Lib.hid hset
      have e1 := Lib.hid ((hH.out.below hba).oth (c := w.heap.size + 1 + 1) (i := i) (.int .u32 (iv32 (add32 (add32 x1 x2) x3))) hpo3)
      have e2 := Lib.hid ((hX.out.below hba).oth (c := w.heap.size + 1 + 1) (i := i) (.int .u32 (iv32 (add32 (add32 x1 x2) x3))) hpo1)
      have e3 := Lib.hid ((hY.out.below hba).oth (c := w.heap.size + 1 + 1) (i := i) (.int .u32 (iv32 (add32 (add32 x1 x2) x3))) hpo2)
      have e5 := xsetb (xtrans hb hba) (c := w.heap.size + 1 + 1) (i := i) (by omega) (.int .u32 (iv32 (add32 (add32 x1 x2) x3)))
      replace e5 := Lib.hid e5
      clear hOa hH hX hY hO hb c1 c2 c3 co fo k1 k2 k3 m1 m2 m3
      go_wp2
      exact ⟨⟨i + 1, by omega, rfl, e1, e2, e3, hset, e5.out⟩, by simp [intOf]; omega⟩
    · obtain rfl : i = 5 := by omega
      clear hlt
      have hO' := hO.out
      rw [fillL_all _ _ _ (by omega), show allL 5 (fun i => iv32 (mixR h b i)) = rowI 5 (mixR h b) from rfl] at hO'
      have hLl : (rowI 5 (mixR h b)).length = 5 := rowI_len _ _
      generalize hLF : rowI 5 (mixR h b) = LF at hO' hLl
      replace hLF := Lib.hid hLF
      have hinf : (Try.prog.info? 29).map (·.size) = some LF.length := by rw [hLl]; kernel_rfl
      replace hinf := Lib.hid hinf
      replace hO' := Lib.hid hO'
      go_wp2_with (first
        | (refine wpList_load_blk rfl 29 _ rfl (w.heap.size + 1 + 1) rfl .u32 29 LF _ _ hO'.out Try.underlying29 hinf.out ?_)
        | (refine wpList_store_blk rfl 29 _ _ rfl (w.heap.size + 1 + 1) rfl .u32 29 LF LF hO'.out rfl rfl hinf.out ?_; intro w7 h7 ho7))
      refine ret_blk rfl (w.heap.size + 1 + 1) .u32 29 LF _ _ rfl h7 Try.underlying29 hinf.out rfl ⟨by rw [hLF.out], ?_⟩
      exact ho7.below hb hb.size (by rintro i rfl; omega)
end Go.Proofs.Ytfafancacfjodaa
