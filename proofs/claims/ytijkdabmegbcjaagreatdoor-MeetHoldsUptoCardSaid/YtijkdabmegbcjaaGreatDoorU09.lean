/- Texts of this claim, merged; no condition. -/
import Derived.Test.YtijkdabmegbcjaaGreatDoorU07
import Derived.Test.YtijkdabmegbcjaaGreatDoorU08
set_option linter.all false
namespace Go.Proofs.YtijkdabmegbcjaaGreatDoor
open Go.RowKit

set_option maxRecDepth 100000 in
set_option maxHeartbeats 2000000 in
theorem refInfo_row1 (z : Int) (w : World) (hz : z < 96 ∨ 164 < z) (m1 m2 m3 : List UInt8) (i1 o1 g1 i2 o2 g2 i3 o3 g3 s1 s2 s3 : Nat) (q1 q2 q3 : Bool)
    (h1 : ∀ W, Calls Tryz.prog 103 #[.int .u8 z] W fun e w' => e = .returned (infoV ⟨m1, i1, o1, g1, q1, s1⟩) ∧ Below W.heap.size W w')
    (h2 : ∀ W, Calls Tryz.prog 104 #[.int .u8 z] W fun e w' => e = .returned (infoV ⟨m2, i2, o2, g2, q2, s2⟩) ∧ Below W.heap.size W w')
    (h3 : ∀ W, Calls Tryz.prog 105 #[.int .u8 z] W fun e w' => e = .returned (infoV ⟨m3, i3, o3, g3, q3, s3⟩) ∧ Below W.heap.size W w')
    (n1 : m1 ≠ []) : Calls Tryz.prog 70 #[.int .u8 z] w fun e w' => e = .returned (infoV ⟨m1, i1, o1, g1, q1, s1⟩) ∧ Below w.heap.size w w' := by
  have hB0 : Hid (BlkG (w.alloc (.cells noV.toArray 113)) w.heap.size 113 noV) := Lib.hid (BlkG.new w _ _)
  have hb0 : Hid (Below w.heap.size w (w.alloc (.cells noV.toArray 113))) := Lib.hid (xalloc (xrefl w) _)
  obtain ⟨fs, hu⟩ := struct_info
  unfold infoV at h1 h2 h3
  have p1 : m1.isEmpty = false := by cases m1 with | nil => exact absurd rfl n1 | cons a l => rfl
  replace h1 := Lib.hid h1
  replace h2 := Lib.hid h2
  replace h3 := Lib.hid h3
  rcases hz with hz | hz
  · have a1 : ¬ (96 : Int) ≤ z := by omega
    have a2 : ¬ (128 : Int) ≤ z := by omega
    have a3 : ¬ (144 : Int) ≤ z := by omega
    have a4 : ¬ (160 : Int) ≤ z := by omega
    clear hz
    go_enter Tryz.func70, Tryz.ntmps70
    go_wp2_with (first
        | (go_at_call 103; refine (h1.out _).mono ?_; rintro e w1 ⟨rfl, hb1⟩; replace hB0 := Lib.hid ((hB0.out).below hb1); replace hb0 := Lib.hid (xtrans (hb0.out) hb1))
        | (refine wpList_store_blkG rfl 113 _ _ rfl w.heap.size rfl 113 noV (infL ⟨m1, i1, o1, g1, q1, s1⟩) (by first | exact hB0.out | exact hB0.out.alloc _) rfl rfl (by kernel_rfl) rfl ?_; intro w9 hB2 ho2; replace hB2 := Lib.hid hB2; replace ho2 := Lib.hid ho2))
    refine bodyPost_ret (results_blkG rfl _ _ w.heap.size 113 _ _ rfl hB2.out hu rfl (by kernel_rfl)) rfl ⟨rfl, ?_⟩
    first | exact ho2.out.below hb0.out hb0.out.size (by rintro i rfl; omega) | exact ho2.out.below (xalloc hb0.out _) (xalloc hb0.out _).size (by rintro i rfl; omega)

  · have a1 : ¬ z ≤ 127 := by omega
    have a2 : ¬ z ≤ 143 := by omega
    have a3 : ¬ z ≤ 159 := by omega
    have a4 : ¬ z ≤ 164 := by omega
    have b1 : (96 : Int) ≤ z := by omega
    have b2 : (128 : Int) ≤ z := by omega
    have b3 : (144 : Int) ≤ z := by omega
    have b4 : (160 : Int) ≤ z := by omega
    clear hz
    go_enter Tryz.func70, Tryz.ntmps70
    go_wp2_with (first
        | (go_at_call 103; refine (h1.out _).mono ?_; rintro e w1 ⟨rfl, hb1⟩; replace hB0 := Lib.hid ((hB0.out).below hb1); replace hb0 := Lib.hid (xtrans (hb0.out) hb1))
        | (refine wpList_store_blkG rfl 113 _ _ rfl w.heap.size rfl 113 noV (infL ⟨m1, i1, o1, g1, q1, s1⟩) (by first | exact hB0.out | exact hB0.out.alloc _) rfl rfl (by kernel_rfl) rfl ?_; intro w9 hB2 ho2; replace hB2 := Lib.hid hB2; replace ho2 := Lib.hid ho2))
    refine bodyPost_ret (results_blkG rfl _ _ w.heap.size 113 _ _ rfl hB2.out hu rfl (by kernel_rfl)) rfl ⟨rfl, ?_⟩
    first | exact ho2.out.below hb0.out hb0.out.size (by rintro i rfl; omega) | exact ho2.out.below (xalloc hb0.out _) (xalloc hb0.out _).size (by rintro i rfl; omega)

set_option maxRecDepth 100000 in
set_option maxHeartbeats 2000000 in
theorem refInfo_row2 (z : Int) (w : World) (hz : z < 96 ∨ 164 < z) (m1 m2 m3 : List UInt8) (i1 o1 g1 i2 o2 g2 i3 o3 g3 s1 s2 s3 : Nat) (q1 q2 q3 : Bool)
    (h1 : ∀ W, Calls Tryz.prog 103 #[.int .u8 z] W fun e w' => e = .returned (infoV ⟨m1, i1, o1, g1, q1, s1⟩) ∧ Below W.heap.size W w')
    (h2 : ∀ W, Calls Tryz.prog 104 #[.int .u8 z] W fun e w' => e = .returned (infoV ⟨m2, i2, o2, g2, q2, s2⟩) ∧ Below W.heap.size W w')
    (h3 : ∀ W, Calls Tryz.prog 105 #[.int .u8 z] W fun e w' => e = .returned (infoV ⟨m3, i3, o3, g3, q3, s3⟩) ∧ Below W.heap.size W w')
    (n1 : m1 = []) (n2 : m2 ≠ []) : Calls Tryz.prog 70 #[.int .u8 z] w fun e w' => e = .returned (infoV ⟨m2, i2, o2, g2, q2, s2⟩) ∧ Below w.heap.size w w' := by
  have hB0 : Hid (BlkG (w.alloc (.cells noV.toArray 113)) w.heap.size 113 noV) := Lib.hid (BlkG.new w _ _)
  have hb0 : Hid (Below w.heap.size w (w.alloc (.cells noV.toArray 113))) := Lib.hid (xalloc (xrefl w) _)
  obtain ⟨fs, hu⟩ := struct_info
  unfold infoV at h1 h2 h3
  subst n1
  have p2 : m2.isEmpty = false := by cases m2 with | nil => exact absurd rfl n2 | cons a l => rfl
  have p0 := bytes_eq
  replace h1 := Lib.hid h1
  replace h2 := Lib.hid h2
  replace h3 := Lib.hid h3
  rcases hz with hz | hz
  · have a1 : ¬ (96 : Int) ≤ z := by omega
    have a2 : ¬ (128 : Int) ≤ z := by omega
    have a3 : ¬ (144 : Int) ≤ z := by omega
    have a4 : ¬ (160 : Int) ≤ z := by omega
    clear hz
    go_enter Tryz.func70, Tryz.ntmps70
    go_wp2_with (first
        | (go_at_call 103; refine (h1.out _).mono ?_; rintro e w1 ⟨rfl, hb1⟩; replace hB0 := Lib.hid ((hB0.out).below hb1); replace hb0 := Lib.hid (xtrans (hb0.out) hb1))
        | (go_at_call 104; refine (h2.out _).mono ?_; rintro e w2 ⟨rfl, hb2⟩; replace hB0 := Lib.hid ((hB0.out.alloc _).below hb2); replace hb0 := Lib.hid (xtrans (xalloc hb0.out _) hb2))
        | (refine wpList_store_blkG rfl 113 _ _ rfl w.heap.size rfl 113 noV (infL ⟨m2, i2, o2, g2, q2, s2⟩) (by first | exact hB0.out | exact hB0.out.alloc _) rfl rfl (by kernel_rfl) rfl ?_; intro w9 hB2 ho2; replace hB2 := Lib.hid hB2; replace ho2 := Lib.hid ho2))
    refine bodyPost_ret (results_blkG rfl _ _ w.heap.size 113 _ _ rfl hB2.out hu rfl (by kernel_rfl)) rfl ⟨rfl, ?_⟩
    first | exact ho2.out.below hb0.out hb0.out.size (by rintro i rfl; omega) | exact ho2.out.below (xalloc hb0.out _) (xalloc hb0.out _).size (by rintro i rfl; omega)

  · have a1 : ¬ z ≤ 127 := by omega
    have a2 : ¬ z ≤ 143 := by omega
    have a3 : ¬ z ≤ 159 := by omega
    have a4 : ¬ z ≤ 164 := by omega
    have b1 : (96 : Int) ≤ z := by omega
    have b2 : (128 : Int) ≤ z := by omega
    have b3 : (144 : Int) ≤ z := by omega
    have b4 : (160 : Int) ≤ z := by omega
    clear hz
    go_enter Tryz.func70, Tryz.ntmps70
    go_wp2_with (first
        | (go_at_call 103; refine (h1.out _).mono ?_; rintro e w1 ⟨rfl, hb1⟩; replace hB0 := Lib.hid ((hB0.out).below hb1); replace hb0 := Lib.hid (xtrans (hb0.out) hb1))
        | (go_at_call 104; refine (h2.out _).mono ?_; rintro e w2 ⟨rfl, hb2⟩; replace hB0 := Lib.hid ((hB0.out.alloc _).below hb2); replace hb0 := Lib.hid (xtrans (xalloc hb0.out _) hb2))
        | (refine wpList_store_blkG rfl 113 _ _ rfl w.heap.size rfl 113 noV (infL ⟨m2, i2, o2, g2, q2, s2⟩) (by first | exact hB0.out | exact hB0.out.alloc _) rfl rfl (by kernel_rfl) rfl ?_; intro w9 hB2 ho2; replace hB2 := Lib.hid hB2; replace ho2 := Lib.hid ho2))
    refine bodyPost_ret (results_blkG rfl _ _ w.heap.size 113 _ _ rfl hB2.out hu rfl (by kernel_rfl)) rfl ⟨rfl, ?_⟩
    first | exact ho2.out.below hb0.out hb0.out.size (by rintro i rfl; omega) | exact ho2.out.below (xalloc hb0.out _) (xalloc hb0.out _).size (by rintro i rfl; omega)

set_option maxRecDepth 100000 in
set_option maxHeartbeats 2000000 in
theorem refInfo_row3 (z : Int) (w : World) (hz : z < 96 ∨ 164 < z) (m1 m2 m3 : List UInt8) (i1 o1 g1 i2 o2 g2 i3 o3 g3 s1 s2 s3 : Nat) (q1 q2 q3 : Bool)
    (h1 : ∀ W, Calls Tryz.prog 103 #[.int .u8 z] W fun e w' => e = .returned (infoV ⟨m1, i1, o1, g1, q1, s1⟩) ∧ Below W.heap.size W w')
    (h2 : ∀ W, Calls Tryz.prog 104 #[.int .u8 z] W fun e w' => e = .returned (infoV ⟨m2, i2, o2, g2, q2, s2⟩) ∧ Below W.heap.size W w')
    (h3 : ∀ W, Calls Tryz.prog 105 #[.int .u8 z] W fun e w' => e = .returned (infoV ⟨m3, i3, o3, g3, q3, s3⟩) ∧ Below W.heap.size W w')
    (n1 : m1 = []) (n2 : m2 = []) : Calls Tryz.prog 70 #[.int .u8 z] w fun e w' => e = .returned (infoV ⟨m3, i3, o3, g3, q3, s3⟩) ∧ Below w.heap.size w w' := by
  have hB0 : Hid (BlkG (w.alloc (.cells noV.toArray 113)) w.heap.size 113 noV) := Lib.hid (BlkG.new w _ _)
  have hb0 : Hid (Below w.heap.size w (w.alloc (.cells noV.toArray 113))) := Lib.hid (xalloc (xrefl w) _)
  obtain ⟨fs, hu⟩ := struct_info
  unfold infoV at h1 h2 h3
  subst n1
  subst n2
  have p0 := bytes_eq
  replace h1 := Lib.hid h1
  replace h2 := Lib.hid h2
  replace h3 := Lib.hid h3
  rcases hz with hz | hz
  · have a1 : ¬ (96 : Int) ≤ z := by omega
    have a2 : ¬ (128 : Int) ≤ z := by omega
    have a3 : ¬ (144 : Int) ≤ z := by omega
    have a4 : ¬ (160 : Int) ≤ z := by omega
    clear hz
    go_enter Tryz.func70, Tryz.ntmps70
    go_wp2_with (first
        | (go_at_call 103; refine (h1.out _).mono ?_; rintro e w1 ⟨rfl, hb1⟩; replace hB0 := Lib.hid ((hB0.out).below hb1); replace hb0 := Lib.hid (xtrans (hb0.out) hb1))
        | (go_at_call 104; refine (h2.out _).mono ?_; rintro e w2 ⟨rfl, hb2⟩; replace hB0 := Lib.hid ((hB0.out.alloc _).below hb2); replace hb0 := Lib.hid (xtrans (xalloc hb0.out _) hb2))
        | (go_at_call 105; refine (h3.out _).mono ?_; rintro e w3 ⟨rfl, hb3⟩; replace hB0 := Lib.hid ((hB0.out.alloc _).below hb3); replace hb0 := Lib.hid (xtrans (xalloc hb0.out _) hb3))
        | (refine wpList_store_blkG rfl 113 _ _ rfl w.heap.size rfl 113 noV (infL ⟨m3, i3, o3, g3, q3, s3⟩) (by first | exact hB0.out | exact hB0.out.alloc _) rfl rfl (by kernel_rfl) rfl ?_; intro w9 hB2 ho2; replace hB2 := Lib.hid hB2; replace ho2 := Lib.hid ho2))
    refine bodyPost_ret (results_blkG rfl _ _ w.heap.size 113 _ _ rfl hB2.out hu rfl (by kernel_rfl)) rfl ⟨rfl, ?_⟩
    first | exact ho2.out.below hb0.out hb0.out.size (by rintro i rfl; omega) | exact ho2.out.below (xalloc hb0.out _) (xalloc hb0.out _).size (by rintro i rfl; omega)

  · have a1 : ¬ z ≤ 127 := by omega
    have a2 : ¬ z ≤ 143 := by omega
    have a3 : ¬ z ≤ 159 := by omega
    have a4 : ¬ z ≤ 164 := by omega
    have b1 : (96 : Int) ≤ z := by omega
    have b2 : (128 : Int) ≤ z := by omega
    have b3 : (144 : Int) ≤ z := by omega
    have b4 : (160 : Int) ≤ z := by omega
    clear hz
    go_enter Tryz.func70, Tryz.ntmps70
    go_wp2_with (first
        | (go_at_call 103; refine (h1.out _).mono ?_; rintro e w1 ⟨rfl, hb1⟩; replace hB0 := Lib.hid ((hB0.out).below hb1); replace hb0 := Lib.hid (xtrans (hb0.out) hb1))
        | (go_at_call 104; refine (h2.out _).mono ?_; rintro e w2 ⟨rfl, hb2⟩; replace hB0 := Lib.hid ((hB0.out.alloc _).below hb2); replace hb0 := Lib.hid (xtrans (xalloc hb0.out _) hb2))
        | (go_at_call 105; refine (h3.out _).mono ?_; rintro e w3 ⟨rfl, hb3⟩; replace hB0 := Lib.hid ((hB0.out.alloc _).below hb3); replace hb0 := Lib.hid (xtrans (xalloc hb0.out _) hb3))
        | (refine wpList_store_blkG rfl 113 _ _ rfl w.heap.size rfl 113 noV (infL ⟨m3, i3, o3, g3, q3, s3⟩) (by first | exact hB0.out | exact hB0.out.alloc _) rfl rfl (by kernel_rfl) rfl ?_; intro w9 hB2 ho2; replace hB2 := Lib.hid hB2; replace ho2 := Lib.hid ho2))
    refine bodyPost_ret (results_blkG rfl _ _ w.heap.size 113 _ _ rfl hB2.out hu rfl (by kernel_rfl)) rfl ⟨rfl, ?_⟩
    first | exact ho2.out.below hb0.out hb0.out.size (by rintro i rfl; omega) | exact ho2.out.below (xalloc hb0.out _) (xalloc hb0.out _).size (by rintro i rfl; omega)

theorem refInfo_any (c : Nat) (w : World) (hc : c < 256) : Calls Tryz.prog 70 #[.int .u8 c] w fun e w' => e = .returned (infoV (infoN c)) ∧ Below w.heap.size w w' := by
  by_cases h : 96 ≤ c ∧ c ≤ 164
  · by_cases h1 : c ≤ 127
    · obtain ⟨n, rfl⟩ : ∃ n, c = n + 95 := ⟨c - 95, by omega⟩
      rw [fam_push (by omega) (by omega)]
      exact refInfo_push n w (by omega) (by omega)
    · by_cases h2 : c ≤ 143
      · obtain ⟨n, rfl⟩ : ∃ n, c = n + 127 := ⟨c - 127, by omega⟩
        rw [fam_dup (by omega) (by omega)]
        exact refInfo_dup n w (by omega) (by omega)
      · by_cases h3 : c ≤ 159
        · obtain ⟨n, rfl⟩ : ∃ n, c = n + 143 := ⟨c - 143, by omega⟩
          rw [fam_swap (by omega) (by omega)]
          exact refInfo_swap n w (by omega) (by omega)
        · obtain ⟨n, rfl⟩ : ∃ n, c = n + 160 := ⟨c - 160, by omega⟩
          rw [fam_log (by omega)]
          exact refInfo_log n w (by omega)
  · rw [info_ref c hc (fam_none h)]
    have h1 := fun W => refLow_any c W
    have h2 := fun W => refMiddle_any c W
    have h3 := fun W => refHigh_any c W
    have hz : (c : Int) < 96 ∨ 164 < (c : Int) := by omega
    generalize rowGet c lowRows = x1 at *
    generalize rowGet c middleRows = x2 at *
    generalize rowGet c highRows = x3 at *
    obtain ⟨m1, i1, o1, g1, q1, s1⟩ := x1
    obtain ⟨m2, i2, o2, g2, q2, s2⟩ := x2
    obtain ⟨m3, i3, o3, g3, q3, s3⟩ := x3
    by_cases n1 : m1 = []
    · rw [if_neg (by simp [n1])]
      by_cases n2 : m2 = []
      · rw [if_neg (by simp [n2])]
        exact refInfo_row3 c w hz m1 m2 m3 i1 o1 g1 i2 o2 g2 i3 o3 g3 s1 s2 s3 q1 q2 q3 h1 h2 h3 n1 n2
      · rw [if_pos n2]
        exact refInfo_row2 c w hz m1 m2 m3 i1 o1 g1 i2 o2 g2 i3 o3 g3 s1 s2 s3 q1 q2 q3 h1 h2 h3 n1 n2
    · rw [if_pos n1]
      exact refInfo_row1 c w hz m1 m2 m3 i1 o1 g1 i2 o2 g2 i3 o3 g3 s1 s2 s3 q1 q2 q3 h1 h2 h3 n1
end Go.Proofs.YtijkdabmegbcjaaGreatDoor
namespace Go.Proofs.YtijkdabmegbcjaaGreatDoor
open Go.RowKit

theorem refSize_any (c : Nat) (w : World) (hc : c < 256) : Calls Tryz.prog 70 #[.int .u8 c] w fun e w' => (∃ nm i o g q, e = .returned (.agg #[.string nm, .int .i64 i, .int .i64 o, .int .u64 g, .bool q, .int .i64 (szN c)])) ∧ Below w.heap.size w w' :=
  (refInfo_any c w hc).mono fun e w' h => ⟨⟨⟨(infoN c).name.toArray⟩, (infoN c).ins, (infoN c).outs, (infoN c).gas, (infoN c).quiet, by rw [h.1]; unfold infoV; rw [info_size c hc]⟩, h.2⟩
@[go_sem high] theorem field_size (v0 v1 v2 v3 v4 v5 : Value) (w : World) : (Instr.field 113 (.agg #[v0, v1, v2, v3, v4, v5]) 5).run Tryz.prog w = .ok v5 w := by kernel_rfl
def inN (l : List Nat) (n : Int) : Bool := l.any fun x => (x : Int) == n
theorem inN_nat (l : List Nat) (n : Nat) : inN l n = decide (n ∈ l) := by
  unfold inN
  rw [Bool.eq_iff_iff, List.any_eq_true, decide_eq_true_eq]
  constructor
  · rintro ⟨x, h1, h2⟩
    rw [beq_iff_eq, Int.ofNat_inj] at h2
    rw [← h2]; exact h1
  · intro h; exact ⟨n, h, by simp⟩
set_option maxRecDepth 100000 in
theorem refIn_any (l : List Nat) (n : Int) (a : Option Addr) (c : Nat) (w : World) (h : IntsAt w a c l) (hl : l.length ≤ 2097200) :
    Calls Tryz.prog 47 #[.slice a l.length c, .int .i64 n] w fun e w' => e = .returned (.bool (inN l n)) ∧ w = w' := by
  replace h := Lib.hid h
  have hyes : Hid (∀ k, (h : k < l.length) → (l[k] : Int) = n → inN l n = true) := Lib.hid fun k h e => by
    unfold inN; rw [List.any_eq_true]; exact ⟨_, List.getElem_mem h, by simpa using e⟩
  have hno : Hid ((∀ j, (h : j < l.length) → (l[j] : Int) ≠ n) → inN l n = false) := Lib.hid fun h => by
    unfold inN; rw [List.any_eq_false]
    intro x hx
    obtain ⟨j, hj, rfl⟩ := List.getElem_of_mem hx
    simpa using h j hj
  generalize inN l n = r at *
  go_enter Tryz.func47, Tryz.ntmps47
  go_wp2
  go_loop [5] (fun i => ∃ k : Nat, k ≤ l.length ∧ i = .int .i64 k ∧ Hid (∀ j, (h : j < l.length) → j < k → (l[j] : Int) ≠ n)) (fun i => l.length - (intOf i).toNat)
  case atStart => exact ⟨0, by omega, rfl, Lib.hid fun j _ h => by omega⟩
  case round =>
    obtain ⟨k, hk, rfl, hs⟩ := hrel
    by_cases hlt : k < l.length
    · have hlt2 : (k : Int) < l.length := by omega
      obtain ⟨b, o, rfl, hc⟩ := h.out.get hlt
      by_cases e : (l[k] : Int) = n
      · have hr := hyes.out k hlt e
        subst hr
        rw [e] at hc
        clear e
        go_wp2
        go_ret
        exact ⟨rfl, rfl⟩
      · have hs2 : Hid (∀ j, (h : j < l.length) → j < k + 1 → (l[j] : Int) ≠ n) := Lib.hid fun j h hj => by
          by_cases e2 : j = k
          · subst e2; exact e
          · exact hs.out j h (by omega)
        generalize (l[k] : Int) = y at *
        go_wp2
        exact ⟨⟨k + 1, by omega, rfl, hs2⟩, by simp [intOf]; omega⟩
    · obtain rfl : k = l.length := by omega
      have hr := hno.out fun j h => hs.out j h h
      subst hr
      clear hlt
      go_wp2
      go_ret
      exact ⟨rfl, rfl⟩
set_option maxRecDepth 100000 in
set_option maxHeartbeats 1000000 in
theorem refOps_anyL (cs : List Nat) (a : Option Addr) (c : Nat) (w : World) (h : CodeL w a c cs) :
    Calls Tryz.prog 48 #[.slice a cs.length c] w fun e w' => (∃ v, e = .returned v ∧ OwnI w w' v (opsL cs)) ∧ Below w.heap.size w w' := by
  obtain ⟨i0, hi, hz0, hz1, hz2⟩ := info_parts info_int
  have hcl := h.len
  replace h := Lib.hid h
  go_enter Tryz.func48, Tryz.ntmps48
  go_wp2
  go_loopw [3, 4] (fun v i wx => ∃ (pre : List Nat) (k : Nat), k ≤ cs.length + 33 ∧ i = .int .i64 k ∧ Hid (OwnI w wx v pre) ∧ Hid (opsL cs = pre ++ opsA cs k) ∧ Hid (Below w.heap.size w wx)) (fun _ i _ => 1048700 - (intOf i).toNat)
  case atStart => exact ⟨[], 0, by omega, rfl, Lib.hid (OwnI.nil w), Lib.hid rfl, Lib.hid (xrefl w)⟩
  case round =>
    obtain ⟨pre, k, hk, rfl, hown, hpre, hb⟩ := hrel
    by_cases hlt : k < cs.length
    · have hlt2 : (k : Int) < cs.length := by omega
      have hlt3 : ¬ (cs.length : Int) ≤ k := by omega
      obtain ⟨b, o, rfl, -, h256⟩ := h.out.get hlt
      have hcell : Hid (∀ W, Below w.heap.size w W → W.cell? ⟨b, o + k, none⟩ = some (.int .u8 (byN cs k))) := Lib.hid fun W hW => by
        obtain ⟨b', o', e, hc, -⟩ := (h.out.below hW).get hlt
        cases e; exact hc
      have hpl : pre.length ≤ 1048576 := by
        have := congrArg List.length hpre.out
        rw [List.length_append] at this
        have := opsL_len cs
        omega
      have hsb : w.heap.size ≤ (wr.alloc (.cells #[.int .i64 (k : Int)] 3)).heap.size := by rw [World.size_alloc]; have := hb.out.size; omega
      have hnx : Hid (nxN cs k = k + 1 + szN (byN cs k)) := Lib.hid rfl
      have hpre2 : Hid (opsL cs = (pre ++ [k]) ++ opsA cs (nxN cs k)) := Lib.hid (by rw [hpre.out, opsA_lt hlt]; simp)
      have hsz := szN_le (byN cs k)
      have hinf := Lib.hid fun W => refSize_any (byN cs k) W h256
      clear hpre
      generalize nxN cs k = nx at *
      generalize szN (byN cs k) = sz at *
      generalize byN cs k = x at *
      go_wp2_with (first
        | (at_builtin; refine wpList_append_row (wr.alloc (.cells #[.int .i64 (k : Int)] 3)) rfl _ _ 42 rfl w.heap.size 3 i0 (.int .i64 0) 8 Tryz.underlying42 hi hz0 hz1 hz2 rfl _ pre.length _ rfl (hown.out.alloc _) (some ⟨wr.heap.size, 0, none⟩) 1 .i64 [(k : Int)] rfl (by simp) (rowAt_one wr 3 (k : Int)) (by unfold maxLen; simp; omega) (by simp; omega) hsb ?_; intro v3 w3 ho3 hg3; have hb3 := (xalloc hb.out _).grown hg3 hsb (fun j hj => (hown.out.lt j hj).1); have hc3 := hcell.out w3 hb3; replace hb3 := Lib.hid hb3; replace ho3 := Lib.hid ho3; clear hg3)
        | (go_at_call 70; refine (hinf.out _).mono ?_; rintro e w4 ⟨⟨nm, i, o, g, q, rfl⟩, hb4⟩; replace hb4 := Lib.hid hb4))
      refine ⟨⟨pre ++ [k], nx, by have := hnx.out; omega, by have := hnx.out; simp; omega, Lib.hid ?_, hpre2, Lib.hid (xtrans hb3.out hb4.out)⟩, by have := hnx.out; simp [intOf]; omega⟩
      refine OwnI.below (l := pre ++ [k]) (w' := w3) ?_ hb4.out
      unfold OwnI
      rw [List.length_append, natI_app, List.map_append]
      exact ho3.out
    · have e : opsL cs = pre := by rw [hpre.out, opsA_ge (by omega)]; simp
      have hown2 : Hid (OwnI w wr _ (opsL cs)) := Lib.hid (by rw [e]; exact hown.out)
      have hlt3 : (cs.length : Int) ≤ k := by omega
      clear hlt hown hpre e
      go_wp2
      go_ret
      exact ⟨⟨_, rfl, hown2.out⟩, hb.out⟩
end Go.Proofs.YtijkdabmegbcjaaGreatDoor
namespace Go.Proofs.YtijkdabmegbcjaaGreatDoor
open Go.RowKit

theorem marks_step {cs : List Nat} {k : Nat} (h : k < (opsL cs).length) : ((opsL cs).take (k + 1)).filter (fun i => byN cs i == 91) = ((opsL cs).take k).filter (fun i => byN cs i == 91) ++ if byN cs (opsL cs)[k] = 91 then [(opsL cs)[k]] else [] := by
  rw [List.take_succ_eq_append_getElem h, List.filter_append]
  congr 1
  by_cases e : byN cs (opsL cs)[k] = 91
  · simp [e]
  · simp [e]
set_option maxRecDepth 100000 in
set_option maxHeartbeats 1000000 in
theorem refMarks_anyL (cs : List Nat) (a : Option Addr) (c : Nat) (w : World) (h : CodeL w a c cs) :
    Calls Tryz.prog 80 #[.slice a cs.length c] w fun e w' => (∃ v, e = .returned v ∧ OwnI w w' v (marksL cs)) ∧ Below w.heap.size w w' := by
  obtain ⟨i0, hi, hz0, hz1, hz2⟩ := info_parts info_int
  have hcl := h.len
  have hol := opsL_len cs
  have hops := Lib.hid (refOps_anyL cs a c w h)
  replace h := Lib.hid h
  go_enter Tryz.func80, Tryz.ntmps80
  go_wp2_with (go_at_call 48; refine hops.out.mono ?_; rintro e w1 ⟨⟨v, rfl, hv⟩, hb1⟩; obtain ⟨a1, c1, rfl, hI, -⟩ := hv.at; replace hI := Lib.hid hI; clear hv hops; replace hb1 := Lib.hid hb1)
  go_loopw [3, 5] (fun v i wx => ∃ (k : Nat), k ≤ (opsL cs).length ∧ i = .int .i64 k ∧ Hid (OwnI w1 wx v (((opsL cs).take k).filter fun i => byN cs i == 91)) ∧ Hid (Below w1.heap.size w1 wx)) (fun _ i _ => 1048700 - (intOf i).toNat)
  case atStart => exact ⟨0, by omega, rfl, Lib.hid (OwnI.nil w1), Lib.hid (xrefl w1)⟩
  case round =>
    obtain ⟨k, hk, rfl, hown, hb⟩ := hrel
    by_cases hlt : k < (opsL cs).length
    · have hlt2 : (k : Int) < (opsL cs).length := by omega
      obtain ⟨b1, o1, rfl, -⟩ := hI.out.get hlt
      have hcell1 : Hid (∀ W, Below w1.heap.size w1 W → W.cell? ⟨b1, o1 + k, none⟩ = some (.int .i64 ((opsL cs)[k] : Int))) := Lib.hid fun W hW => by
        obtain ⟨b', o', e, hc⟩ := (hI.out.below hW).get hlt
        cases e; exact hc
      have hx : (opsL cs)[k] < cs.length := opsL_lt (List.getElem_mem hlt)
      obtain ⟨b, o, rfl, -, h256⟩ := h.out.get hx
      have hcell : Hid (∀ W, Below w1.heap.size w1 W → W.cell? ⟨b, o + (opsL cs)[k], none⟩ = some (.int .u8 (byN cs (opsL cs)[k]))) := Lib.hid fun W hW => by
        obtain ⟨b', o', e, hc, -⟩ := ((h.out.below hb1.out).below hW).get hx
        cases e; exact hc
      have hstep := marks_step hlt
      have hlen : (((opsL cs).take k).filter fun i => byN cs i == 91).length ≤ 1048576 := by
        have := List.length_filter_le (fun i => byN cs i == 91) ((opsL cs).take k)
        rw [List.length_take] at this
        omega
      have hx2 : ((opsL cs)[k] : Int) < cs.length := by omega
      generalize hP : (((opsL cs).take k).filter fun i => byN cs i == 91) = pre at *
      replace hP := Lib.hid hP
      have c1 := hcell1.out wr hb.out
      have c2 := hcell.out wr hb.out
      have hsb : w1.heap.size ≤ (wr.alloc (.cells #[.int .i64 ((opsL cs)[k] : Int)] 3)).heap.size := by rw [World.size_alloc]; have := hb.out.size; omega
      by_cases e : byN cs (opsL cs)[k] = 91
      · rw [if_pos e] at hstep
        rw [e] at c2
        clear e hcell1 hcell h256
        replace hstep := Lib.hid hstep
        generalize (opsL cs)[k] = x at *
        go_wp2_with (at_builtin; refine wpList_append_row (wr.alloc (.cells #[.int .i64 (x : Int)] 3)) rfl _ _ 42 rfl w1.heap.size 3 i0 (.int .i64 0) 8 Tryz.underlying42 hi hz0 hz1 hz2 rfl _ pre.length _ rfl (hown.out.alloc _) (some ⟨wr.heap.size, 0, none⟩) 1 .i64 [(x : Int)] rfl (by simp) (rowAt_one wr 3 (x : Int)) (by unfold maxLen; simp; omega) (by simp; omega) hsb ?_; intro v3 w3 ho3 hg3; have hb3 := (xalloc hb.out _).grown hg3 hsb (fun j hj => (hown.out.lt j hj).1); replace hb3 := Lib.hid hb3; replace ho3 := Lib.hid ho3; clear hg3)
        refine ⟨⟨k + 1, by omega, rfl, Lib.hid ?_, hb3⟩, by simp [intOf]; omega⟩
        rw [hstep.out]
        unfold OwnI
        rw [List.length_append, natI_app, List.map_append]
        exact ho3.out
      · rw [if_neg e, List.append_nil] at hstep
        have e2 : ¬ ((byN cs (opsL cs)[k] : Nat) : Int) = 91 := by omega
        clear e hcell1 hcell
        replace hstep := Lib.hid hstep
        generalize (opsL cs)[k] = x at *
        generalize ((byN cs x : Nat) : Int) = y at *
        go_wp2
        exact ⟨⟨k + 1, by omega, rfl, by rw [hstep.out]; exact hown, hb⟩, by simp [intOf]; omega⟩
    · have e : k = (opsL cs).length := by omega
      rw [e, List.take_length] at hown
      have hlt2 : ((opsL cs).length : Int) ≤ k := by omega
      clear hlt e
      go_wp2
      go_ret
      exact ⟨⟨_, rfl, hown.out.base hb1.out.size⟩, xtrans hb1.out hb.out⟩

def smallN (N : Nat) : Nat × Bool := if N < 18446744073709551616 then (N, true) else (0, false)
theorem refSmall_any (N : Nat) (w : World) (h : N < 2 ^ 256) : Calls Tryz.prog 81 #[wordV N] w fun e w' => e = .returned (.tuple #[.int .u64 (smallN N).1, .bool (smallN N).2]) ∧ Below w.heap.size w w' := by
  have hv := val_limbs N h
  have l0 := limb_lt N 0
  unfold wordV
  unfold smallN
  by_cases z1 : limb N 1 = 0
  · by_cases z2 : limb N 2 = 0
    · by_cases z3 : limb N 3 = 0
      · have e : N = limb N 0 := by rw [z1, z2, z3] at hv; omega
        rw [if_pos (by omega), z1, z2, z3, ← e]
        clear e hv z1 z2 z3 l0
        go_enter Tryz.func81, Tryz.ntmps81
        go_wp2
        go_ret2
        exact ⟨rfl, xalloc (xrefl _) _⟩
      · rw [if_neg (by have : 1 ≤ limb N 3 := by omega
                       have : 2 ^ 192 ≤ limb N 3 * 2 ^ 192 := Nat.le_mul_of_pos_left _ this
                       omega), z1, z2]
        have z : ¬ ((limb N 3 : Nat) : Int) = 0 := by omega
        clear hv z3 l0
        generalize ((limb N 3 : Nat) : Int) = y at *
        generalize ((limb N 0 : Nat) : Int) = y0 at *
        go_enter Tryz.func81, Tryz.ntmps81
        go_wp2
        go_ret2
        exact ⟨rfl, xalloc (xrefl _) _⟩
    · rw [if_neg (by have : 1 ≤ limb N 2 := by omega
                     have : 2 ^ 128 ≤ limb N 2 * 2 ^ 128 := Nat.le_mul_of_pos_left _ this
                     omega), z1]
      have z : ¬ ((limb N 2 : Nat) : Int) = 0 := by omega
      clear hv z2 l0
      generalize ((limb N 2 : Nat) : Int) = y at *
      generalize ((limb N 0 : Nat) : Int) = y0 at *
      generalize ((limb N 3 : Nat) : Int) = y3 at *
      go_enter Tryz.func81, Tryz.ntmps81
      go_wp2
      go_ret2
      exact ⟨rfl, xalloc (xrefl _) _⟩
  · rw [if_neg (by have : 1 ≤ limb N 1 := by omega
                   have : 2 ^ 64 ≤ limb N 1 * 2 ^ 64 := Nat.le_mul_of_pos_left _ this
                   omega)]
    have z : ¬ ((limb N 1 : Nat) : Int) = 0 := by omega
    clear hv z1 l0
    generalize ((limb N 1 : Nat) : Int) = y at *
    generalize ((limb N 0 : Nat) : Int) = y0 at *
    generalize ((limb N 2 : Nat) : Int) = y2 at *
    generalize ((limb N 3 : Nat) : Int) = y3 at *
    go_enter Tryz.func81, Tryz.ntmps81
    go_wp2
    go_ret2
    exact ⟨rfl, xalloc (xrefl _) _⟩

/-! Bytes as a word. -/
theorem numN_byte : ∀ (r : List Nat) (i : Nat), (∀ x ∈ r, x < 256) → byteAt (numN r.reverse) i = r.getD i 0
  | [], i, _ => by simp [numN, byteAt]
  | b :: r, 0, h => by
    have := h b (by simp)
    rw [List.reverse_cons, numN_snoc]
    unfold byteAt
    simp
    omega
  | b :: r, i + 1, h => by
    have hb := h b (by simp)
    rw [List.reverse_cons, numN_snoc]
    have e : byteAt (numN r.reverse * 256 + b) (i + 1) = byteAt (numN r.reverse) i := by
      unfold byteAt
      rw [Nat.pow_succ, Nat.mul_comm (256 ^ i), ← Nat.div_div_eq_div_mul]
      congr 2
      omega
    rw [e, numN_byte r i fun x hx => h x (by simp [hx])]
    simp
/-- The bytes read so far, at their places. -/
def readL (l : List Nat) (k : Nat) : List Int := (List.range 32).map fun j => if 32 ≤ j + l.length ∧ j + l.length < 32 + k then ((l.getD (j + l.length - 32) 0 : Nat) : Int) else 0
theorem readL_len (l : List Nat) (k : Nat) : (readL l k).length = 32 := by simp [readL]
theorem readL_zero (l : List Nat) : readL l 0 = List.replicate 32 0 := by
  apply List.ext_getElem
  · simp [readL]
  · intro i h1 h2
    rw [List.getElem_replicate]
    simp only [readL, List.getElem_map, List.getElem_range]
    rw [if_neg (by omega)]
theorem readL_set (l : List Nat) (k : Nat) (hl : l.length ≤ 32) (hk : k < l.length) : (readL l k).set (32 - l.length + k) (l[k] : Int) = readL l (k + 1) := by
  apply List.ext_getElem
  · simp [readL]
  · intro i h1 h2
    simp [readL] at h1
    rw [List.getElem_set]
    simp only [readL, List.getElem_map, List.getElem_range]
    by_cases e : 32 - l.length + k = i
    · rw [if_pos e, if_pos (by omega)]
      rw [show i + l.length - 32 = k by omega, List.getD_eq_getElem?_getD, List.getElem?_eq_getElem hk]; rfl
    · rw [if_neg e]
      by_cases h3 : 32 ≤ i + l.length ∧ i + l.length < 32 + k
      · rw [if_pos h3, if_pos (by omega)]
      · rw [if_neg h3, if_neg (by omega)]
theorem readL_all (l : List Nat) (hl : l.length ≤ 32) (h : ∀ x ∈ l, x < 256) : readL l l.length = bytesL (numN l) := by
  apply List.ext_getElem
  · simp [readL, bytesL]
  · intro j h1 h2
    have hj : j < 32 := by simpa [readL] using h1
    have e := numN_byte l.reverse (31 - j) (by simpa using h)
    rw [List.reverse_reverse] at e
    rw [bytesL_get, e]
    simp only [readL, List.getElem_map, List.getElem_range, List.getD_eq_getElem?_getD]
    by_cases hc : 32 ≤ j + l.length
    · rw [if_pos (by omega), List.getElem?_reverse (by omega), show l.length - 1 - (31 - j) = j + l.length - 32 by omega]
    · rw [if_neg (by omega), List.getElem?_eq_none (by simp; omega)]
      rfl
end Go.Proofs.YtijkdabmegbcjaaGreatDoor
