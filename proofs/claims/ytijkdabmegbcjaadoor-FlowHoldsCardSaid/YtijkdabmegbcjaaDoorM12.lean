/- The document's Info: the ops that stand alone; all ops. The document's code: a number among some, the ops of code, its marks. The document's code: marks; words of bytes; small words. The document's code: the bytes of a PUSH, what it puts; whether a place is a mark. The document's code: what a PUSH puts, whether a place is a mark. The document's flow: does an op end, does a block end; lists of numbers: the same, with one more. The document's flow: lists with one more number; where blocks are cut; the op behind. -/
import Derived.Test.YtijkdabmegbcjaaDoorM10
import Derived.Test.YtijkdabmegbcjaaDoorM11
set_option linter.all false
namespace Go.Proofs.YtijkdabmegbcjaaDoor
open Go.RowKit

set_option maxRecDepth 100000 in
set_option maxHeartbeats 2000000 in
theorem refInfo_row1 (z : Int) (w : World) (hz : z < 96 ∨ 164 < z) (m1 m2 m3 : List UInt8) (i1 o1 g1 i2 o2 g2 i3 o3 g3 s1 s2 s3 : Nat) (q1 q2 q3 : Bool)
    (h1 : ∀ W, Calls Tryd.prog 30 #[.int .u8 z] W fun e w' => e = .returned (infoV ⟨m1, i1, o1, g1, q1, s1⟩) ∧ Below W.heap.size W w')
    (h2 : ∀ W, Calls Tryd.prog 31 #[.int .u8 z] W fun e w' => e = .returned (infoV ⟨m2, i2, o2, g2, q2, s2⟩) ∧ Below W.heap.size W w')
    (h3 : ∀ W, Calls Tryd.prog 32 #[.int .u8 z] W fun e w' => e = .returned (infoV ⟨m3, i3, o3, g3, q3, s3⟩) ∧ Below W.heap.size W w')
    (n1 : m1 ≠ []) : Calls Tryd.prog 16 #[.int .u8 z] w fun e w' => e = .returned (infoV ⟨m1, i1, o1, g1, q1, s1⟩) ∧ Below w.heap.size w w' := by
  have hB0 : Hid (BlkG (w.alloc (.cells noV.toArray 54)) w.heap.size 54 noV) := Lib.hid (BlkG.new w _ _)
  have hb0 : Hid (Below w.heap.size w (w.alloc (.cells noV.toArray 54))) := Lib.hid (xalloc (xrefl w) _)
  obtain ⟨fs, hu⟩ := struct_info
  unfold infoV at h1 h2 h3
  have p1 : m1.isEmpty = false := by cases m1 with | nil => exact absurd rfl n1 | cons a l => rfl
  replace h1 := Lib.hid h1
  replace h2 := Lib.hid h2
  replace h3 := Lib.hid h3
  rcases hz with hz | hz
  · have a1 : ¬ (96 : Int) ≤ z := by omega
    have a2 : ¬ (128 : Int) ≤ z := by omega
    have a3 : ¬ (144 : Int) ≤ z := by omega
    have a4 : ¬ (160 : Int) ≤ z := by omega
    clear hz
    go_enter Tryd.func16, Tryd.ntmps16
    go_wp2_with (first
        | (go_at_call 30; refine (h1.out _).mono ?_; rintro e w1 ⟨rfl, hb1⟩; replace hB0 := Lib.hid ((hB0.out).below hb1); replace hb0 := Lib.hid (xtrans (hb0.out) hb1))
        | (refine wpList_store_blkG rfl 54 _ _ rfl w.heap.size rfl 54 noV (infL ⟨m1, i1, o1, g1, q1, s1⟩) (by first | exact hB0.out | exact hB0.out.alloc _) rfl rfl (by kernel_rfl) rfl ?_; intro w9 hB2 ho2; replace hB2 := Lib.hid hB2; replace ho2 := Lib.hid ho2))
    refine bodyPost_ret (results_blkG rfl _ _ w.heap.size 54 _ _ rfl hB2.out hu rfl (by kernel_rfl)) rfl ⟨rfl, ?_⟩
    first | exact ho2.out.below hb0.out hb0.out.size (by rintro i rfl; omega) | exact ho2.out.below (xalloc hb0.out _) (xalloc hb0.out _).size (by rintro i rfl; omega)

  · have a1 : ¬ z ≤ 127 := by omega
    have a2 : ¬ z ≤ 143 := by omega
    have a3 : ¬ z ≤ 159 := by omega
    have a4 : ¬ z ≤ 164 := by omega
    have b1 : (96 : Int) ≤ z := by omega
    have b2 : (128 : Int) ≤ z := by omega
    have b3 : (144 : Int) ≤ z := by omega
    have b4 : (160 : Int) ≤ z := by omega
    clear hz
    go_enter Tryd.func16, Tryd.ntmps16
    go_wp2_with (first
        | (go_at_call 30; refine (h1.out _).mono ?_; rintro e w1 ⟨rfl, hb1⟩; replace hB0 := Lib.hid ((hB0.out).below hb1); replace hb0 := Lib.hid (xtrans (hb0.out) hb1))
        | (refine wpList_store_blkG rfl 54 _ _ rfl w.heap.size rfl 54 noV (infL ⟨m1, i1, o1, g1, q1, s1⟩) (by first | exact hB0.out | exact hB0.out.alloc _) rfl rfl (by kernel_rfl) rfl ?_; intro w9 hB2 ho2; replace hB2 := Lib.hid hB2; replace ho2 := Lib.hid ho2))
    refine bodyPost_ret (results_blkG rfl _ _ w.heap.size 54 _ _ rfl hB2.out hu rfl (by kernel_rfl)) rfl ⟨rfl, ?_⟩
    first | exact ho2.out.below hb0.out hb0.out.size (by rintro i rfl; omega) | exact ho2.out.below (xalloc hb0.out _) (xalloc hb0.out _).size (by rintro i rfl; omega)

set_option maxRecDepth 100000 in
set_option maxHeartbeats 2000000 in
theorem refInfo_row2 (z : Int) (w : World) (hz : z < 96 ∨ 164 < z) (m1 m2 m3 : List UInt8) (i1 o1 g1 i2 o2 g2 i3 o3 g3 s1 s2 s3 : Nat) (q1 q2 q3 : Bool)
    (h1 : ∀ W, Calls Tryd.prog 30 #[.int .u8 z] W fun e w' => e = .returned (infoV ⟨m1, i1, o1, g1, q1, s1⟩) ∧ Below W.heap.size W w')
    (h2 : ∀ W, Calls Tryd.prog 31 #[.int .u8 z] W fun e w' => e = .returned (infoV ⟨m2, i2, o2, g2, q2, s2⟩) ∧ Below W.heap.size W w')
    (h3 : ∀ W, Calls Tryd.prog 32 #[.int .u8 z] W fun e w' => e = .returned (infoV ⟨m3, i3, o3, g3, q3, s3⟩) ∧ Below W.heap.size W w')
    (n1 : m1 = []) (n2 : m2 ≠ []) : Calls Tryd.prog 16 #[.int .u8 z] w fun e w' => e = .returned (infoV ⟨m2, i2, o2, g2, q2, s2⟩) ∧ Below w.heap.size w w' := by
  have hB0 : Hid (BlkG (w.alloc (.cells noV.toArray 54)) w.heap.size 54 noV) := Lib.hid (BlkG.new w _ _)
  have hb0 : Hid (Below w.heap.size w (w.alloc (.cells noV.toArray 54))) := Lib.hid (xalloc (xrefl w) _)
  obtain ⟨fs, hu⟩ := struct_info
  unfold infoV at h1 h2 h3
  subst n1
  have p2 : m2.isEmpty = false := by cases m2 with | nil => exact absurd rfl n2 | cons a l => rfl
  have p0 := bytes_eq
  replace h1 := Lib.hid h1
  replace h2 := Lib.hid h2
  replace h3 := Lib.hid h3
  rcases hz with hz | hz
  · have a1 : ¬ (96 : Int) ≤ z := by omega
    have a2 : ¬ (128 : Int) ≤ z := by omega
    have a3 : ¬ (144 : Int) ≤ z := by omega
    have a4 : ¬ (160 : Int) ≤ z := by omega
    clear hz
    go_enter Tryd.func16, Tryd.ntmps16
    go_wp2_with (first
        | (go_at_call 30; refine (h1.out _).mono ?_; rintro e w1 ⟨rfl, hb1⟩; replace hB0 := Lib.hid ((hB0.out).below hb1); replace hb0 := Lib.hid (xtrans (hb0.out) hb1))
        | (go_at_call 31; refine (h2.out _).mono ?_; rintro e w2 ⟨rfl, hb2⟩; replace hB0 := Lib.hid ((hB0.out.alloc _).below hb2); replace hb0 := Lib.hid (xtrans (xalloc hb0.out _) hb2))
        | (refine wpList_store_blkG rfl 54 _ _ rfl w.heap.size rfl 54 noV (infL ⟨m2, i2, o2, g2, q2, s2⟩) (by first | exact hB0.out | exact hB0.out.alloc _) rfl rfl (by kernel_rfl) rfl ?_; intro w9 hB2 ho2; replace hB2 := Lib.hid hB2; replace ho2 := Lib.hid ho2))
    refine bodyPost_ret (results_blkG rfl _ _ w.heap.size 54 _ _ rfl hB2.out hu rfl (by kernel_rfl)) rfl ⟨rfl, ?_⟩
    first | exact ho2.out.below hb0.out hb0.out.size (by rintro i rfl; omega) | exact ho2.out.below (xalloc hb0.out _) (xalloc hb0.out _).size (by rintro i rfl; omega)

  · have a1 : ¬ z ≤ 127 := by omega
    have a2 : ¬ z ≤ 143 := by omega
    have a3 : ¬ z ≤ 159 := by omega
    have a4 : ¬ z ≤ 164 := by omega
    have b1 : (96 : Int) ≤ z := by omega
    have b2 : (128 : Int) ≤ z := by omega
    have b3 : (144 : Int) ≤ z := by omega
    have b4 : (160 : Int) ≤ z := by omega
    clear hz
    go_enter Tryd.func16, Tryd.ntmps16
    go_wp2_with (first
        | (go_at_call 30; refine (h1.out _).mono ?_; rintro e w1 ⟨rfl, hb1⟩; replace hB0 := Lib.hid ((hB0.out).below hb1); replace hb0 := Lib.hid (xtrans (hb0.out) hb1))
        | (go_at_call 31; refine (h2.out _).mono ?_; rintro e w2 ⟨rfl, hb2⟩; replace hB0 := Lib.hid ((hB0.out.alloc _).below hb2); replace hb0 := Lib.hid (xtrans (xalloc hb0.out _) hb2))
        | (refine wpList_store_blkG rfl 54 _ _ rfl w.heap.size rfl 54 noV (infL ⟨m2, i2, o2, g2, q2, s2⟩) (by first | exact hB0.out | exact hB0.out.alloc _) rfl rfl (by kernel_rfl) rfl ?_; intro w9 hB2 ho2; replace hB2 := Lib.hid hB2; replace ho2 := Lib.hid ho2))
    refine bodyPost_ret (results_blkG rfl _ _ w.heap.size 54 _ _ rfl hB2.out hu rfl (by kernel_rfl)) rfl ⟨rfl, ?_⟩
    first | exact ho2.out.below hb0.out hb0.out.size (by rintro i rfl; omega) | exact ho2.out.below (xalloc hb0.out _) (xalloc hb0.out _).size (by rintro i rfl; omega)

set_option maxRecDepth 100000 in
set_option maxHeartbeats 2000000 in
theorem refInfo_row3 (z : Int) (w : World) (hz : z < 96 ∨ 164 < z) (m1 m2 m3 : List UInt8) (i1 o1 g1 i2 o2 g2 i3 o3 g3 s1 s2 s3 : Nat) (q1 q2 q3 : Bool)
    (h1 : ∀ W, Calls Tryd.prog 30 #[.int .u8 z] W fun e w' => e = .returned (infoV ⟨m1, i1, o1, g1, q1, s1⟩) ∧ Below W.heap.size W w')
    (h2 : ∀ W, Calls Tryd.prog 31 #[.int .u8 z] W fun e w' => e = .returned (infoV ⟨m2, i2, o2, g2, q2, s2⟩) ∧ Below W.heap.size W w')
    (h3 : ∀ W, Calls Tryd.prog 32 #[.int .u8 z] W fun e w' => e = .returned (infoV ⟨m3, i3, o3, g3, q3, s3⟩) ∧ Below W.heap.size W w')
    (n1 : m1 = []) (n2 : m2 = []) : Calls Tryd.prog 16 #[.int .u8 z] w fun e w' => e = .returned (infoV ⟨m3, i3, o3, g3, q3, s3⟩) ∧ Below w.heap.size w w' := by
  have hB0 : Hid (BlkG (w.alloc (.cells noV.toArray 54)) w.heap.size 54 noV) := Lib.hid (BlkG.new w _ _)
  have hb0 : Hid (Below w.heap.size w (w.alloc (.cells noV.toArray 54))) := Lib.hid (xalloc (xrefl w) _)
  obtain ⟨fs, hu⟩ := struct_info
  unfold infoV at h1 h2 h3
  subst n1
  subst n2
  have p0 := bytes_eq
  replace h1 := Lib.hid h1
  replace h2 := Lib.hid h2
  replace h3 := Lib.hid h3
  rcases hz with hz | hz
  · have a1 : ¬ (96 : Int) ≤ z := by omega
    have a2 : ¬ (128 : Int) ≤ z := by omega
    have a3 : ¬ (144 : Int) ≤ z := by omega
    have a4 : ¬ (160 : Int) ≤ z := by omega
    clear hz
    go_enter Tryd.func16, Tryd.ntmps16
    go_wp2_with (first
        | (go_at_call 30; refine (h1.out _).mono ?_; rintro e w1 ⟨rfl, hb1⟩; replace hB0 := Lib.hid ((hB0.out).below hb1); replace hb0 := Lib.hid (xtrans (hb0.out) hb1))
        | (go_at_call 31; refine (h2.out _).mono ?_; rintro e w2 ⟨rfl, hb2⟩; replace hB0 := Lib.hid ((hB0.out.alloc _).below hb2); replace hb0 := Lib.hid (xtrans (xalloc hb0.out _) hb2))
        | (go_at_call 32; refine (h3.out _).mono ?_; rintro e w3 ⟨rfl, hb3⟩; replace hB0 := Lib.hid ((hB0.out.alloc _).below hb3); replace hb0 := Lib.hid (xtrans (xalloc hb0.out _) hb3))
        | (refine wpList_store_blkG rfl 54 _ _ rfl w.heap.size rfl 54 noV (infL ⟨m3, i3, o3, g3, q3, s3⟩) (by first | exact hB0.out | exact hB0.out.alloc _) rfl rfl (by kernel_rfl) rfl ?_; intro w9 hB2 ho2; replace hB2 := Lib.hid hB2; replace ho2 := Lib.hid ho2))
    refine bodyPost_ret (results_blkG rfl _ _ w.heap.size 54 _ _ rfl hB2.out hu rfl (by kernel_rfl)) rfl ⟨rfl, ?_⟩
    first | exact ho2.out.below hb0.out hb0.out.size (by rintro i rfl; omega) | exact ho2.out.below (xalloc hb0.out _) (xalloc hb0.out _).size (by rintro i rfl; omega)

  · have a1 : ¬ z ≤ 127 := by omega
    have a2 : ¬ z ≤ 143 := by omega
    have a3 : ¬ z ≤ 159 := by omega
    have a4 : ¬ z ≤ 164 := by omega
    have b1 : (96 : Int) ≤ z := by omega
    have b2 : (128 : Int) ≤ z := by omega
    have b3 : (144 : Int) ≤ z := by omega
    have b4 : (160 : Int) ≤ z := by omega
    clear hz
    go_enter Tryd.func16, Tryd.ntmps16
    go_wp2_with (first
        | (go_at_call 30; refine (h1.out _).mono ?_; rintro e w1 ⟨rfl, hb1⟩; replace hB0 := Lib.hid ((hB0.out).below hb1); replace hb0 := Lib.hid (xtrans (hb0.out) hb1))
        | (go_at_call 31; refine (h2.out _).mono ?_; rintro e w2 ⟨rfl, hb2⟩; replace hB0 := Lib.hid ((hB0.out.alloc _).below hb2); replace hb0 := Lib.hid (xtrans (xalloc hb0.out _) hb2))
        | (go_at_call 32; refine (h3.out _).mono ?_; rintro e w3 ⟨rfl, hb3⟩; replace hB0 := Lib.hid ((hB0.out.alloc _).below hb3); replace hb0 := Lib.hid (xtrans (xalloc hb0.out _) hb3))
        | (refine wpList_store_blkG rfl 54 _ _ rfl w.heap.size rfl 54 noV (infL ⟨m3, i3, o3, g3, q3, s3⟩) (by first | exact hB0.out | exact hB0.out.alloc _) rfl rfl (by kernel_rfl) rfl ?_; intro w9 hB2 ho2; replace hB2 := Lib.hid hB2; replace ho2 := Lib.hid ho2))
    refine bodyPost_ret (results_blkG rfl _ _ w.heap.size 54 _ _ rfl hB2.out hu rfl (by kernel_rfl)) rfl ⟨rfl, ?_⟩
    first | exact ho2.out.below hb0.out hb0.out.size (by rintro i rfl; omega) | exact ho2.out.below (xalloc hb0.out _) (xalloc hb0.out _).size (by rintro i rfl; omega)

theorem refInfo_any (c : Nat) (w : World) (hc : c < 256) : Calls Tryd.prog 16 #[.int .u8 c] w fun e w' => e = .returned (infoV (infoN c)) ∧ Below w.heap.size w w' := by
  by_cases h : 96 ≤ c ∧ c ≤ 164
  · by_cases h1 : c ≤ 127
    · obtain ⟨n, rfl⟩ : ∃ n, c = n + 95 := ⟨c - 95, by omega⟩
      rw [fam_push (by omega) (by omega)]
      exact refInfo_push n w (by omega) (by omega)
    · by_cases h2 : c ≤ 143
      · obtain ⟨n, rfl⟩ : ∃ n, c = n + 127 := ⟨c - 127, by omega⟩
        rw [fam_dup (by omega) (by omega)]
        exact refInfo_dup n w (by omega) (by omega)
      · by_cases h3 : c ≤ 159
        · obtain ⟨n, rfl⟩ : ∃ n, c = n + 143 := ⟨c - 143, by omega⟩
          rw [fam_swap (by omega) (by omega)]
          exact refInfo_swap n w (by omega) (by omega)
        · obtain ⟨n, rfl⟩ : ∃ n, c = n + 160 := ⟨c - 160, by omega⟩
          rw [fam_log (by omega)]
          exact refInfo_log n w (by omega)
  · rw [info_ref c hc (fam_none h)]
    have h1 := fun W => refLow_any c W
    have h2 := fun W => refMiddle_any c W
    have h3 := fun W => refHigh_any c W
    have hz : (c : Int) < 96 ∨ 164 < (c : Int) := by omega
    generalize rowGet c lowRows = x1 at *
    generalize rowGet c middleRows = x2 at *
    generalize rowGet c highRows = x3 at *
    obtain ⟨m1, i1, o1, g1, q1, s1⟩ := x1
    obtain ⟨m2, i2, o2, g2, q2, s2⟩ := x2
    obtain ⟨m3, i3, o3, g3, q3, s3⟩ := x3
    by_cases n1 : m1 = []
    · rw [if_neg (by simp [n1])]
      by_cases n2 : m2 = []
      · rw [if_neg (by simp [n2])]
        exact refInfo_row3 c w hz m1 m2 m3 i1 o1 g1 i2 o2 g2 i3 o3 g3 s1 s2 s3 q1 q2 q3 h1 h2 h3 n1 n2
      · rw [if_pos n2]
        exact refInfo_row2 c w hz m1 m2 m3 i1 o1 g1 i2 o2 g2 i3 o3 g3 s1 s2 s3 q1 q2 q3 h1 h2 h3 n1 n2
    · rw [if_pos n1]
      exact refInfo_row1 c w hz m1 m2 m3 i1 o1 g1 i2 o2 g2 i3 o3 g3 s1 s2 s3 q1 q2 q3 h1 h2 h3 n1
end Go.Proofs.YtijkdabmegbcjaaDoor
namespace Go.Proofs.YtijkdabmegbcjaaDoor
open Go.RowKit

theorem refSize_any (c : Nat) (w : World) (hc : c < 256) : Calls Tryd.prog 16 #[.int .u8 c] w fun e w' => (∃ nm i o g q, e = .returned (.agg #[.string nm, .int .i64 i, .int .i64 o, .int .u64 g, .bool q, .int .i64 (szN c)])) ∧ Below w.heap.size w w' :=
  (refInfo_any c w hc).mono fun e w' h => ⟨⟨⟨(infoN c).name.toArray⟩, (infoN c).ins, (infoN c).outs, (infoN c).gas, (infoN c).quiet, by rw [h.1]; unfold infoV; rw [info_size c hc]⟩, h.2⟩
@[go_sem high] theorem field_size (v0 v1 v2 v3 v4 v5 : Value) (w : World) : (Instr.field 54 (.agg #[v0, v1, v2, v3, v4, v5]) 5).run Tryd.prog w = .ok v5 w := by kernel_rfl
def inN (l : List Nat) (n : Int) : Bool := l.any fun x => (x : Int) == n
theorem inN_nat (l : List Nat) (n : Nat) : inN l n = decide (n ∈ l) := by
  unfold inN
  rw [Bool.eq_iff_iff, List.any_eq_true, decide_eq_true_eq]
  constructor
  · rintro ⟨x, h1, h2⟩
    rw [beq_iff_eq, Int.ofNat_inj] at h2
    rw [← h2]; exact h1
  · intro h; exact ⟨n, h, by simp⟩
theorem inN_neg {l : List Nat} {n : Int} (h : n < 0) : inN l n = false := by
  unfold inN
  rw [List.any_eq_false]
  intro x _
  simp; omega
set_option maxRecDepth 100000 in
theorem refIn_any (l : List Nat) (n : Int) (a : Option Addr) (c : Nat) (w : World) (h : IntsAt w a c l) (hl : l.length ≤ 1000) :
    Calls Tryd.prog 19 #[.slice a l.length c, .int .i64 n] w fun e w' => e = .returned (.bool (inN l n)) ∧ w = w' := by
  replace h := Lib.hid h
  have hyes : Hid (∀ k, (h : k < l.length) → (l[k] : Int) = n → inN l n = true) := Lib.hid fun k h e => by
    unfold inN; rw [List.any_eq_true]; exact ⟨_, List.getElem_mem h, by simpa using e⟩
  have hno : Hid ((∀ j, (h : j < l.length) → (l[j] : Int) ≠ n) → inN l n = false) := Lib.hid fun h => by
    unfold inN; rw [List.any_eq_false]
    intro x hx
    obtain ⟨j, hj, rfl⟩ := List.getElem_of_mem hx
    simpa using h j hj
  generalize inN l n = r at *
  go_enter Tryd.func19, Tryd.ntmps19
  go_wp2
  go_loop [5] (fun i => ∃ k : Nat, k ≤ l.length ∧ i = .int .i64 k ∧ Hid (∀ j, (h : j < l.length) → j < k → (l[j] : Int) ≠ n)) (fun i => l.length - (intOf i).toNat)
  case atStart => exact ⟨0, by omega, rfl, Lib.hid fun j _ h => by omega⟩
  case round =>
    obtain ⟨k, hk, rfl, hs⟩ := hrel
    by_cases hlt : k < l.length
    · have hlt2 : (k : Int) < l.length := by omega
      obtain ⟨b, o, rfl, hc⟩ := h.out.get hlt
      by_cases e : (l[k] : Int) = n
      · have hr := hyes.out k hlt e
        subst hr
        rw [e] at hc
        clear e
        go_wp2
        go_ret
        exact ⟨rfl, rfl⟩
      · have hs2 : Hid (∀ j, (h : j < l.length) → j < k + 1 → (l[j] : Int) ≠ n) := Lib.hid fun j h hj => by
          by_cases e2 : j = k
          · subst e2; exact e
          · exact hs.out j h (by omega)
        generalize (l[k] : Int) = y at *
        go_wp2
        exact ⟨⟨k + 1, by omega, rfl, hs2⟩, by simp [intOf]; omega⟩
    · obtain rfl : k = l.length := by omega
      have hr := hno.out fun j h => hs.out j h h
      subst hr
      clear hlt
      go_wp2
      go_ret
      exact ⟨rfl, rfl⟩
set_option maxRecDepth 100000 in
set_option maxHeartbeats 1000000 in
theorem refOps_any (cs : List Nat) (a : Option Addr) (c : Nat) (w : World) (h : CodeAt w a c cs) :
    Calls Tryd.prog 6 #[.slice a cs.length c] w fun e w' => (∃ v, e = .returned v ∧ OwnI w w' v (opsL cs)) ∧ Below w.heap.size w w' := by
  obtain ⟨i0, hi, hz0, hz1, hz2⟩ := info_parts info_int
  have hcl := h.len
  replace h := Lib.hid h
  go_enter Tryd.func6, Tryd.ntmps6
  go_wp2
  go_loopw [3, 4] (fun v i wx => ∃ (pre : List Nat) (k : Nat), k ≤ cs.length + 33 ∧ i = .int .i64 k ∧ Hid (OwnI w wx v pre) ∧ Hid (opsL cs = pre ++ opsA cs k) ∧ Hid (Below w.heap.size w wx)) (fun _ i _ => 300 - (intOf i).toNat)
  case atStart => exact ⟨[], 0, by omega, rfl, Lib.hid (OwnI.nil w), Lib.hid rfl, Lib.hid (xrefl w)⟩
  case round =>
    obtain ⟨pre, k, hk, rfl, hown, hpre, hb⟩ := hrel
    by_cases hlt : k < cs.length
    · have hlt2 : (k : Int) < cs.length := by omega
      have hlt3 : ¬ (cs.length : Int) ≤ k := by omega
      obtain ⟨b, o, rfl, -, h256⟩ := h.out.get hlt
      have hcell : Hid (∀ W, Below w.heap.size w W → W.cell? ⟨b, o + k, none⟩ = some (.int .u8 (byN cs k))) := Lib.hid fun W hW => by
        obtain ⟨b', o', e, hc, -⟩ := (h.out.below hW).get hlt
        cases e; exact hc
      have hpl : pre.length ≤ 200 := by
        have := congrArg List.length hpre.out
        rw [List.length_append] at this
        have := opsL_len cs
        omega
      have hsb : w.heap.size ≤ (wr.alloc (.cells #[.int .i64 (k : Int)] 3)).heap.size := by rw [World.size_alloc]; have := hb.out.size; omega
      have hnx : Hid (nxN cs k = k + 1 + szN (byN cs k)) := Lib.hid rfl
      have hpre2 : Hid (opsL cs = (pre ++ [k]) ++ opsA cs (nxN cs k)) := Lib.hid (by rw [hpre.out, opsA_lt hlt]; simp)
      have hsz := szN_le (byN cs k)
      have hinf := Lib.hid fun W => refSize_any (byN cs k) W h256
      clear hpre
      generalize nxN cs k = nx at *
      generalize szN (byN cs k) = sz at *
      generalize byN cs k = x at *
      go_wp2_with (first
        | (at_builtin; refine wpList_append_row (wr.alloc (.cells #[.int .i64 (k : Int)] 3)) rfl _ _ 27 rfl w.heap.size 3 i0 (.int .i64 0) 8 Tryd.underlying27 hi hz0 hz1 hz2 rfl _ pre.length _ rfl (hown.out.alloc _) (some ⟨wr.heap.size, 0, none⟩) 1 .i64 [(k : Int)] rfl (by simp) (rowAt_one wr 3 (k : Int)) (by unfold maxLen; simp; omega) (by simp; omega) hsb ?_; intro v3 w3 ho3 hg3; have hb3 := (xalloc hb.out _).grown hg3 hsb (fun j hj => (hown.out.lt j hj).1); have hc3 := hcell.out w3 hb3; replace hb3 := Lib.hid hb3; replace ho3 := Lib.hid ho3; clear hg3)
        | (go_at_call 16; refine (hinf.out _).mono ?_; rintro e w4 ⟨⟨nm, i, o, g, q, rfl⟩, hb4⟩; replace hb4 := Lib.hid hb4))
      refine ⟨⟨pre ++ [k], nx, by have := hnx.out; omega, by have := hnx.out; simp; omega, Lib.hid ?_, hpre2, Lib.hid (xtrans hb3.out hb4.out)⟩, by have := hnx.out; simp [intOf]; omega⟩
      refine OwnI.below (l := pre ++ [k]) (w' := w3) ?_ hb4.out
      unfold OwnI
      rw [List.length_append, natI_app, List.map_append]
      exact ho3.out
    · have e : opsL cs = pre := by rw [hpre.out, opsA_ge (by omega)]; simp
      have hown2 : Hid (OwnI w wr _ (opsL cs)) := Lib.hid (by rw [e]; exact hown.out)
      have hlt3 : (cs.length : Int) ≤ k := by omega
      clear hlt hown hpre e
      go_wp2
      go_ret
      exact ⟨⟨_, rfl, hown2.out⟩, hb.out⟩
end Go.Proofs.YtijkdabmegbcjaaDoor
namespace Go.Proofs.YtijkdabmegbcjaaDoor
open Go.RowKit

theorem marks_step {cs : List Nat} {k : Nat} (h : k < (opsL cs).length) : ((opsL cs).take (k + 1)).filter (fun i => byN cs i == 91) = ((opsL cs).take k).filter (fun i => byN cs i == 91) ++ if byN cs (opsL cs)[k] = 91 then [(opsL cs)[k]] else [] := by
  rw [List.take_succ_eq_append_getElem h, List.filter_append]
  congr 1
  by_cases e : byN cs (opsL cs)[k] = 91
  · simp [e]
  · simp [e]
def smallN (N : Nat) : Nat × Bool := if N < 18446744073709551616 then (N, true) else (0, false)
/-! Bytes as a word. -/
theorem numN_byte : ∀ (r : List Nat) (i : Nat), (∀ x ∈ r, x < 256) → byteAt (numN r.reverse) i = r.getD i 0
  | [], i, _ => by simp [numN, byteAt]
  | b :: r, 0, h => by
    have := h b (by simp)
    rw [List.reverse_cons, numN_snoc]
    unfold byteAt
    simp
    omega
  | b :: r, i + 1, h => by
    have hb := h b (by simp)
    rw [List.reverse_cons, numN_snoc]
    have e : byteAt (numN r.reverse * 256 + b) (i + 1) = byteAt (numN r.reverse) i := by
      unfold byteAt
      rw [Nat.pow_succ, Nat.mul_comm (256 ^ i), ← Nat.div_div_eq_div_mul]
      congr 2
      omega
    rw [e, numN_byte r i fun x hx => h x (by simp [hx])]
    simp
/-- The bytes read so far, at their places. -/
def readL (l : List Nat) (k : Nat) : List Int := (List.range 32).map fun j => if 32 ≤ j + l.length ∧ j + l.length < 32 + k then ((l.getD (j + l.length - 32) 0 : Nat) : Int) else 0
theorem readL_len (l : List Nat) (k : Nat) : (readL l k).length = 32 := by simp [readL]
theorem readL_zero (l : List Nat) : readL l 0 = List.replicate 32 0 := by
  apply List.ext_getElem
  · simp [readL]
  · intro i h1 h2
    rw [List.getElem_replicate]
    simp only [readL, List.getElem_map, List.getElem_range]
    rw [if_neg (by omega)]
theorem readL_set (l : List Nat) (k : Nat) (hl : l.length ≤ 32) (hk : k < l.length) : (readL l k).set (32 - l.length + k) (l[k] : Int) = readL l (k + 1) := by
  apply List.ext_getElem
  · simp [readL]
  · intro i h1 h2
    simp [readL] at h1
    rw [List.getElem_set]
    simp only [readL, List.getElem_map, List.getElem_range]
    by_cases e : 32 - l.length + k = i
    · rw [if_pos e, if_pos (by omega)]
      rw [show i + l.length - 32 = k by omega, List.getD_eq_getElem?_getD, List.getElem?_eq_getElem hk]; rfl
    · rw [if_neg e]
      by_cases h3 : 32 ≤ i + l.length ∧ i + l.length < 32 + k
      · rw [if_pos h3, if_pos (by omega)]
      · rw [if_neg h3, if_neg (by omega)]
theorem readL_all (l : List Nat) (hl : l.length ≤ 32) (h : ∀ x ∈ l, x < 256) : readL l l.length = bytesL (numN l) := by
  apply List.ext_getElem
  · simp [readL, bytesL]
  · intro j h1 h2
    have hj : j < 32 := by simpa [readL] using h1
    have e := numN_byte l.reverse (31 - j) (by simpa using h)
    rw [List.reverse_reverse] at e
    rw [bytesL_get, e]
    simp only [readL, List.getElem_map, List.getElem_range, List.getD_eq_getElem?_getD]
    by_cases hc : 32 ≤ j + l.length
    · rw [if_pos (by omega), List.getElem?_reverse (by omega), show l.length - 1 - (31 - j) = j + l.length - 32 by omega]
    · rw [if_neg (by omega), List.getElem?_eq_none (by simp; omega)]
      rfl
end Go.Proofs.YtijkdabmegbcjaaDoor
namespace Go.Proofs.YtijkdabmegbcjaaDoor
open Go.RowKit

theorem info_u8 : (Tryd.prog.info? 5).map (fun i => (i.zero, i.size, i.bytes)) = some (some (Value.int .u8 0), 1, 1) := by kernel_rfl
/-- The bytes behind an op, the first k laid. -/
def behL (cs : List Nat) (i k : Nat) : List Int := (List.range (szN (byN cs i))).map fun j => if j < k then ((byN cs (i + 1 + j) : Nat) : Int) else 0
theorem behL_len (cs : List Nat) (i k : Nat) : (behL cs i k).length = szN (byN cs i) := by simp [behL]
theorem behL_zero (cs : List Nat) (i : Nat) : behL cs i 0 = List.replicate (szN (byN cs i)) 0 := by
  apply List.ext_getElem
  · simp [behL]
  · intro j h1 h2
    rw [List.getElem_replicate]
    simp [behL]
theorem behL_set (cs : List Nat) (i k : Nat) (hk : k < szN (byN cs i)) : (behL cs i k).set k ((byN cs (i + 1 + k) : Nat) : Int) = behL cs i (k + 1) := by
  apply List.ext_getElem
  · simp [behL]
  · intro j h1 h2
    rw [List.getElem_set]
    simp only [behL, List.getElem_map, List.getElem_range]
    by_cases e : k = j
    · subst e; rw [if_pos rfl, if_pos (by omega)]
    · rw [if_neg e]
      by_cases h3 : j < k
      · rw [if_pos h3, if_pos (by omega)]
      · rw [if_neg h3, if_neg (by omega)]
theorem behL_out (cs : List Nat) (i k : Nat) (hk : cs.length ≤ i + 1 + k) : behL cs i (k + 1) = behL cs i k := by
  apply List.ext_getElem
  · simp [behL]
  · intro j h1 h2
    simp only [behL, List.getElem_map, List.getElem_range]
    by_cases e : j = k
    · subst e
      rw [if_pos (by omega), if_neg (by omega)]
      unfold byN
      rw [List.getD_eq_getElem?_getD, List.getElem?_eq_none (by omega)]; rfl
    · by_cases h3 : j < k
      · rw [if_pos h3, if_pos (by omega)]
      · rw [if_neg h3, if_neg (by omega)]
theorem behL_all (cs : List Nat) (i : Nat) : behL cs i (szN (byN cs i)) = natI (restN cs i) := by
  apply List.ext_getElem
  · simp [behL, natI, restN]
  · intro j h1 h2
    have : j < szN (byN cs i) := by simpa [behL] using h1
    simp [behL, natI, restN, this]
end Go.Proofs.YtijkdabmegbcjaaDoor
namespace Go.Proofs.YtijkdabmegbcjaaDoor
open Go.RowKit

theorem inN_true {l : List Nat} {n : Int} (h : inN l n = true) : ∃ k ∈ l, (k : Int) = n := by
  unfold inN at h
  rw [List.any_eq_true] at h
  obtain ⟨k, h1, h2⟩ := h
  exact ⟨k, h1, by simpa using h2⟩
/-- What a PUSH at a place puts; none. -/
def pushZ (cs : List Nat) (n : Int) : Option Nat := if inN (opsL cs) n = true then pushV cs n.toNat else none
theorem pushZ_nat (cs : List Nat) (n : Nat) : pushZ cs n = pushN cs n := by
  unfold pushZ pushN
  rw [inN_nat, Int.toNat_natCast]
  simp
theorem wrap64_small' (n : Nat) (h : n < 9223372036854775808) : wrap64 (n : Int) = n := by rw [wrap64]; omega
def optV (r : Option Nat) : Value := .tuple #[wordV (r.getD 0), .bool r.isSome]
theorem wordV_L (N : Nat) : wordV N = .agg ((wordL N).map (Value.int .u64)).toArray := rfl
theorem word0 : wordL 0 = [0, 0, 0, 0] := by decide
end Go.Proofs.YtijkdabmegbcjaaDoor
namespace Go.Proofs.YtijkdabmegbcjaaDoor
open Go.RowKit

@[go_sem high] theorem field_name (v0 v1 v2 v3 v4 v5 : Value) (w : World) : (Instr.field 54 (.agg #[v0, v1, v2, v3, v4, v5]) 0).run Tryd.prog w = .ok v0 w := by kernel_rfl
set_option maxRecDepth 100000 in
set_option maxHeartbeats 1000000 in
theorem refInts_any (l l' : List Nat) (a a' : Option Addr) (c c' : Nat) (w : World) (h : IntsAt w a c l) (h' : IntsAt w a' c' l') (hl : l.length ≤ 1000) (hl' : l'.length ≤ 1000) :
    Calls Tryd.prog 12 #[.slice a l.length c, .slice a' l'.length c'] w fun e w' => e = .returned (.bool (decide (l = l'))) ∧ ∃ k, w' = w.drewN k := by
  by_cases hn : l.length = l'.length
  · have hn2 : (l.length : Int) = (l'.length : Int) := by omega
    have hyes : Hid ((∀ j, (h : j < l.length) → l[j] = l'[j]'(by omega)) → decide (l = l') = true) := Lib.hid fun h => decide_eq_true (List.ext_getElem hn fun j h1 h2 => h j h1)
    have hno : Hid (∀ j, (h : j < l.length) → l[j] ≠ l'[j]'(by omega) → decide (l = l') = false) := Lib.hid fun j h hne => decide_eq_false (by rintro rfl; exact hne rfl)
    generalize decide (l = l') = r at *
    have hg : Hid (∀ j, (hj : j < l.length) → ∀ k, ∃ b o b' o', a = some ⟨b, o, none⟩ ∧ a' = some ⟨b', o', none⟩ ∧ (w.drewN k).cell? ⟨b, o + j, none⟩ = some (.int .i64 (l[j] : Int)) ∧ (w.drewN k).cell? ⟨b', o' + j, none⟩ = some (.int .i64 ((l'[j]'(by omega) : Nat) : Int))) := Lib.hid fun j hj k => by
      obtain ⟨b, o, e1, h1⟩ := (h.below (xdrewN (xrefl w) k)).get hj
      obtain ⟨b', o', e2, h2⟩ := (h'.below (xdrewN (xrefl w) k)).get (show j < l'.length by omega)
      exact ⟨b, o, b', o', e1, e2, h1, h2⟩
    clear h h'
    go_enter Tryd.func12, Tryd.ntmps12
    go_wp2
    go_loopw [5] (fun i wr => ∃ k m : Nat, k ≤ l.length ∧ i = .int .i64 k ∧ Hid (wr = w.drewN m) ∧ Hid (∀ j, (h : j < l.length) → j < k → l[j] = l'[j]'(by omega))) (fun i _ => l.length - (intOf i).toNat)
    case atStart => exact ⟨0, 0, by omega, rfl, Lib.hid rfl, Lib.hid fun j _ h => by omega⟩
    case round =>
      obtain ⟨k, m, hk, rfl, hw, hs⟩ := hrel
      by_cases hlt : k < l.length
      · have hlt2 : (k : Int) < l.length := by omega
        have hlt3 : (k : Int) < l'.length := by omega
        obtain ⟨b, o, b', o', rfl, rfl, c1, c2⟩ := hg.out k hlt m
        rw [← hw.out] at c1 c2
        have hn3 : Hid (∀ x : Prop, x → x) := Lib.hid fun _ h => h
        by_cases e : l[k] = l'[k]'(by omega)
        · have hs2 : Hid (∀ j, (h : j < l.length) → j < k + 1 → l[j] = l'[j]'(by omega)) := Lib.hid fun j h hj => by
            by_cases e2 : j = k
            · subst e2; exact e
            · exact hs.out j h (by omega)
          rw [← e] at c2
          generalize l[k] = y at *
          clear e
          go_wp2
          go_region
          go_wp2
          go_roundw
          case rel => exact ⟨k + 1, m + 1, by omega, rfl, Lib.hid (by rw [hw.out]; rfl), hs2⟩
          case measure => simp [intOf]; omega
        · have hr := hno.out k hlt e
          subst hr
          have e2 : ¬ (l[k] : Int) = ((l'[k]'(by omega) : Nat) : Int) := by omega
          generalize (l[k] : Int) = y at *
          generalize ((l'[k]'(by omega) : Nat) : Int) = y' at *
          clear e
          go_wp2
          go_region
          go_wp2
          go_ret
          exact ⟨rfl, m + 1, by rw [hw.out]; rfl⟩
      · obtain rfl : k = l.length := by omega
        have hr := hyes.out fun j h => hs.out j h h
        subst hr
        clear hlt
        go_wp2
        go_ret
        exact ⟨rfl, m, hw.out⟩
  · have e : decide (l = l') = false := decide_eq_false (by rintro rfl; exact hn rfl)
    rw [e]
    have hn2 : ¬ (l.length : Int) = (l'.length : Int) := by omega
    go_enter Tryd.func12, Tryd.ntmps12
    go_wp2
    go_ret
    exact ⟨rfl, 0, rfl⟩
theorem tw_take (n : Nat) (l : List Nat) : l.takeWhile (fun y => decide (y < n)) = l.take (l.takeWhile (fun y => decide (y < n))).length := by
  have h := List.takeWhile_append_dropWhile (p := fun y => decide (y < n)) (l := l)
  have e : (l.takeWhile (fun y => decide (y < n)) ++ l.dropWhile (fun y => decide (y < n))).take (l.takeWhile (fun y => decide (y < n))).length = l.takeWhile (fun y => decide (y < n)) := List.take_left
  rw [h] at e
  exact e.symm
theorem dw_drop (n : Nat) (l : List Nat) : l.dropWhile (fun y => decide (y < n)) = l.drop (l.takeWhile (fun y => decide (y < n))).length := by
  have h := List.takeWhile_append_dropWhile (p := fun y => decide (y < n)) (l := l)
  have e : (l.takeWhile (fun y => decide (y < n)) ++ l.dropWhile (fun y => decide (y < n))).drop (l.takeWhile (fun y => decide (y < n))).length = l.dropWhile (fun y => decide (y < n)) := List.drop_left
  rw [h] at e
  exact e.symm
theorem tw_facts (n : Nat) : ∀ l : List Nat, (∀ i, i < (l.takeWhile (fun y => decide (y < n))).length → ∀ h : i < l.length, l[i] < n) ∧ (∀ h : (l.takeWhile (fun y => decide (y < n))).length < l.length, n ≤ l[(l.takeWhile (fun y => decide (y < n))).length])
  | [] => by simp
  | x :: l => by
    obtain ⟨h1, h2⟩ := tw_facts n l
    by_cases e : x < n
    · have ew : (x :: l).takeWhile (fun y => decide (y < n)) = x :: l.takeWhile (fun y => decide (y < n)) := by simp [e]
      constructor
      · intro i hi h
        rw [ew] at hi
        cases i with
        | zero => exact e
        | succ i => exact h1 i (by simpa using hi) (by simpa using h)
      · intro h
        simp only [ew] at h ⊢
        simp only [List.length_cons, List.getElem_cons_succ]
        exact h2 (by simpa using h)
    · have ew : (x :: l).takeWhile (fun y => decide (y < n)) = [] := by simp [e]
      constructor
      · intro i hi; rw [ew] at hi; simp at hi
      · intro h
        simp only [ew, List.length_nil, List.getElem_cons_zero]
        omega
/-- What 'with' has built behind the number. -/
def withTo (l : List Nat) (n K i : Nat) : List Nat := l.take K ++ n :: ((l.drop K).take (i - K)).filter (fun y => y ≠ n)
theorem withTo_zero (l : List Nat) (n K : Nat) : withTo l n K K = l.take K ++ [n] := by unfold withTo; simp
theorem withTo_all (l : List Nat) (n : Nat) : withTo l n (l.takeWhile (fun y => decide (y < n))).length l.length = insW n l := by
  unfold withTo
  rw [insW_parts, ← tw_take, dw_drop]
  congr 3
  rw [List.take_of_length_le (by rw [List.length_drop]; omega)]
theorem withTo_step (l : List Nat) (n K i : Nat) (h : i < l.length) (hK : K ≤ i) : withTo l n K (i + 1) = withTo l n K i ++ if l[i] ≠ n then [l[i]] else [] := by
  unfold withTo
  have e : (l.drop K).take (i + 1 - K) = (l.drop K).take (i - K) ++ [l[i]] := by
    rw [show i + 1 - K = (i - K) + 1 by omega, List.take_succ_eq_append_getElem (by rw [List.length_drop]; omega), List.getElem_drop]
    simp only [show K + (i - K) = i by omega]
  rw [e, List.filter_append]
  by_cases e2 : l[i] = n
  · simp [e2]
  · simp [e2]
theorem withTo_len (l : List Nat) (n K i : Nat) : (withTo l n K i).length ≤ 2 * l.length + 1 := by
  unfold withTo
  have h1 := List.length_filter_le (fun y => decide (y ≠ n)) ((l.drop K).take (i - K))
  simp only [List.length_append, List.length_cons, List.length_take, List.length_drop] at h1 ⊢
  omega
end Go.Proofs.YtijkdabmegbcjaaDoor
namespace Go.Proofs.YtijkdabmegbcjaaDoor
open Go.RowKit

theorem OwnI.snoc {w w' : World} {v : Value} {l : List Nat} {x : Nat} (h : w'.ownsRow w.heap.size 3 1 v (l.length + 1) ((natI l).map (Value.int .i64) ++ [(x : Int)].map (Value.int .i64))) : OwnI w w' v (l ++ [x]) := by
  unfold OwnI
  rw [List.length_append, natI_app, List.map_append]
  exact h
/-- Does a block end with the op at x, the op at y being the next one? -/
def cutsT (cs : List Nat) (y : Option Nat) : Bool := match y with | none => true | some y => byN cs y == 91
def cutsN (cs : List Nat) (x : Nat) (y : Option Nat) : Bool := stopN (byN cs x) || cutsT cs y
def nxI (y : Option Nat) : Int := match y with | none => -1 | some y => y
end Go.Proofs.YtijkdabmegbcjaaDoor
