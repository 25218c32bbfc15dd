/- The document's words (layer 1): products. -/
import Derived.Test.YtfafancacfjodaaWordB
namespace Go.Proofs.Ytfafancacfjodaa
open Go.RowKit

theorem refMul_any (A B : Nat) (w : World) :
    Calls Try.prog 58 #[wordV A, wordV B] w fun e w' => e = .returned (wordV (A * B)) ∧ Below w.heap.size w w' := by
  unfold wordV
  go_enter Try.func58, Try.ntmps58
  go_wp2_with fail
  have hA0 : Blk .u64 (((w.alloc (Obj.cells ((wordL A).map (Value.int .u64)).toArray 90)).alloc (Obj.cells ((wordL B).map (Value.int .u64)).toArray 90)).alloc (Obj.cells #[.int .u64 0, .int .u64 0, .int .u64 0, .int .u64 0] 90)) w.heap.size 90 (wordL A) := ((Blk.new w _ (wordL A)).alloc _).alloc _
  have hB0 : Blk .u64 (((w.alloc (Obj.cells ((wordL A).map (Value.int .u64)).toArray 90)).alloc (Obj.cells ((wordL B).map (Value.int .u64)).toArray 90)).alloc (Obj.cells #[.int .u64 0, .int .u64 0, .int .u64 0, .int .u64 0] 90)) (w.heap.size + 1) 90 (wordL B) := (Blk.new' _ _ _ (wordL B) (by simp)).alloc _
  have hR0 : Blk .u64 (((w.alloc (Obj.cells ((wordL A).map (Value.int .u64)).toArray 90)).alloc (Obj.cells ((wordL B).map (Value.int .u64)).toArray 90)).alloc (Obj.cells #[.int .u64 0, .int .u64 0, .int .u64 0, .int .u64 0] 90)) (w.heap.size + 1 + 1) 90 [0, 0, 0, 0] := Blk.new' _ _ _ [0, 0, 0, 0] (by simp)
  have hb0 : Below w.heap.size w (((w.alloc (Obj.cells ((wordL A).map (Value.int .u64)).toArray 90)).alloc (Obj.cells ((wordL B).map (Value.int .u64)).toArray 90)).alloc (Obj.cells #[.int .u64 0, .int .u64 0, .int .u64 0, .int .u64 0] 90)) := xalloc (xalloc (xalloc (xrefl _) _) _) _
  obtain ⟨I, hI⟩ : ∃ I : (Nat → Bool) → Act → World → Prop, ∀ d a wr, I d a wr ↔ (∃ v5 v6 v9 v10 v11 v12 : Value, a = { tmps := #[wordV A, wordV B, ptr w.heap.size, ptr (w.heap.size + 1), ptr (w.heap.size + 1 + 1), v5, v6, undef, undef, undef, undef, v9, v10, v11, v12, undef, undef, undef, undef, undef, undef, undef, undef, undef, undef, undef, undef, undef, undef, undef, undef, undef, undef, undef, undef, undef, undef, undef, undef, undef, undef, undef, undef, undef, undef, undef, undef, undef, undef, undef, undef, undef, undef, undef, undef, undef, undef, undef], defers := [] }
    ∧ Below w.heap.size w wr ∧ Blk .u64 wr w.heap.size 90 (wordL A) ∧ Blk .u64 wr (w.heap.size + 1) 90 (wordL B) ∧ Blk .u64 wr (w.heap.size + 1 + 1) 90 [0, 0, 0, 0]
    ∧ (d 0 = true → v9 = wordV A) ∧ (d 1 = true → v10 = bytesV A) ∧ (d 2 = true → v11 = wordV B) ∧ (d 3 = true → v12 = bytesV B)
    ∧ (d 6 = true → d 4 = true) ∧ (d 7 = true → d 5 = true)
    ∧ (d 4 = true → ∃ p, v5 = ptr p ∧ w.heap.size + 1 + 1 < p ∧ Blk .u8 wr p 94 (if d 6 = true then bytesL A else zs32) ∧ (d 5 = true → v6 ≠ ptr p))
    ∧ (d 5 = true → ∃ p, v6 = ptr p ∧ w.heap.size + 1 + 1 < p ∧ Blk .u8 wr p 94 (if d 7 = true then bytesL B else zs32) ∧ (d 4 = true → v5 ≠ ptr p))) := ⟨_, fun _ _ _ => Iff.rfl⟩
  replace hI := Lib.hid hI
  refine wp_region_inv (by kernel_rfl) (by kernel_rfl) I ?_ ?_ ?_
  · exact (hI.out _ _ _).2 ⟨undef, undef, undef, undef, undef, undef, rfl, xdrew hb0, hA0.drew, hB0.drew, hR0.drew, by simp, by simp, by simp, by simp, by simp, by simp, by simp, by simp⟩
  · refine ⟨?_, ?_, ?_, ?_, ?_, ?_, ?_, ?_, trivial⟩
    · rintro d a wr hn hwt hi; obtain ⟨v5, v6, v9, v10, v11, v12, rfl, hb, hA, hB, hR, f9, f10, f11, f12, g6, g7, f5, f6⟩ := (hI.out d a wr).1 hi; clear hi; simp [waitsFor, Region.binds] at hwt hn; replace f9 := Lib.hid f9; replace f10 := Lib.hid f10; replace f11 := Lib.hid f11; replace f12 := Lib.hid f12; replace f5 := Lib.hid f5; replace f6 := Lib.hid f6; replace g6 := Lib.hid g6; replace g7 := Lib.hid g7
      refine wp_load_blk 90 _ rfl w.heap.size rfl .u64 90 (wordL A) _ _ hA Try.underlying90 (by kernel_rfl) ?_
      exact (hI.out _ _ _).2 ⟨v5, v6, wordV A, v10, v11, v12, rfl, hb, hA, hB, hR, fun _ => rfl, by simpa [also] using f10.out, by simpa [also] using f11.out, by simpa [also] using f12.out, by simpa [also] using g6.out, by simpa [also] using g7.out, by simpa [also] using f5.out, by simpa [also] using f6.out⟩
    · rintro d a wr hn hwt hi; obtain ⟨v5, v6, v9, v10, v11, v12, rfl, hb, hA, hB, hR, f9, f10, f11, f12, g6, g7, f5, f6⟩ := (hI.out d a wr).1 hi; clear hi; simp [waitsFor, Region.binds] at hwt hn; replace f9 := Lib.hid f9; replace f10 := Lib.hid f10; replace f11 := Lib.hid f11; replace f12 := Lib.hid f12; replace f5 := Lib.hid f5; replace f6 := Lib.hid f6; replace g6 := Lib.hid g6; replace g7 := Lib.hid g7
      have e1 := f9.out (by simp [hwt])
      subst e1
      go_simp
      go_at_call 60
      refine (refBytes_any _ _).mono ?_
      rintro e w' ⟨rfl, hbb⟩
      refine (hI.out _ _ _).2 ⟨v5, v6, wordV A, bytesV A, v11, v12, rfl, hb.trans (hbb.mono hb.size), hA.below hbb, hB.below hbb, hR.below hbb, fun _ => rfl, fun _ => rfl, by simpa [also] using f11.out, by simpa [also] using f12.out, by simpa [also] using g6.out, by simpa [also] using g7.out, ?_, ?_⟩
      · intro h
        obtain ⟨p, e1, e2, e3, e4⟩ := f5.out (by simpa [also] using h)
        exact ⟨p, e1, e2, by simpa [also] using e3.below hbb, by simpa [also] using e4⟩
      · intro h
        obtain ⟨p, e1, e2, e3, e4⟩ := f6.out (by simpa [also] using h)
        exact ⟨p, e1, e2, by simpa [also] using e3.below hbb, by simpa [also] using e4⟩
    · rintro d a wr hn hwt hi; obtain ⟨v5, v6, v9, v10, v11, v12, rfl, hb, hA, hB, hR, f9, f10, f11, f12, g6, g7, f5, f6⟩ := (hI.out d a wr).1 hi; clear hi; simp [waitsFor, Region.binds] at hwt hn; replace f9 := Lib.hid f9; replace f10 := Lib.hid f10; replace f11 := Lib.hid f11; replace f12 := Lib.hid f12; replace f5 := Lib.hid f5; replace f6 := Lib.hid f6; replace g6 := Lib.hid g6; replace g7 := Lib.hid g7
      refine wp_load_blk 90 _ rfl (w.heap.size + 1) rfl .u64 90 (wordL B) _ _ hB Try.underlying90 (by kernel_rfl) ?_
      exact (hI.out _ _ _).2 ⟨v5, v6, v9, v10, wordV B, v12, rfl, hb, hA, hB, hR, by simpa [also] using f9.out, by simpa [also] using f10.out, fun _ => rfl, by simpa [also] using f12.out, by simpa [also] using g6.out, by simpa [also] using g7.out, by simpa [also] using f5.out, by simpa [also] using f6.out⟩
    · rintro d a wr hn hwt hi; obtain ⟨v5, v6, v9, v10, v11, v12, rfl, hb, hA, hB, hR, f9, f10, f11, f12, g6, g7, f5, f6⟩ := (hI.out d a wr).1 hi; clear hi; simp [waitsFor, Region.binds] at hwt hn; replace f9 := Lib.hid f9; replace f10 := Lib.hid f10; replace f11 := Lib.hid f11; replace f12 := Lib.hid f12; replace f5 := Lib.hid f5; replace f6 := Lib.hid f6; replace g6 := Lib.hid g6; replace g7 := Lib.hid g7
      have e1 := f11.out (by simp [hwt])
      subst e1
      go_simp
      go_at_call 60
      refine (refBytes_any _ _).mono ?_
      rintro e w' ⟨rfl, hbb⟩
      refine (hI.out _ _ _).2 ⟨v5, v6, v9, v10, wordV B, bytesV B, rfl, hb.trans (hbb.mono hb.size), hA.below hbb, hB.below hbb, hR.below hbb, by simpa [also] using f9.out, by simpa [also] using f10.out, fun _ => rfl, fun _ => rfl, by simpa [also] using g6.out, by simpa [also] using g7.out, ?_, ?_⟩
      · intro h
        obtain ⟨p, e1, e2, e3, e4⟩ := f5.out (by simpa [also] using h)
        exact ⟨p, e1, e2, by simpa [also] using e3.below hbb, by simpa [also] using e4⟩
      · intro h
        obtain ⟨p, e1, e2, e3, e4⟩ := f6.out (by simpa [also] using h)
        exact ⟨p, e1, e2, by simpa [also] using e3.below hbb, by simpa [also] using e4⟩
    · rintro d a wr hn hwt hi; obtain ⟨v5, v6, v9, v10, v11, v12, rfl, hb, hA, hB, hR, f9, f10, f11, f12, g6, g7, f5, f6⟩ := (hI.out d a wr).1 hi; clear hi; simp [waitsFor, Region.binds] at hwt hn; replace f9 := Lib.hid f9; replace f10 := Lib.hid f10; replace f11 := Lib.hid f11; replace f12 := Lib.hid f12; replace f5 := Lib.hid f5; replace f6 := Lib.hid f6; replace g6 := Lib.hid g6; replace g7 := Lib.hid g7
      have hbl := hR.lt
      have hno : ¬ d 6 = true := by intro h; simp [g6.out h] at hn
      go_simp
      refine (hI.out _ _ _).2 ⟨ptr wr.heap.size, v6, v9, v10, v11, v12, rfl, xalloc hb _, hA.alloc _, hB.alloc _, hR.alloc _, by simpa [also] using f9.out, by simpa [also] using f10.out, by simpa [also] using f11.out, by simpa [also] using f12.out, fun _ => rfl, by simpa [also] using g7.out, ?_, ?_⟩
      · intro h
        refine ⟨wr.heap.size, rfl, by omega, ?_, ?_⟩
        · rw [if_neg (by simpa [also] using hno)]
          exact Blk.new' _ _ _ zs32 rfl
        · intro h
          obtain ⟨p, e1, e2, e3, e4⟩ := f6.out (by simpa [also] using h)
          rw [e1]
          intro he
          have := e3.lt
          simp [ptr] at he <;> omega
      · intro h
        obtain ⟨p, e1, e2, e3, e4⟩ := f6.out (by simpa [also] using h)
        refine ⟨p, e1, e2, by simpa [also] using e3.alloc _, ?_⟩
        intro _ he
        have := e3.lt
        simp [ptr] at he <;> omega
    · rintro d a wr hn hwt hi; obtain ⟨v5, v6, v9, v10, v11, v12, rfl, hb, hA, hB, hR, f9, f10, f11, f12, g6, g7, f5, f6⟩ := (hI.out d a wr).1 hi; clear hi; simp [waitsFor, Region.binds] at hwt hn; replace f9 := Lib.hid f9; replace f10 := Lib.hid f10; replace f11 := Lib.hid f11; replace f12 := Lib.hid f12; replace f5 := Lib.hid f5; replace f6 := Lib.hid f6; replace g6 := Lib.hid g6; replace g7 := Lib.hid g7
      have hbl := hR.lt
      have hno : ¬ d 7 = true := by intro h; simp [g7.out h] at hn
      go_simp
      refine (hI.out _ _ _).2 ⟨v5, ptr wr.heap.size, v9, v10, v11, v12, rfl, xalloc hb _, hA.alloc _, hB.alloc _, hR.alloc _, by simpa [also] using f9.out, by simpa [also] using f10.out, by simpa [also] using f11.out, by simpa [also] using f12.out, by simpa [also] using g6.out, fun _ => rfl, ?_, ?_⟩
      · intro h
        obtain ⟨p, e1, e2, e3, e4⟩ := f5.out (by simpa [also] using h)
        refine ⟨p, e1, e2, by simpa [also] using e3.alloc _, ?_⟩
        intro _ he
        have := e3.lt
        simp [ptr] at he <;> omega
      · intro h
        refine ⟨wr.heap.size, rfl, by omega, ?_, ?_⟩
        · rw [if_neg (by simpa [also] using hno)]
          exact Blk.new' _ _ _ zs32 rfl
        · intro h
          obtain ⟨p, e1, e2, e3, e4⟩ := f5.out (by simpa [also] using h)
          rw [e1]
          intro he
          have := e3.lt
          simp [ptr] at he <;> omega
    · rintro d a wr hn hwt hi; obtain ⟨v5, v6, v9, v10, v11, v12, rfl, hb, hA, hB, hR, f9, f10, f11, f12, g6, g7, f5, f6⟩ := (hI.out d a wr).1 hi; clear hi; simp [waitsFor, Region.binds] at hwt hn; replace f9 := Lib.hid f9; replace f10 := Lib.hid f10; replace f11 := Lib.hid f11; replace f12 := Lib.hid f12; replace f5 := Lib.hid f5; replace f6 := Lib.hid f6; replace g6 := Lib.hid g6; replace g7 := Lib.hid g7
      have h4 : d 4 = true := by simp [hwt]
      have h5 : d 5 = true := by simp [hwt]
      have e1 := f10.out (by simp [hwt])
      subst e1
      obtain ⟨p, e1, e2, e3, e4⟩ := f5.out h4
      obtain ⟨q, k1, k2, k3, k4⟩ := f6.out h5
      subst e1 k1
      have hpq : q ≠ p := by rintro rfl; exact e4 h5 rfl
      rw [if_neg (by simp [hn])] at e3
      refine wp_store_blk 94 _ _ rfl p rfl .u8 94 zs32 (bytesL A) e3 rfl (by simp [bytesL, zs32]) (by kernel_rfl) ?_
      intro w2 hw2 ho2
      refine (hI.out _ _ _).2 ⟨ptr p, ptr q, v9, bytesV A, v11, v12, rfl, ho2.below hb hb.size (by rintro i rfl; omega), hA.only ho2 (by omega), hB.only ho2 (by omega), hR.only ho2 (by omega), by simpa [also] using f9.out, fun _ => rfl, by simpa [also] using f11.out, by simpa [also] using f12.out, fun _ => by simp [also, h4], fun _ => by simp [also, h5], ?_, ?_⟩
      · exact fun _ => ⟨p, rfl, by assumption, by simpa [also] using hw2, fun _ h => by simp [ptr] at h <;> omega⟩
      · exact fun _ => ⟨q, rfl, by assumption, by simpa [also] using k3.only ho2 hpq, fun _ h => by simp [ptr] at h <;> omega⟩
    · rintro d a wr hn hwt hi; obtain ⟨v5, v6, v9, v10, v11, v12, rfl, hb, hA, hB, hR, f9, f10, f11, f12, g6, g7, f5, f6⟩ := (hI.out d a wr).1 hi; clear hi; simp [waitsFor, Region.binds] at hwt hn; replace f9 := Lib.hid f9; replace f10 := Lib.hid f10; replace f11 := Lib.hid f11; replace f12 := Lib.hid f12; replace f5 := Lib.hid f5; replace f6 := Lib.hid f6; replace g6 := Lib.hid g6; replace g7 := Lib.hid g7
      have h4 : d 4 = true := by simp [hwt]
      have h5 : d 5 = true := by simp [hwt]
      have e1 := f12.out (by simp [hwt])
      subst e1
      obtain ⟨p, e1, e2, e3, e4⟩ := f6.out h5
      obtain ⟨q, k1, k2, k3, k4⟩ := f5.out h4
      subst e1 k1
      have hpq : q ≠ p := by rintro rfl; exact e4 h4 rfl
      rw [if_neg (by simp [hn])] at e3
      refine wp_store_blk 94 _ _ rfl p rfl .u8 94 zs32 (bytesL B) e3 rfl (by simp [bytesL, zs32]) (by kernel_rfl) ?_
      intro w2 hw2 ho2
      refine (hI.out _ _ _).2 ⟨ptr q, ptr p, v9, v10, v11, bytesV B, rfl, ho2.below hb hb.size (by rintro i rfl; omega), hA.only ho2 (by omega), hB.only ho2 (by omega), hR.only ho2 (by omega), by simpa [also] using f9.out, by simpa [also] using f10.out, by simpa [also] using f11.out, fun _ => rfl, fun _ => by simp [also, h4], fun _ => by simp [also, h5], ?_, ?_⟩
      · exact fun _ => ⟨q, rfl, by assumption, by simpa [also] using k3.only ho2 hpq, fun _ h => by simp [ptr] at h <;> omega⟩
      · exact fun _ => ⟨p, rfl, by assumption, by simpa [also] using hw2, fun _ h => by simp [ptr] at h <;> omega⟩
  intro d a wr hall hi
  obtain ⟨v5, v6, v9, v10, v11, v12, rfl, hb, hA, hB, hR, f9, f10, f11, f12, g6, g7, f5, f6⟩ := (hI.out d a wr).1 hi
  clear hi
  simp [List.range_succ] at hall
  have e9 := f9 (by simp [hall])
  have e10 := f10 (by simp [hall])
  have e11 := f11 (by simp [hall])
  have e12 := f12 (by simp [hall])
  obtain ⟨p, e1, hp, hX, hpq⟩ := f5 (by simp [hall])
  obtain ⟨q, e2, hq, hY, -⟩ := f6 (by simp [hall])
  replace hpq := hpq (by simp [hall])
  subst e9 e10 e11 e12 e1 e2
  rw [if_pos (by simp [hall])] at hX hY
  replace hpq : q ≠ p := by rintro rfl; exact hpq rfl
  clear f5 f6 f9 f10 f11 f12 g6 g7 hall hI I
  clear hA0 hB0 hR0 hb0 hA hB
  unfold ptr
  go_wp2
  have hZ := Blk.new' (q := .u8) wr wr.heap.size 94 zs32 rfl
  have hX2 := hX.alloc (Obj.cells (zs32.map (Value.int .u8)).toArray 94)
  have hY2 := hY.alloc (Obj.cells (zs32.map (Value.int .u8)).toArray 94)
  have hR2 := hR.alloc (Obj.cells (zs32.map (Value.int .u8)).toArray 94)
  have hb2 := xalloc hb (Obj.cells (zs32.map (Value.int .u8)).toArray 94)
  have hpz := hX.lt
  have hqz := hY.lt
  have hrz := hR.lt
  generalize hzp : wr.heap.size = z at *
  go_loopw [8] (fun i wx => ∃ n : Nat, n ≤ 32 ∧ i = .int .i64 n ∧ Blk .u8 wx z 94 (bytesL (A % 256 ^ n * B)) ∧ Blk .u8 wx p 94 (bytesL A) ∧ Blk .u8 wx q 94 (bytesL B) ∧ Blk .u64 wx (w.heap.size + 1 + 1) 90 [0, 0, 0, 0] ∧ Below w.heap.size w wx) (fun i _ => 32 - (intOf i).toNat)
  case atStart => exact ⟨0, by omega, rfl, by rw [Nat.pow_zero, Nat.mod_one, Nat.zero_mul]; exact hZ, hX2, hY2, hR2, hb2⟩
  case round =>
    clear hZ hX2 hY2 hR2 hb2 hX hY hR hb
    obtain ⟨n, hn, rfl, hZ, hX, hY, hR, hb⟩ := hrel
    by_cases hlt : n < 32
    · go_wp2
      go_loopw [9, 10] (fun c k wx => ∃ m : Nat, n + m ≤ 32 ∧ k = .int .i64 m ∧ c = .int .i64 (pcarry A B n m) ∧ Blk .u8 wx z 94 (mixL (prodP A B n m) (A % 256 ^ n * B) (n + m)) ∧ Blk .u8 wx p 94 (bytesL A) ∧ Blk .u8 wx q 94 (bytesL B) ∧ Blk .u64 wx (w.heap.size + 1 + 1) 90 [0, 0, 0, 0] ∧ Below w.heap.size w wx) (fun _ k _ => 32 - (intOf k).toNat)
      case atStart => exact ⟨0, by omega, rfl, by rw [pcarry_zero]; rfl, by rw [Nat.add_zero, prodP_zero]; exact hZ, hX, hY, hR, hb⟩
      case round =>
        clear hZ hX hY hR hb
        obtain ⟨m, hnm, rfl, rfl, hZ, hX, hY, hR, hb⟩ := hrel
        by_cases hlt2 : n + m < 32
        · have hlt3 : (n : Int) + (m : Int) < 32 := by omega
          have hn31 : (31 : Int) - (n : Int) = ((31 - n : Nat) : Int) := by omega
          have hm31 : (31 : Int) - (m : Int) = ((31 - m : Nat) : Int) := by omega
          have hnm31 : ((31 - n : Nat) : Int) - (m : Int) = ((31 - (n + m) : Nat) : Int) := by omega
          have hc1 := hZ.cell (31 - (n + m)) (by rw [mixL_len]; omega)
          rw [mixL_get _ _ _ hlt2] at hc1
          have hf1 := hZ.frozen (31 - (n + m))
          have hc2 := hX.cell (31 - n) (by simp [bytesL]; omega)
          rw [bytesL_get _ _ (by simp [bytesL]; omega), show 31 - (31 - n) = n by omega] at hc2
          have hc3 := hY.cell (31 - m) (by simp [bytesL]; omega)
          rw [bytesL_get _ _ (by simp [bytesL]; omega), show 31 - (31 - m) = m by omega] at hc3
          have h1 := byteAt_lt (A % 256 ^ n * B) (n + m)
          have h2 := byteAt_lt A n
          have h3 := byteAt_lt B m
          have h4 := pcarry_lt A B n m
          have hq1 := Lib.hid (pcarry_step A B n m)
          have hq2 := Lib.hid (pcarry_byte A B n m)
          have hst := Lib.hid (mixL_succ (prodP A B n m) (prodP A B n (m + 1)) (A % 256 ^ n * B) (n + m) hlt2 (fun j hj => prodP_low A B n m j hj))
          generalize byteAt (A % 256 ^ n * B) (n + m) = z1 at hc1 h1 hq1 hq2
          generalize byteAt A n = x at hc2 h2 hq1 hq2
          generalize byteAt B m = y at hc3 h3 hq1 hq2
          generalize pcarry A B n m = c at h4 hq1 hq2
          have hxy : x * y ≤ 255 * 255 := Nat.mul_le_mul (by omega) (by omega)
          obtain ⟨v, hv⟩ : ∃ v : Nat, v = x * y := ⟨_, rfl⟩
          have hv2 : (x : Int) * (y : Int) = (v : Int) := by rw [hv]; simp
          replace hxy : v ≤ 65025 := by rw [hv]; exact hxy
          rw [← hv] at hq1 hq2
          clear hv
          go_wp2_with fail
          go_quiet (fail)
          go_wp2
          rename_i nq
          refine ⟨⟨m + 1, by omega, rfl, ?_, ?_, (hX.drewN nq).oth _ (by omega), (hY.drewN nq).oth _ (by omega), (hR.drewN nq).oth _ (by omega), xsetb (xdrewN hb nq) (by omega) _⟩, by simp [intOf]; omega⟩
          · rw [← hq1.out]; rfl
          · have := (hZ.drewN nq).set (31 - (n + m)) ((byteAt (prodP A B n (m + 1)) (n + m) : Nat) : Int)
            rw [hst.out, ← hq2.out] at this
            exact this
        · have hm : m = 32 - n := by omega
          subst hm
          rw [show n + (32 - n) = 32 by omega, mixL_all, prodP_all A B n hlt] at hZ
          have hno : ¬ (n : Int) + ((32 - n : Nat) : Int) < 32 := by omega
          go_wp2_with fail
          refine ⟨⟨n + 1, by omega, rfl, hZ, hX, hY, hR, hb⟩, by simp [intOf]; omega⟩
    · have hn32 : n = 32 := by omega
      subst hn32
      rw [prod_end] at hZ
      clear hlt
      go_wp2_with (first
        | (refine wpList_load_blk rfl 94 _ rfl z rfl .u8 94 (bytesL (A * B)) _ _ hZ Try.underlying94 (by kernel_rfl) ?_)
        | (go_at_call 61; refine (refFrom_any _ _).mono ?_; rintro e w2 ⟨rfl, hb2⟩)
        | (refine wpList_store_blk rfl 90 _ _ rfl (w.heap.size + 1 + 1) rfl .u64 90 [0, 0, 0, 0] (wordL (A * B)) (hR.below hb2) rfl rfl (by kernel_rfl) ?_; intro w3 h3 ho3))
      refine ret_blk rfl (w.heap.size + 1 + 1) .u64 90 (wordL (A * B)) _ _ rfl h3 Try.underlying90 (by kernel_rfl) rfl ⟨rfl, ?_⟩
      have hbb := hb.trans (hb2.mono hb.size)
      exact ho3.below hbb hbb.size (by rintro i rfl; omega)
end Go.Proofs.Ytfafancacfjodaa
