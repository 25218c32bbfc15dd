/- The document's roots (layer 23). -/
import Derived.Test.YtfieagpidplmoaaRef23B
namespace Go.Proofs.Ytfieagpidplmoaa
open Go.RowKit

def rootGo (T n : Nat) : Nat → Nat → Nat
  | 0, x => x
  | i + 1, x => if (x ||| 2 ^ i) ^ n ≤ T then rootGo T n i (x ||| 2 ^ i) else rootGo T n i x
def rootF (p n : Nat) : Nat := rootGo (p * 2 ^ (32 * n)) n 37 0
theorem rootGo_yes {T n i x r : Nat} (h : rootGo T n (i + 1) x = r) (hc : (x ||| 2 ^ i) ^ n ≤ T) : rootGo T n i (x ||| 2 ^ i) = r := by
  rw [rootGo, if_pos hc] at h; exact h
theorem rootGo_no {T n i x r : Nat} (h : rootGo T n (i + 1) x = r) (hc : ¬ (x ||| 2 ^ i) ^ n ≤ T) : rootGo T n i x = r := by
  rw [rootGo, if_neg hc] at h; exact h
theorem or37 {x i : Nat} (hx : x < 2 ^ 37) (hi : i < 37) : x ||| 2 ^ i < 2 ^ 37 := Nat.or_lt_two_pow hx (Nat.pow_lt_pow_right (by decide) hi)
theorem wordL_small (x : Nat) (hx : x < 2 ^ 37) : wordL x = [(x : Int), 0, 0, 0] := by
  have h0 : limb x 0 = x := by unfold limb; simp; omega
  have h1 : limb x 1 = 0 := by unfold limb; simp; omega
  have h2 : limb x 2 = 0 := by unfold limb; simp; omega
  have h3 : limb x 3 = 0 := by unfold limb; simp; omega
  unfold wordL
  rw [h0, h1, h2, h3]; rfl
theorem or_bit (x i : Nat) (hx : x < 2 ^ 37) (hi : i < 37) : bits .or .u64 (x : Int) (IntKind.u64.wrap (2 ^ i)) = ((x ||| 2 ^ i : Nat) : Int) := by
  have h2 : 2 ^ i < 2 ^ 37 := Nat.pow_lt_pow_right (by decide) hi
  have e : ((2 : Int) ^ i) = ((2 ^ i : Nat) : Int) := by simp
  have w64 : ∀ n : Nat, n < 18446744073709551616 → IntKind.u64.wrap (n : Int) = n := by
    intro n hn
    simp [IntKind.wrap, IntKind.bits, IntKind.signed]; omega
  have o : ∀ n : Nat, BitVec.ofInt 64 (n : Int) = BitVec.ofNat 64 n := fun n => BitVec.ofInt_natCast 64 n
  have hlt := or37 hx hi
  rw [e, w64 _ (by omega)]
  show IntKind.u64.wrap (((BitVec.ofInt 64 (x : Int)) ||| (BitVec.ofInt 64 ((2 ^ i : Nat) : Int))).toNat : Int) = _
  rw [o, o, BitVec.toNat_or, BitVec.toNat_ofNat, BitVec.toNat_ofNat, Nat.mod_eq_of_lt (by omega), Nat.mod_eq_of_lt (by omega), w64 _ (by omega)]

theorem refRoot_any (p n : Nat) (w : World) (hn : n = 2 ∨ n = 3) (hp : p < 65536) :
    Calls Try.prog 18 #[.int .u64 p, .int .i64 n, .int .i64 32] w fun e w' => e = .returned (.int .u64 ((rootF p n % 4294967296 : Nat) : Int)) ∧ Below w.heap.size w w' := by
  go_enter Try.func18, Try.ntmps18
  have hn32 : (n : Int) * 32 = ((32 * n : Nat) : Int) := by omega
  have hn3 : 1 ≤ n ∧ n ≤ 3 := by omega
  obtain ⟨hn1, hn2⟩ := hn3
  replace hn := Lib.hid hn
  have hz : ∀ w2 : World, Blk .u64 (w2.alloc (Obj.cells #[.int .u64 0, .int .u64 0, .int .u64 0, .int .u64 0] 50)) w2.heap.size 50 [0, 0, 0, 0] := fun w2 => Blk.new w2 _ [0, 0, 0, 0]
  go_wp2_with (first
    | (go_at_call 30; refine (refOf_any _ _ (by omega)).mono ?_; rintro e w2 ⟨rfl, hb2⟩)
    | (refine wpList_store_blk rfl 50 _ _ rfl w2.heap.size rfl .u64 50 [0, 0, 0, 0] (wordL p) (hz w2) rfl rfl (by kernel_rfl) ?_; intro w3 h3 ho3))
  have hs2 := hb2.size
  have hb3 : Below w.heap.size w w3 := ho3.below (xalloc hb2 _) (by simp; omega) (by rintro i rfl; omega)
  clear ho3 hb2
  generalize w2.heap.size = t at *
  go_loopw [8] (fun iv wx => ∃ i : Nat, i ≤ 32 * n ∧ iv = .int .i64 i ∧ Blk .u64 wx t 50 (wordL (p * 2 ^ i)) ∧ Below w.heap.size w wx) (fun iv _ => 32 * n - (intOf iv).toNat)
  case atStart => exact ⟨0, by omega, rfl, by rw [Nat.pow_zero, Nat.mul_one]; exact h3, hb3⟩
  case round =>
    clear h3 hb3
    obtain ⟨i, hi, rfl, hT, hb⟩ := hrel
    by_cases hlt : i < 32 * n
    · have hlt2 : (i : Int) < ((32 * n : Nat) : Int) := by omega
      generalize hNN : 32 * n = NN at *
      go_wp2_with (first
        | (refine wpList_load_blk rfl 50 _ rfl t rfl .u64 50 (wordL (p * 2 ^ i)) _ _ hT Try.underlying50 (by kernel_rfl) ?_)
        | (go_at_call 34; refine (refAdd_any _ _ _).mono ?_; rintro e w4 ⟨rfl, hb4⟩)
        | (refine wpList_store_blk rfl 50 _ _ rfl t rfl .u64 50 (wordL (p * 2 ^ i)) (wordL (p * 2 ^ i + p * 2 ^ i)) (hT.below hb4) rfl rfl (by kernel_rfl) ?_; intro w3 h3 ho3))
      have hbb := hb.trans (hb4.mono hb.size)
      refine ⟨⟨i + 1, by omega, rfl, ?_, ho3.below hbb hbb.size (by rintro i rfl; omega)⟩, by simp [intOf]; omega⟩
      rw [Nat.pow_succ, ← Nat.mul_assoc, Nat.mul_two]; exact h3
    · have hi2 : i = 32 * n := by omega
      subst hi2
      have hTlt : p * 2 ^ (32 * n) < 2 ^ 112 := by
        have h1 : 2 ^ (32 * n) ≤ 2 ^ 96 := Nat.pow_le_pow_right (by decide) (by omega)
        have h2 : p * 2 ^ (32 * n) ≤ 65535 * 2 ^ 96 := Nat.mul_le_mul (by omega) h1
        omega
      replace hTlt := Lib.hid hTlt
      have hR : Hid (rootGo (p * 2 ^ (32 * n)) n 37 0 = rootF p n) := Lib.hid rfl
      generalize p * 2 ^ (32 * n) = T at hT hTlt hR
      generalize hRr : rootF p n = r at hR
      replace hRr := Lib.hid hRr.symm
      clear hlt
      generalize 32 * n = NN at *
      go_wp2
      have hX0 := Blk.new (q := .u64) wr 50 [0, 0, 0, 0]
      have hT0 := hT.alloc (Obj.cells (List.map (Value.int .u64) [0, 0, 0, 0]).toArray 50)
      have hb0 := xalloc hb (Obj.cells (List.map (Value.int .u64) [0, 0, 0, 0]).toArray 50)
      have htx := hT.lt
      have hwx := hb.size
      clear hT hb
      generalize wr.heap.size = xb at *
      go_loopw [10] (fun iv wx => ∃ m x : Nat, m ≤ 37 ∧ iv = .int .i64 ((m : Int) - 1) ∧ Hid (x < 2 ^ 37) ∧ Hid (rootGo T n m x = r) ∧ Blk .u64 wx t 50 (wordL T) ∧ Blk .u64 wx xb 50 [(x : Int), 0, 0, 0] ∧ Below w.heap.size w wx) (fun iv _ => (intOf iv + 1).toNat)
      case atStart => exact ⟨37, 0, by omega, rfl, Lib.hid (by decide), hR, hT0, hX0, hb0⟩
      case round =>
        clear hR hX0 hT0 hb0
        obtain ⟨m, x, hm, rfl, hx, hR, hT, hX, hb⟩ := hrel
        rcases m with _ | m
        · have hc : wr.cell? ⟨xb, 0, none⟩ = some (.int .u64 x) := hX.cell 0 (by simp)
          replace hR : Hid (x = r) := hR
          go_wp2
          go_ret
          exact ⟨by rw [← hRr.out, ← hR.out]; rfl, hb⟩
        · have e1 : (((m + 1 : Nat) : Int) - 1) = (m : Int) := by omega
          rw [e1]
          have hd : (m : Int) / 64 = 0 := by omega
          have hmm : (m : Int) % 64 = m := by omega
          go_wp2_with (first
            | (refine wpList_load_blk rfl 50 _ rfl xb rfl .u64 50 [(x : Int), 0, 0, 0] _ _ hX Try.underlying50 (by kernel_rfl) ?_))
          rw [or_bit x m hx.out (by omega)]
          have hy37 := or37 hx.out (show m < 37 by omega)
          have hyb : Blk .u64 (wr.alloc (Obj.cells ([((x ||| 2 ^ m : Nat) : Int), 0, 0, 0].map (Value.int .u64)).toArray 50)) wr.heap.size 50 (wordL (x ||| 2 ^ m)) := by
            rw [wordL_small _ hy37]; exact Blk.new wr _ _
          have hT1 := hT.alloc (Obj.cells ([((x ||| 2 ^ m : Nat) : Int), 0, 0, 0].map (Value.int .u64)).toArray 50)
          have hX1 := hX.alloc (Obj.cells ([((x ||| 2 ^ m : Nat) : Int), 0, 0, 0].map (Value.int .u64)).toArray 50)
          have hb1 := xalloc hb (Obj.cells ([((x ||| 2 ^ m : Nat) : Int), 0, 0, 0].map (Value.int .u64)).toArray 50)
          have hyx := hX.lt
          clear hT hX hb hd hmm e1
          have hyes := Lib.hid (@rootGo_yes T n m x r hR.out)
          have hno := Lib.hid (@rootGo_no T n m x r hR.out)
          clear hR
          replace hy37 := Lib.hid hy37
          generalize hyv : x ||| 2 ^ m = y at *
          clear hyv
          generalize wr.heap.size = yb at *
          have hpw : y ^ n < 2 ^ 256 := by
            have h1 : y ^ n ≤ (2 ^ 37) ^ n := Nat.pow_le_pow_left (Nat.le_of_lt hy37.out) n
            have h2 : ((2 : Nat) ^ 37) ^ n ≤ (2 ^ 37) ^ 3 := Nat.pow_le_pow_right (by decide) hn2
            have h3 : ((2 : Nat) ^ 37) ^ 3 < 2 ^ 256 := by decide
            omega
          replace hpw := Lib.hid hpw
          have hTb := Lib.hid (Nat.lt_trans hTlt.out (show 2 ^ 112 < 2 ^ 256 by decide))
          obtain ⟨I, hI⟩ : ∃ I : (Nat → Bool) → Act → World → Prop, ∀ d a wx, I d a wx ↔ (∃ v43 v44 v45 v46 v47 v48 : Value, a = { tmps := #[Value.int .u64 p, Value.int .i64 n, Value.int .i64 32, undef, undef, undef, Value.int .u64 0, ptr t, Value.int .i64 NN, ptr xb, Value.int .i64 m, ptr yb, Value.int .u64 p, wordV p, Value.int .i64 NN, Value.int .i64 n, Value.int .i64 32, Value.int .i64 NN, Value.bool false, u19, u20, u21, u22, u23, Value.int .i64 32, Value.int .i64 36, Value.int .i64 m, Value.bool true, u28, u29, Value.agg #[Value.int .u64 x, Value.int .u64 0, Value.int .u64 0, Value.int .u64 0], Value.int .i64 m, Value.int .i64 0, Value.int .i64 m, Value.int .i64 0, ptr yb, Value.int .u64 x, Value.int .i64 m, Value.int .i64 ((m : Int) % 64), Value.int .u64 m, Value.int .u64 (IntKind.u64.wrap (2 ^ m)), Value.int .u64 y, ptr yb, v43, v44, v45, v46, v47, v48, u49, undef, undef, undef, undef, undef, undef, undef, undef, undef, undef], defers := [] }
            ∧ Below w.heap.size w wx ∧ Blk .u64 wx t 50 (wordL T) ∧ Blk .u64 wx xb 50 [(x : Int), 0, 0, 0] ∧ Blk .u64 wx yb 50 (wordL y)
            ∧ (d 0 = true → v43 = wordV y) ∧ (d 1 = true → v44 = .int .i64 n) ∧ (d 2 = true → v45 = wordV (y ^ n)) ∧ (d 3 = true → v46 = wordV T) ∧ (d 4 = true → v47 = .int .i64 (orderOf (y ^ n) T)) ∧ (d 5 = true → v48 = .bool (decide (orderOf (y ^ n) T ≤ 0)))) := ⟨_, fun _ _ _ => Iff.rfl⟩
          replace hI := Lib.hid hI
          refine wp_region_inv (by kernel_rfl) (by kernel_rfl) I ?_ ?_ ?_
          · exact (hI.out _ _ _).2 ⟨u43, u44, u45, u46, u47, u48, rfl, xdrew hb1, hT1.drew, hX1.drew, hyb.drew, by simp, by simp, by simp, by simp, by simp, by simp⟩
          · refine ⟨?_, ?_, ?_, ?_, ?_, ?_, trivial⟩
            · rintro d a wx hn1' hwt hi; obtain ⟨v43, v44, v45, v46, v47, v48, rfl, hb, hT, hX, hY, f0, f1, f2, f3, f4, f5⟩ := (hI.out d a wx).1 hi; clear hi; simp [waitsFor, Region.binds] at hwt hn1'; replace f0 := Lib.hid f0; replace f1 := Lib.hid f1; replace f2 := Lib.hid f2; replace f3 := Lib.hid f3; replace f4 := Lib.hid f4; replace f5 := Lib.hid f5
              refine wp_load_blk 50 _ rfl yb rfl .u64 50 (wordL y) _ _ hY Try.underlying50 (by kernel_rfl) ?_
              exact (hI.out _ _ _).2 ⟨wordV y, v44, v45, v46, v47, v48, rfl, hb, hT, hX, hY, fun _ => rfl, by simpa [also] using f1.out, by simpa [also] using f2.out, by simpa [also] using f3.out, by simpa [also] using f4.out, by simpa [also] using f5.out⟩
            · rintro d a wx hn1' hwt hi; obtain ⟨v43, v44, v45, v46, v47, v48, rfl, hb, hT, hX, hY, f0, f1, f2, f3, f4, f5⟩ := (hI.out d a wx).1 hi; clear hi; simp [waitsFor, Region.binds] at hwt hn1'; replace f0 := Lib.hid f0; replace f1 := Lib.hid f1; replace f2 := Lib.hid f2; replace f3 := Lib.hid f3; replace f4 := Lib.hid f4; replace f5 := Lib.hid f5
              go_simp
              exact (hI.out _ _ _).2 ⟨v43, .int .i64 n, v45, v46, v47, v48, rfl, hb, hT, hX, hY, by simpa [also] using f0.out, fun _ => rfl, by simpa [also] using f2.out, by simpa [also] using f3.out, by simpa [also] using f4.out, by simpa [also] using f5.out⟩
            · rintro d a wx hn1' hwt hi; obtain ⟨v43, v44, v45, v46, v47, v48, rfl, hb, hT, hX, hY, f0, f1, f2, f3, f4, f5⟩ := (hI.out d a wx).1 hi; clear hi; simp [waitsFor, Region.binds] at hwt hn1'; replace f0 := Lib.hid f0; replace f1 := Lib.hid f1; replace f2 := Lib.hid f2; replace f3 := Lib.hid f3; replace f4 := Lib.hid f4; replace f5 := Lib.hid f5
              have e0 := f0.out (by simp [hwt])
              have e1 := f1.out (by simp [hwt])
              subst e0 e1
              go_simp
              go_at_call 36
              refine (refPower_any _ _ _ hn1 (by omega)).mono ?_
              rintro e w' ⟨rfl, hbb⟩
              exact (hI.out _ _ _).2 ⟨wordV y, .int .i64 n, wordV (y ^ n), v46, v47, v48, rfl, hb.trans (hbb.mono hb.size), hT.below hbb, hX.below hbb, hY.below hbb, fun _ => rfl, fun _ => rfl, fun _ => rfl, by simpa [also] using f3.out, by simpa [also] using f4.out, by simpa [also] using f5.out⟩
            · rintro d a wx hn1' hwt hi; obtain ⟨v43, v44, v45, v46, v47, v48, rfl, hb, hT, hX, hY, f0, f1, f2, f3, f4, f5⟩ := (hI.out d a wx).1 hi; clear hi; simp [waitsFor, Region.binds] at hwt hn1'; replace f0 := Lib.hid f0; replace f1 := Lib.hid f1; replace f2 := Lib.hid f2; replace f3 := Lib.hid f3; replace f4 := Lib.hid f4; replace f5 := Lib.hid f5
              refine wp_load_blk 50 _ rfl t rfl .u64 50 (wordL T) _ _ hT Try.underlying50 (by kernel_rfl) ?_
              exact (hI.out _ _ _).2 ⟨v43, v44, v45, wordV T, v47, v48, rfl, hb, hT, hX, hY, by simpa [also] using f0.out, by simpa [also] using f1.out, by simpa [also] using f2.out, fun _ => rfl, by simpa [also] using f4.out, by simpa [also] using f5.out⟩
            · rintro d a wx hn1' hwt hi; obtain ⟨v43, v44, v45, v46, v47, v48, rfl, hb, hT, hX, hY, f0, f1, f2, f3, f4, f5⟩ := (hI.out d a wx).1 hi; clear hi; simp [waitsFor, Region.binds] at hwt hn1'; replace f0 := Lib.hid f0; replace f1 := Lib.hid f1; replace f2 := Lib.hid f2; replace f3 := Lib.hid f3; replace f4 := Lib.hid f4; replace f5 := Lib.hid f5
              have e0 := f2.out (by simp [hwt])
              have e1 := f3.out (by simp [hwt])
              subst e0 e1
              go_simp
              go_at_call 35
              refine (refOrder_any _ _ _ hpw.out hTb.out).mono ?_
              rintro e w' ⟨rfl, hbb⟩
              exact (hI.out _ _ _).2 ⟨v43, v44, wordV (y ^ n), wordV T, .int .i64 (orderOf (y ^ n) T), v48, rfl, hb.trans (hbb.mono hb.size), hT.below hbb, hX.below hbb, hY.below hbb, by simpa [also] using f0.out, by simpa [also] using f1.out, fun _ => rfl, fun _ => rfl, fun _ => rfl, by simpa [also] using f5.out⟩
            · rintro d a wx hn1' hwt hi; obtain ⟨v43, v44, v45, v46, v47, v48, rfl, hb, hT, hX, hY, f0, f1, f2, f3, f4, f5⟩ := (hI.out d a wx).1 hi; clear hi; simp [waitsFor, Region.binds] at hwt hn1'; replace f0 := Lib.hid f0; replace f1 := Lib.hid f1; replace f2 := Lib.hid f2; replace f3 := Lib.hid f3; replace f4 := Lib.hid f4; replace f5 := Lib.hid f5
              have e0 := f4.out (by simp [hwt])
              subst e0
              go_simp
              exact (hI.out _ _ _).2 ⟨v43, v44, v45, v46, .int .i64 (orderOf (y ^ n) T), .bool (decide (orderOf (y ^ n) T ≤ 0)), rfl, hb, hT, hX, hY, by simpa [also] using f0.out, by simpa [also] using f1.out, by simpa [also] using f2.out, by simpa [also] using f3.out, fun _ => rfl, fun _ => rfl⟩
          intro d a wx hall hi
          obtain ⟨v43, v44, v45, v46, v47, v48, rfl, hb, hT, hX, hY, f0, f1, f2, f3, f4, f5⟩ := (hI.out d a wx).1 hi
          clear hi hyb hT1 hX1 hb1 hI
          simp [List.range_succ] at hall
          have e0 := f0 (by simp [hall])
          have e1 := f1 (by simp [hall])
          have e2 := f2 (by simp [hall])
          have e3 := f3 (by simp [hall])
          have e4 := f4 (by simp [hall])
          have e5 := f5 (by simp [hall])
          subst e0 e1 e2 e3 e4 e5
          clear f0 f1 f2 f3 f4 f5 hall I
          unfold ptr
          by_cases hle : y ^ n ≤ T
          · have ho : orderOf (y ^ n) T ≤ 0 := by unfold orderOf; split <;> omega
            rw [decide_eq_true ho]
            replace hyes := Lib.hid (hyes.out hle)
            clear hno ho
            go_wp2_with (first
              | (refine wpList_load_blk rfl 50 _ rfl yb rfl .u64 50 (wordL y) _ _ hY Try.underlying50 (by kernel_rfl) ?_)
              | (refine wpList_store_blk rfl 50 _ _ rfl xb rfl .u64 50 [(x : Int), 0, 0, 0] (wordL y) hX rfl rfl (by kernel_rfl) ?_; intro w5 h5 ho5))
            rw [wordL_small _ hy37.out] at h5
            exact ⟨⟨m, y, by omega, rfl, hy37, hyes, hT.only ho5 (by omega), h5, ho5.below hb hb.size (by rintro i rfl; omega)⟩, by simp [intOf]⟩
          · have ho : ¬ orderOf (y ^ n) T ≤ 0 := by rw [orderOf_gt (by omega)]; omega
            rw [decide_eq_false ho]
            replace hno := Lib.hid (hno.out hle)
            clear hyes ho
            go_wp2
            exact ⟨⟨m, x, by omega, rfl, hx, hno, hT, hX, hb⟩, by simp [intOf]⟩
end Go.Proofs.Ytfieagpidplmoaa
