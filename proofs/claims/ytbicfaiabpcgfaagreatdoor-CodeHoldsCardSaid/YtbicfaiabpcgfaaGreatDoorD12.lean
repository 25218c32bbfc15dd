/- Texts of this claim, merged; no condition. -/
import Derived.Test.YtbicfaiabpcgfaaGreatDoorD10
import Derived.Test.YtbicfaiabpcgfaaGreatDoorD11
set_option linter.all false
namespace Go.Proofs.YtbicfaiabpcgfaaGreatDoor
open Go.RowKit Go.Shelf

theorem wpList_insertS {P : Program} {ops : Array Oper} {rest : List Oper} {o : Oper} {a : Act} {w : World} {Q : Exit → Act → World → Prop} (hgd : o.guard = none) (t k e : TypeId) (x y z : Operand) (ho : o.op = .insert t x y z)
    (ht : P.underlying t = some (.map k e)) (hk : P.underlying k = some .string) (b : Nat) (s : ByteArray) (v : Value) (l : List (Value × Value)) (hx : a.eval x = .map (some b)) (hy : a.eval y = .string s) (hz : a.eval z = v)
    (hb : w.heap[b]? = some (mapG l)) (hn : Instr.findNow .string (.string s) (entG 0 l) 0 = some none)
    (h : ∀ w', w'.heap[b]? = some (mapG (l ++ [(.string s, v)])) → Only (· = b) w w' → wpList P ops Q rest (a.put o.dst undef) w') : wpList P ops Q (o :: rest) a w := by
  refine wpList_plain hgd fun _ hK => ?_
  unfold Oper.wp execOp
  simp only [ho, hx, hy, hz, Sem.run_bind, run_putS ht hk s v w b l hb hn, Result.andThen_ok, Sem.run_pure]
  have hlt : b < w.heap.size := (Array.getElem?_eq_some_iff.1 hb).1
  exact hK _ _ (h _ (World.putObj_heap_same hlt) ((Only.refl _ _).putObj b _ rfl))
theorem dec_size {n : Nat} (h : n < 100) : (⟨(Lib.decDigits n).toArray⟩ : ByteArray).size ≤ 2 := by
  rw [← dig_dec n h]
  show (digN n).toArray.size ≤ 2
  unfold digN
  split <;> simp
set_option maxRecDepth 100000 in
theorem fam1_any (m : Int) (w : World) (h0 : 0 ≤ m) (h1 : m ≤ 100) : Calls Tryz.prog 49 #[.int .i64 m] w fun e w' => e = .returned (.agg #[.string ⟨#[]⟩, .int .i64 0, .int .i64 1, .int .u64 3, .bool true, .int .i64 m]) ∧ Below w.heap.size w w' := by
  have hB0 : Hid (BlkG (w.alloc (.cells info0.toArray 25)) w.heap.size 25 info0) := Lib.hid (BlkG.new w _ _)
  have hb0 : Hid (Below w.heap.size w (w.alloc (.cells info0.toArray 25))) := Lib.hid (xalloc (xrefl w) _)
  go_enter Tryz.func49, Tryz.ntmps49
  go_wp2_with (refine wpList_store_blkG rfl 25 _ _ rfl w.heap.size rfl 25 info0 [.string ⟨#[]⟩, .int .i64 0, .int .i64 1, .int .u64 3, .bool true, .int .i64 m] hB0.out rfl rfl (by kernel_rfl) rfl ?_; intro w2 hB2 ho2; have hB3 := Lib.hid hB2; have hb3 := Lib.hid (ho2.below hb0.out hb0.out.size (by rintro k rfl; exact Nat.le_refl _)); clear hB2 ho2)
  exact bodyPost_ret (results_blkG (p := 2) rfl _ _ w.heap.size 25 _ _ rfl hB3.out Tryz.underlying25 rfl (by kernel_rfl)) rfl ⟨rfl, hb3.out⟩
set_option maxRecDepth 100000 in
theorem fam2_any (m : Int) (w : World) (h0 : 0 ≤ m) (h1 : m ≤ 100) : Calls Tryz.prog 50 #[.int .i64 m] w fun e w' => e = .returned (.agg #[.string ⟨#[]⟩, .int .i64 m, .int .i64 (m + 1), .int .u64 3, .bool true, .int .i64 0]) ∧ Below w.heap.size w w' := by
  have hB0 : Hid (BlkG (w.alloc (.cells info0.toArray 25)) w.heap.size 25 info0) := Lib.hid (BlkG.new w _ _)
  have hb0 : Hid (Below w.heap.size w (w.alloc (.cells info0.toArray 25))) := Lib.hid (xalloc (xrefl w) _)
  go_enter Tryz.func50, Tryz.ntmps50
  go_wp2_with (refine wpList_store_blkG rfl 25 _ _ rfl w.heap.size rfl 25 info0 [.string ⟨#[]⟩, .int .i64 m, .int .i64 (m + 1), .int .u64 3, .bool true, .int .i64 0] hB0.out rfl rfl (by kernel_rfl) rfl ?_; intro w2 hB2 ho2; have hB3 := Lib.hid hB2; have hb3 := Lib.hid (ho2.below hb0.out hb0.out.size (by rintro k rfl; exact Nat.le_refl _)); clear hB2 ho2)
  exact bodyPost_ret (results_blkG (p := 2) rfl _ _ w.heap.size 25 _ _ rfl hB3.out Tryz.underlying25 rfl (by kernel_rfl)) rfl ⟨rfl, hb3.out⟩
set_option maxRecDepth 100000 in
theorem fam3_any (m : Int) (w : World) (h0 : 0 ≤ m) (h1 : m ≤ 100) : Calls Tryz.prog 51 #[.int .i64 m] w fun e w' => e = .returned (.agg #[.string ⟨#[]⟩, .int .i64 (m + 1), .int .i64 (m + 1), .int .u64 3, .bool true, .int .i64 0]) ∧ Below w.heap.size w w' := by
  have hB0 : Hid (BlkG (w.alloc (.cells info0.toArray 25)) w.heap.size 25 info0) := Lib.hid (BlkG.new w _ _)
  have hb0 : Hid (Below w.heap.size w (w.alloc (.cells info0.toArray 25))) := Lib.hid (xalloc (xrefl w) _)
  go_enter Tryz.func51, Tryz.ntmps51
  go_wp2_with (refine wpList_store_blkG rfl 25 _ _ rfl w.heap.size rfl 25 info0 [.string ⟨#[]⟩, .int .i64 (m + 1), .int .i64 (m + 1), .int .u64 3, .bool true, .int .i64 0] hB0.out rfl rfl (by kernel_rfl) rfl ?_; intro w2 hB2 ho2; have hB3 := Lib.hid hB2; have hb3 := Lib.hid (ho2.below hb0.out hb0.out.size (by rintro k rfl; exact Nat.le_refl _)); clear hB2 ho2)
  exact bodyPost_ret (results_blkG (p := 2) rfl _ _ w.heap.size 25 _ _ rfl hB3.out Tryz.underlying25 rfl (by kernel_rfl)) rfl ⟨rfl, hb3.out⟩
set_option maxRecDepth 100000 in
theorem fam4_any (m : Int) (w : World) (h0 : 0 ≤ m) (h1 : m ≤ 100) : Calls Tryz.prog 52 #[.int .i64 m] w fun e w' => e = .returned (.agg #[.string ⟨#[]⟩, .int .i64 (m + 1), .int .i64 0, .int .u64 (375 * m), .bool false, .int .i64 0]) ∧ Below w.heap.size w w' := by
  have hB0 : Hid (BlkG (w.alloc (.cells info0.toArray 25)) w.heap.size 25 info0) := Lib.hid (BlkG.new w _ _)
  have hb0 : Hid (Below w.heap.size w (w.alloc (.cells info0.toArray 25))) := Lib.hid (xalloc (xrefl w) _)
  go_enter Tryz.func52, Tryz.ntmps52
  go_wp2_with (refine wpList_store_blkG rfl 25 _ _ rfl w.heap.size rfl 25 info0 [.string ⟨#[]⟩, .int .i64 (m + 1), .int .i64 0, .int .u64 (375 * m), .bool false, .int .i64 0] hB0.out rfl rfl (by kernel_rfl) rfl ?_; intro w2 hB2 ho2; have hB3 := Lib.hid hB2; have hb3 := Lib.hid (ho2.below hb0.out hb0.out.size (by rintro k rfl; exact Nat.le_refl _)); clear hB2 ho2)
  exact bodyPost_ret (results_blkG (p := 2) rfl _ _ w.heap.size 25 _ _ rfl hB3.out Tryz.underlying25 rfl (by kernel_rfl)) rfl ⟨rfl, hb3.out⟩
theorem famI1 (i : Nat) (h : i < 32) : infoN (96 + i) = ⟨[80, 85, 83, 72] ++ digN (i + 1), 0, 1, 3, true, i + 1⟩ := by
  have e : famN (96 + i) = some ⟨[80, 85, 83, 72] ++ digN (i + 1), 0, 1, 3, true, i + 1⟩ := by
    unfold famN
    rw [if_pos (by omega)]
    rw [show 96 + i - 95 = i + 1 by omega]
  unfold infoN
  rw [e]
set_option maxRecDepth 100000 in
set_option maxHeartbeats 2000000 in
theorem faminfo1_any (i : Nat) (w : World) (h : i < 32) : Calls Tryz.prog 25 #[.agg #[.int .i64 96, .int .i64 32, .func (.func 49) #[] #[]], .string ⟨#[80, 85, 83, 72]⟩, .int .i64 i] w fun e w' => e = .returned (infoV (infoN (96 + i))) ∧ Below w.heap.size w w' := by
  rw [famI1 i h]
  have hB0 : Hid (BlkG ((w.alloc (.cells #[.int .i64 96, .int .i64 32, .func (.func 49) #[] #[]] 62)).alloc (.cells info0.toArray 25)) (w.heap.size + 1) 25 info0) := Lib.hid (by
    have := BlkG.new (w.alloc (.cells #[.int .i64 96, .int .i64 32, .func (.func 49) #[] #[]] 62)) 25 info0
    rwa [World.size_alloc] at this)
  have hb0 : Hid (Below w.heap.size w ((w.alloc (.cells #[.int .i64 96, .int .i64 32, .func (.func 49) #[] #[]] 62)).alloc (.cells info0.toArray 25))) := Lib.hid (xalloc (xalloc (xrefl w) _) _)
  have hfam := Lib.hid fun W => fam1_any ((i : Int) + 1) W (by omega) (by omega)
  have hit := Lib.hid fun W => Tryz.strconv_Itoa_small (i + 1) (by omega) W
  have hdg := Lib.hid (dig_dec (i + 1) (by omega))
  have hu := Tryz.underlying25
  have ci : ((i : Nat) : Int) + 1 = ((i + 1 : Nat) : Int) := by omega
  go_enter Tryz.func25, Tryz.ntmps25
  replace ci := Lib.hid ci
  obtain ⟨T1, hT1, hS1, hitt⟩ : ∃ T1 : ByteArray, T1 = ⟨(Lib.decDigits (i + 1)).toArray⟩ ∧ T1.size ≤ 2 ∧ ∀ W, Calls Tryz.prog 53 #[.int .i64 ((i : Int) + 1)] W fun e w' => e = .returned (.string T1) ∧ w' = W := ⟨_, rfl, dec_size (by omega), fun W => by rw [ci.out]; exact hit.out W⟩
  replace hT1 := Lib.hid hT1
  replace hitt := Lib.hid hitt
  go_wp2_with (first
    | (go_at_call 49; refine (hfam.out _).mono ?_; rintro e w1 ⟨rfl, hb1⟩; have hR := Lib.hid (hB0.out.below hb1); replace hb1 := Lib.hid (xtrans hb0.out hb1); clear hfam)
    | (refine wpList_store_blkG rfl 25 _ _ rfl w1.heap.size rfl 25 info0 [.string ⟨#[]⟩, .int .i64 0, .int .i64 1, .int .u64 3, .bool true, .int .i64 ((i : Int) + 1)] (BlkG.new w1 _ _) rfl rfl (by kernel_rfl) rfl ?_; intro w2 hX2 ho2; have hb2 := ho2.below (xalloc (xrefl w1) _) (by rw [World.size_alloc]; omega) (by rintro k rfl; exact Nat.le_refl _); have hR2 := Lib.hid (hR.out.below hb2); replace hb2 := Lib.hid (xtrans hb1.out hb2); replace hX2 := Lib.hid hX2; clear ho2)
    | (go_at_call 53; (first | (with_reducible refine (hitt.out _).mono ?_)); rintro e w' ⟨rfl, rfl⟩)
    | (refine wpList_store_at rfl 9 _ _ rfl w1.heap.size 0 rfl 25 _ (.string (⟨#[80, 85, 83, 72]⟩ ++ T1)) hX2.out (by show 0 < 6; omega) rfl (by kernel_rfl) rfl ?_; intro w3 hX3 ho3; have hR3 := Lib.hid (hR2.out.only ho3 (by have := hR.out.lt; omega)); have hb3 := Lib.hid (ho3.below hb2.out hb2.out.size (by rintro k rfl; exact hb1.out.size)); replace hX3 := Lib.hid hX3; clear ho3 hX2)
    | (refine wpList_load_blkG rfl 25 _ rfl w1.heap.size rfl 25 _ _ hX3.out hu rfl (by kernel_rfl) ?_)
    | (refine wpList_store_blkG rfl 25 _ _ rfl (w.heap.size + 1) rfl 25 info0 [.string (⟨#[80, 85, 83, 72]⟩ ++ T1), .int .i64 0, .int .i64 1, .int .u64 3, .bool true, .int .i64 ((i : Int) + 1)] hR3.out rfl rfl (by kernel_rfl) rfl ?_; intro w9 hX9 ho9; have hR9 := Lib.hid hX9; have hb9 := Lib.hid (ho9.below hb3.out hb3.out.size (by rintro k rfl; omega)); clear hX9 ho9))
  refine bodyPost_ret (results_blkG (p := 6) rfl _ _ (w.heap.size + 1) 25 _ _ rfl hR9.out hu rfl (by kernel_rfl)) rfl ⟨?_, hb9.out⟩
  have e : (⟨#[80, 85, 83, 72]⟩ : ByteArray) ++ T1 = ⟨([80, 85, 83, 72] ++ digN (i + 1)).toArray⟩ := by rw [hT1.out, hdg.out]; exact str_add [80, 85, 83, 72] _
  rw [e]
  rfl
theorem famI2 (i : Nat) (h : i < 16) : infoN (128 + i) = ⟨[68, 85, 80] ++ digN (i + 1), i + 1, i + 1 + 1, 3, true, 0⟩ := by
  have e : famN (128 + i) = some ⟨[68, 85, 80] ++ digN (i + 1), i + 1, i + 1 + 1, 3, true, 0⟩ := by
    unfold famN
    rw [if_neg (by omega)]
    rw [if_pos (by omega)]
    rw [show 128 + i - 127 = i + 1 by omega, show 128 + i - 126 = i + 1 + 1 by omega]
  unfold infoN
  rw [e]
set_option maxRecDepth 100000 in
set_option maxHeartbeats 2000000 in
theorem faminfo2_any (i : Nat) (w : World) (h : i < 16) : Calls Tryz.prog 25 #[.agg #[.int .i64 128, .int .i64 16, .func (.func 50) #[] #[]], .string ⟨#[68, 85, 80]⟩, .int .i64 i] w fun e w' => e = .returned (infoV (infoN (128 + i))) ∧ Below w.heap.size w w' := by
  rw [famI2 i h]
  have hB0 : Hid (BlkG ((w.alloc (.cells #[.int .i64 128, .int .i64 16, .func (.func 50) #[] #[]] 62)).alloc (.cells info0.toArray 25)) (w.heap.size + 1) 25 info0) := Lib.hid (by
    have := BlkG.new (w.alloc (.cells #[.int .i64 128, .int .i64 16, .func (.func 50) #[] #[]] 62)) 25 info0
    rwa [World.size_alloc] at this)
  have hb0 : Hid (Below w.heap.size w ((w.alloc (.cells #[.int .i64 128, .int .i64 16, .func (.func 50) #[] #[]] 62)).alloc (.cells info0.toArray 25))) := Lib.hid (xalloc (xalloc (xrefl w) _) _)
  have hfam := Lib.hid fun W => fam2_any ((i : Int) + 1) W (by omega) (by omega)
  have hit := Lib.hid fun W => Tryz.strconv_Itoa_small (i + 1) (by omega) W
  have hdg := Lib.hid (dig_dec (i + 1) (by omega))
  have hu := Tryz.underlying25
  have ci : ((i : Nat) : Int) + 1 = ((i + 1 : Nat) : Int) := by omega
  go_enter Tryz.func25, Tryz.ntmps25
  replace ci := Lib.hid ci
  obtain ⟨T1, hT1, hS1, hitt⟩ : ∃ T1 : ByteArray, T1 = ⟨(Lib.decDigits (i + 1)).toArray⟩ ∧ T1.size ≤ 2 ∧ ∀ W, Calls Tryz.prog 53 #[.int .i64 ((i : Int) + 1)] W fun e w' => e = .returned (.string T1) ∧ w' = W := ⟨_, rfl, dec_size (by omega), fun W => by rw [ci.out]; exact hit.out W⟩
  replace hT1 := Lib.hid hT1
  replace hitt := Lib.hid hitt
  go_wp2_with (first
    | (go_at_call 50; refine (hfam.out _).mono ?_; rintro e w1 ⟨rfl, hb1⟩; have hR := Lib.hid (hB0.out.below hb1); replace hb1 := Lib.hid (xtrans hb0.out hb1); clear hfam)
    | (refine wpList_store_blkG rfl 25 _ _ rfl w1.heap.size rfl 25 info0 [.string ⟨#[]⟩, .int .i64 ((i : Int) + 1), .int .i64 (((i : Int) + 1) + 1), .int .u64 3, .bool true, .int .i64 0] (BlkG.new w1 _ _) rfl rfl (by kernel_rfl) rfl ?_; intro w2 hX2 ho2; have hb2 := ho2.below (xalloc (xrefl w1) _) (by rw [World.size_alloc]; omega) (by rintro k rfl; exact Nat.le_refl _); have hR2 := Lib.hid (hR.out.below hb2); replace hb2 := Lib.hid (xtrans hb1.out hb2); replace hX2 := Lib.hid hX2; clear ho2)
    | (go_at_call 53; (first | (with_reducible refine (hitt.out _).mono ?_)); rintro e w' ⟨rfl, rfl⟩)
    | (refine wpList_store_at rfl 9 _ _ rfl w1.heap.size 0 rfl 25 _ (.string (⟨#[68, 85, 80]⟩ ++ T1)) hX2.out (by show 0 < 6; omega) rfl (by kernel_rfl) rfl ?_; intro w3 hX3 ho3; have hR3 := Lib.hid (hR2.out.only ho3 (by have := hR.out.lt; omega)); have hb3 := Lib.hid (ho3.below hb2.out hb2.out.size (by rintro k rfl; exact hb1.out.size)); replace hX3 := Lib.hid hX3; clear ho3 hX2)
    | (refine wpList_load_blkG rfl 25 _ rfl w1.heap.size rfl 25 _ _ hX3.out hu rfl (by kernel_rfl) ?_)
    | (refine wpList_store_blkG rfl 25 _ _ rfl (w.heap.size + 1) rfl 25 info0 [.string (⟨#[68, 85, 80]⟩ ++ T1), .int .i64 ((i : Int) + 1), .int .i64 (((i : Int) + 1) + 1), .int .u64 3, .bool true, .int .i64 0] hR3.out rfl rfl (by kernel_rfl) rfl ?_; intro w9 hX9 ho9; have hR9 := Lib.hid hX9; have hb9 := Lib.hid (ho9.below hb3.out hb3.out.size (by rintro k rfl; omega)); clear hX9 ho9))
  refine bodyPost_ret (results_blkG (p := 6) rfl _ _ (w.heap.size + 1) 25 _ _ rfl hR9.out hu rfl (by kernel_rfl)) rfl ⟨?_, hb9.out⟩
  have e : (⟨#[68, 85, 80]⟩ : ByteArray) ++ T1 = ⟨([68, 85, 80] ++ digN (i + 1)).toArray⟩ := by rw [hT1.out, hdg.out]; exact str_add [68, 85, 80] _
  rw [e]
  rfl
theorem famI3 (i : Nat) (h : i < 16) : infoN (144 + i) = ⟨[83, 87, 65, 80] ++ digN (i + 1), i + 1 + 1, i + 1 + 1, 3, true, 0⟩ := by
  have e : famN (144 + i) = some ⟨[83, 87, 65, 80] ++ digN (i + 1), i + 1 + 1, i + 1 + 1, 3, true, 0⟩ := by
    unfold famN
    rw [if_neg (by omega)]
    rw [if_neg (by omega)]
    rw [if_pos (by omega)]
    rw [show 144 + i - 143 = i + 1 by omega, show 144 + i - 142 = i + 1 + 1 by omega]
  unfold infoN
  rw [e]
set_option maxRecDepth 100000 in
set_option maxHeartbeats 2000000 in
theorem faminfo3_any (i : Nat) (w : World) (h : i < 16) : Calls Tryz.prog 25 #[.agg #[.int .i64 144, .int .i64 16, .func (.func 51) #[] #[]], .string ⟨#[83, 87, 65, 80]⟩, .int .i64 i] w fun e w' => e = .returned (infoV (infoN (144 + i))) ∧ Below w.heap.size w w' := by
  rw [famI3 i h]
  have hB0 : Hid (BlkG ((w.alloc (.cells #[.int .i64 144, .int .i64 16, .func (.func 51) #[] #[]] 62)).alloc (.cells info0.toArray 25)) (w.heap.size + 1) 25 info0) := Lib.hid (by
    have := BlkG.new (w.alloc (.cells #[.int .i64 144, .int .i64 16, .func (.func 51) #[] #[]] 62)) 25 info0
    rwa [World.size_alloc] at this)
  have hb0 : Hid (Below w.heap.size w ((w.alloc (.cells #[.int .i64 144, .int .i64 16, .func (.func 51) #[] #[]] 62)).alloc (.cells info0.toArray 25))) := Lib.hid (xalloc (xalloc (xrefl w) _) _)
  have hfam := Lib.hid fun W => fam3_any ((i : Int) + 1) W (by omega) (by omega)
  have hit := Lib.hid fun W => Tryz.strconv_Itoa_small (i + 1) (by omega) W
  have hdg := Lib.hid (dig_dec (i + 1) (by omega))
  have hu := Tryz.underlying25
  have ci : ((i : Nat) : Int) + 1 = ((i + 1 : Nat) : Int) := by omega
  go_enter Tryz.func25, Tryz.ntmps25
  replace ci := Lib.hid ci
  obtain ⟨T1, hT1, hS1, hitt⟩ : ∃ T1 : ByteArray, T1 = ⟨(Lib.decDigits (i + 1)).toArray⟩ ∧ T1.size ≤ 2 ∧ ∀ W, Calls Tryz.prog 53 #[.int .i64 ((i : Int) + 1)] W fun e w' => e = .returned (.string T1) ∧ w' = W := ⟨_, rfl, dec_size (by omega), fun W => by rw [ci.out]; exact hit.out W⟩
  replace hT1 := Lib.hid hT1
  replace hitt := Lib.hid hitt
  go_wp2_with (first
    | (go_at_call 51; refine (hfam.out _).mono ?_; rintro e w1 ⟨rfl, hb1⟩; have hR := Lib.hid (hB0.out.below hb1); replace hb1 := Lib.hid (xtrans hb0.out hb1); clear hfam)
    | (refine wpList_store_blkG rfl 25 _ _ rfl w1.heap.size rfl 25 info0 [.string ⟨#[]⟩, .int .i64 (((i : Int) + 1) + 1), .int .i64 (((i : Int) + 1) + 1), .int .u64 3, .bool true, .int .i64 0] (BlkG.new w1 _ _) rfl rfl (by kernel_rfl) rfl ?_; intro w2 hX2 ho2; have hb2 := ho2.below (xalloc (xrefl w1) _) (by rw [World.size_alloc]; omega) (by rintro k rfl; exact Nat.le_refl _); have hR2 := Lib.hid (hR.out.below hb2); replace hb2 := Lib.hid (xtrans hb1.out hb2); replace hX2 := Lib.hid hX2; clear ho2)
    | (go_at_call 53; (first | (with_reducible refine (hitt.out _).mono ?_)); rintro e w' ⟨rfl, rfl⟩)
    | (refine wpList_store_at rfl 9 _ _ rfl w1.heap.size 0 rfl 25 _ (.string (⟨#[83, 87, 65, 80]⟩ ++ T1)) hX2.out (by show 0 < 6; omega) rfl (by kernel_rfl) rfl ?_; intro w3 hX3 ho3; have hR3 := Lib.hid (hR2.out.only ho3 (by have := hR.out.lt; omega)); have hb3 := Lib.hid (ho3.below hb2.out hb2.out.size (by rintro k rfl; exact hb1.out.size)); replace hX3 := Lib.hid hX3; clear ho3 hX2)
    | (refine wpList_load_blkG rfl 25 _ rfl w1.heap.size rfl 25 _ _ hX3.out hu rfl (by kernel_rfl) ?_)
    | (refine wpList_store_blkG rfl 25 _ _ rfl (w.heap.size + 1) rfl 25 info0 [.string (⟨#[83, 87, 65, 80]⟩ ++ T1), .int .i64 (((i : Int) + 1) + 1), .int .i64 (((i : Int) + 1) + 1), .int .u64 3, .bool true, .int .i64 0] hR3.out rfl rfl (by kernel_rfl) rfl ?_; intro w9 hX9 ho9; have hR9 := Lib.hid hX9; have hb9 := Lib.hid (ho9.below hb3.out hb3.out.size (by rintro k rfl; omega)); clear hX9 ho9))
  refine bodyPost_ret (results_blkG (p := 6) rfl _ _ (w.heap.size + 1) 25 _ _ rfl hR9.out hu rfl (by kernel_rfl)) rfl ⟨?_, hb9.out⟩
  have e : (⟨#[83, 87, 65, 80]⟩ : ByteArray) ++ T1 = ⟨([83, 87, 65, 80] ++ digN (i + 1)).toArray⟩ := by rw [hT1.out, hdg.out]; exact str_add [83, 87, 65, 80] _
  rw [e]
  rfl
theorem famI4 (i : Nat) (h : i < 5) : infoN (160 + i) = ⟨[76, 79, 71] ++ digN i, i + 1 + 1, 0, 375 * (i + 1), false, 0⟩ := by
  have e : famN (160 + i) = some ⟨[76, 79, 71] ++ digN i, i + 1 + 1, 0, 375 * (i + 1), false, 0⟩ := by
    unfold famN
    rw [if_neg (by omega)]
    rw [if_neg (by omega)]
    rw [if_neg (by omega)]
    rw [if_pos (by omega)]
    rw [show 160 + i - 160 = i by omega, show 160 + i - 158 = i + 1 + 1 by omega, show 160 + i - 159 = i + 1 by omega]
  unfold infoN
  rw [e]
set_option maxRecDepth 100000 in
set_option maxHeartbeats 2000000 in
theorem faminfo4_any (i : Nat) (w : World) (h : i < 5) : Calls Tryz.prog 25 #[.agg #[.int .i64 160, .int .i64 5, .func (.func 52) #[] #[]], .string ⟨#[76, 79, 71]⟩, .int .i64 i] w fun e w' => e = .returned (infoV (infoN (160 + i))) ∧ Below w.heap.size w w' := by
  rw [famI4 i h]
  have hB0 : Hid (BlkG ((w.alloc (.cells #[.int .i64 160, .int .i64 5, .func (.func 52) #[] #[]] 62)).alloc (.cells info0.toArray 25)) (w.heap.size + 1) 25 info0) := Lib.hid (by
    have := BlkG.new (w.alloc (.cells #[.int .i64 160, .int .i64 5, .func (.func 52) #[] #[]] 62)) 25 info0
    rwa [World.size_alloc] at this)
  have hb0 : Hid (Below w.heap.size w ((w.alloc (.cells #[.int .i64 160, .int .i64 5, .func (.func 52) #[] #[]] 62)).alloc (.cells info0.toArray 25))) := Lib.hid (xalloc (xalloc (xrefl w) _) _)
  have hfam := Lib.hid fun W => fam4_any ((i : Int) + 1) W (by omega) (by omega)
  have hit := Lib.hid fun W => Tryz.strconv_Itoa_small (i + 1) (by omega) W
  have hit2 := Lib.hid fun W => Tryz.strconv_Itoa_small i (by omega) W
  have hdg := Lib.hid (dig_dec (i) (by omega))
  have hu := Tryz.underlying25
  have ci : ((i : Nat) : Int) + 1 = ((i + 1 : Nat) : Int) := by omega
  go_enter Tryz.func25, Tryz.ntmps25
  replace ci := Lib.hid ci
  obtain ⟨T1, hT1, hS1, hitt⟩ : ∃ T1 : ByteArray, T1 = ⟨(Lib.decDigits (i + 1)).toArray⟩ ∧ T1.size ≤ 2 ∧ ∀ W, Calls Tryz.prog 53 #[.int .i64 ((i : Int) + 1)] W fun e w' => e = .returned (.string T1) ∧ w' = W := ⟨_, rfl, dec_size (by omega), fun W => by rw [ci.out]; exact hit.out W⟩
  replace hT1 := Lib.hid hT1
  replace hitt := Lib.hid hitt
  obtain ⟨T2, hT2, hS2, hitt2⟩ : ∃ T2 : ByteArray, T2 = ⟨(Lib.decDigits i).toArray⟩ ∧ T2.size ≤ 2 ∧ ∀ W, Calls Tryz.prog 53 #[.int .i64 (i : Int)] W fun e w' => e = .returned (.string T2) ∧ w' = W := ⟨_, rfl, dec_size (by omega), fun W => hit2.out W⟩
  replace hT2 := Lib.hid hT2
  replace hitt2 := Lib.hid hitt2
  go_wp2_with (first
    | (go_at_call 52; refine (hfam.out _).mono ?_; rintro e w1 ⟨rfl, hb1⟩; have hR := Lib.hid (hB0.out.below hb1); replace hb1 := Lib.hid (xtrans hb0.out hb1); clear hfam)
    | (refine wpList_store_blkG rfl 25 _ _ rfl w1.heap.size rfl 25 info0 [.string ⟨#[]⟩, .int .i64 (((i : Int) + 1) + 1), .int .i64 0, .int .u64 (375 * ((i : Int) + 1)), .bool false, .int .i64 0] (BlkG.new w1 _ _) rfl rfl (by kernel_rfl) rfl ?_; intro w2 hX2 ho2; have hb2 := ho2.below (xalloc (xrefl w1) _) (by rw [World.size_alloc]; omega) (by rintro k rfl; exact Nat.le_refl _); have hR2 := Lib.hid (hR.out.below hb2); replace hb2 := Lib.hid (xtrans hb1.out hb2); replace hX2 := Lib.hid hX2; clear ho2)
    | (go_at_call 53; (first | (with_reducible refine (hitt.out _).mono ?_) | (with_reducible refine (hitt2.out _).mono ?_)); rintro e w' ⟨rfl, rfl⟩)
    | (refine wpList_store_at rfl 9 _ _ rfl w1.heap.size 0 rfl 25 _ (.string (⟨#[76, 79, 71]⟩ ++ T1)) hX2.out (by show 0 < 6; omega) rfl (by kernel_rfl) rfl ?_; intro w3 hX3 ho3; have hR3 := Lib.hid (hR2.out.only ho3 (by have := hR.out.lt; omega)); have hb3 := Lib.hid (ho3.below hb2.out hb2.out.size (by rintro k rfl; exact hb1.out.size)); replace hX3 := Lib.hid hX3; clear ho3 hX2)
    | (refine wpList_store_at rfl 9 _ _ rfl w1.heap.size 0 rfl 25 _ (.string (⟨#[76, 79, 71]⟩ ++ T2)) hX3.out (by show 0 < 6; omega) rfl (by kernel_rfl) rfl ?_; intro w4 hX4 ho4; have hR4 := Lib.hid (hR3.out.only ho4 (by have := hR.out.lt; omega)); have hb4 := Lib.hid (ho4.below hb3.out hb3.out.size (by rintro k rfl; exact hb1.out.size)); replace hX4 := Lib.hid hX4; clear ho4 hX3)
    | (refine wpList_load_blkG rfl 25 _ rfl w1.heap.size rfl 25 _ _ hX4.out hu rfl (by kernel_rfl) ?_)
    | (refine wpList_store_blkG rfl 25 _ _ rfl (w.heap.size + 1) rfl 25 info0 [.string (⟨#[76, 79, 71]⟩ ++ T2), .int .i64 (((i : Int) + 1) + 1), .int .i64 0, .int .u64 (375 * ((i : Int) + 1)), .bool false, .int .i64 0] hR4.out rfl rfl (by kernel_rfl) rfl ?_; intro w9 hX9 ho9; have hR9 := Lib.hid hX9; have hb9 := Lib.hid (ho9.below hb4.out hb4.out.size (by rintro k rfl; omega)); clear hX9 ho9))
  refine bodyPost_ret (results_blkG (p := 6) rfl _ _ (w.heap.size + 1) 25 _ _ rfl hR9.out hu rfl (by kernel_rfl)) rfl ⟨?_, hb9.out⟩
  have e : (⟨#[76, 79, 71]⟩ : ByteArray) ++ T2 = ⟨([76, 79, 71] ++ digN (i)).toArray⟩ := by rw [hT2.out, hdg.out]; exact str_add [76, 79, 71] _
  rw [e]
  rfl
end Go.Proofs.YtbicfaiabpcgfaaGreatDoor
namespace Go.Proofs.YtbicfaiabpcgfaaGreatDoor
open Go.RowKit Go.Shelf

def famL : List (Value × Value) := [(.string ⟨#[80, 85, 83, 72]⟩, .agg #[.int .i64 96, .int .i64 32, .func (.func 49) #[] #[]]), (.string ⟨#[68, 85, 80]⟩, .agg #[.int .i64 128, .int .i64 16, .func (.func 50) #[] #[]]), (.string ⟨#[83, 87, 65, 80]⟩, .agg #[.int .i64 144, .int .i64 16, .func (.func 51) #[] #[]]), (.string ⟨#[76, 79, 71]⟩, .agg #[.int .i64 160, .int .i64 5, .func (.func 52) #[] #[]])]
set_option maxRecDepth 100000 in
set_option maxHeartbeats 2000000 in
theorem families_any (w : World) : Calls Tryz.prog 24 #[] w fun e w' => (∃ b, e = .returned (.map (some b)) ∧ w'.heap[b]? = some (mapG famL) ∧ w.heap.size ≤ b) ∧ Below w.heap.size w w' := by
  have hM0 : Hid ((w.alloc (mapG [])).heap[w.heap.size]? = some (mapG [])) := Lib.hid (World.alloc_heap_new w _)
  have hb0 : Hid (Below w.heap.size w (w.alloc (mapG []))) := Lib.hid (xalloc (xrefl w) _)
  go_enter Tryz.func24, Tryz.ntmps24
  go_upto_region 1 with fail
  refine wp_region_lit ?_
  refine wpList_execW rfl (.map (some w.heap.size)) (w.alloc (mapG [])) rfl ?_
  generalize w.alloc (mapG []) = w0 at *
  simp only [Act.put, List.setIfInBounds_toArray, List.set_cons_succ, List.set_cons_zero]
  refine wpList_execW rfl (.agg #[.int .i64 96, .int .i64 32, .func (.func 49) #[] #[]]) w0 (by kernel_rfl) ?_
  simp only [Act.put, List.setIfInBounds_toArray, List.set_cons_succ, List.set_cons_zero]
  refine wpList_insertS rfl 58 9 62 _ _ _ rfl Tryz.underlying58 Tryz.underlying9 w.heap.size ⟨#[80, 85, 83, 72]⟩ (.agg #[.int .i64 96, .int .i64 32, .func (.func 49) #[] #[]]) [] rfl rfl rfl hM0.out (by kernel_rfl) ?_
  intro w1 hM1 hq
  replace hM1 := Lib.hid hM1
  have hb1 := Lib.hid (hq.below hb0.out hb0.out.size (by rintro k rfl; exact Nat.le_refl _))
  clear hq
  simp only [Act.put, List.setIfInBounds_toArray, List.set_cons_succ, List.set_cons_zero]
  refine wpList_execW rfl (.agg #[.int .i64 128, .int .i64 16, .func (.func 50) #[] #[]]) w1 (by kernel_rfl) ?_
  simp only [Act.put, List.setIfInBounds_toArray, List.set_cons_succ, List.set_cons_zero]
  refine wpList_insertS rfl 58 9 62 _ _ _ rfl Tryz.underlying58 Tryz.underlying9 w.heap.size ⟨#[68, 85, 80]⟩ (.agg #[.int .i64 128, .int .i64 16, .func (.func 50) #[] #[]]) [(.string ⟨#[80, 85, 83, 72]⟩, .agg #[.int .i64 96, .int .i64 32, .func (.func 49) #[] #[]])] rfl rfl rfl hM1.out (by kernel_rfl) ?_
  intro w2 hM2 hq
  replace hM2 := Lib.hid hM2
  have hb2 := Lib.hid (hq.below hb1.out hb1.out.size (by rintro k rfl; exact Nat.le_refl _))
  clear hq
  simp only [Act.put, List.setIfInBounds_toArray, List.set_cons_succ, List.set_cons_zero]
  refine wpList_execW rfl (.agg #[.int .i64 144, .int .i64 16, .func (.func 51) #[] #[]]) w2 (by kernel_rfl) ?_
  simp only [Act.put, List.setIfInBounds_toArray, List.set_cons_succ, List.set_cons_zero]
  refine wpList_insertS rfl 58 9 62 _ _ _ rfl Tryz.underlying58 Tryz.underlying9 w.heap.size ⟨#[83, 87, 65, 80]⟩ (.agg #[.int .i64 144, .int .i64 16, .func (.func 51) #[] #[]]) [(.string ⟨#[80, 85, 83, 72]⟩, .agg #[.int .i64 96, .int .i64 32, .func (.func 49) #[] #[]]), (.string ⟨#[68, 85, 80]⟩, .agg #[.int .i64 128, .int .i64 16, .func (.func 50) #[] #[]])] rfl rfl rfl hM2.out (by kernel_rfl) ?_
  intro w3 hM3 hq
  replace hM3 := Lib.hid hM3
  have hb3 := Lib.hid (hq.below hb2.out hb2.out.size (by rintro k rfl; exact Nat.le_refl _))
  clear hq
  simp only [Act.put, List.setIfInBounds_toArray, List.set_cons_succ, List.set_cons_zero]
  refine wpList_execW rfl (.agg #[.int .i64 160, .int .i64 5, .func (.func 52) #[] #[]]) w3 (by kernel_rfl) ?_
  simp only [Act.put, List.setIfInBounds_toArray, List.set_cons_succ, List.set_cons_zero]
  refine wpList_insertS rfl 58 9 62 _ _ _ rfl Tryz.underlying58 Tryz.underlying9 w.heap.size ⟨#[76, 79, 71]⟩ (.agg #[.int .i64 160, .int .i64 5, .func (.func 52) #[] #[]]) [(.string ⟨#[80, 85, 83, 72]⟩, .agg #[.int .i64 96, .int .i64 32, .func (.func 49) #[] #[]]), (.string ⟨#[68, 85, 80]⟩, .agg #[.int .i64 128, .int .i64 16, .func (.func 50) #[] #[]]), (.string ⟨#[83, 87, 65, 80]⟩, .agg #[.int .i64 144, .int .i64 16, .func (.func 51) #[] #[]])] rfl rfl rfl hM3.out (by kernel_rfl) ?_
  intro w4 hM4 hq
  replace hM4 := Lib.hid hM4
  have hb4 := Lib.hid (hq.below hb3.out hb3.out.size (by rintro k rfl; exact Nat.le_refl _))
  clear hq
  simp only [Act.put, List.setIfInBounds_toArray, List.set_cons_succ, List.set_cons_zero]
  refine wpList_execW rfl (.map (some w.heap.size)) w4 rfl ?_
  refine wpList_execW rfl (.map (some w.heap.size)) w4 rfl ?_
  refine wpList_nil ?_
  simp only [Act.put, List.setIfInBounds_toArray, List.set_cons_succ, List.set_cons_zero]
  go_wp2
  go_ret
  exact ⟨⟨_, rfl, hM4.out, Nat.le_refl _⟩, hb4.out⟩
end Go.Proofs.YtbicfaiabpcgfaaGreatDoor
