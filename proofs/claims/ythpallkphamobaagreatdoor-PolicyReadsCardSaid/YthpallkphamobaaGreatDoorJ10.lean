/- Texts of this claim, merged; no condition. -/
import Derived.Laws.Externs
import Derived.Lib.BytesEntry
import Derived.Test.YthpallkphamobaaGreatDoorJ09
set_option linter.all false
namespace Go.Proofs.YthpallkphamobaaGreatDoor
open Go.RowKit Go.Shelf

theorem ordA_at : ∀ (i : Nat) {a b : List Nat} {x y : Nat}, (∀ j, j < i → a[j]? = b[j]?) → a[i]? = some x → b[i]? = some y → x ≠ y → ordA a b = if x < y then -1 else 1
  | 0, a :: r, b :: s, x, y, _, hx, hy, hne => by
    simp at hx hy
    subst hx; subst hy
    rw [ordA]
    by_cases h : a < b
    · rw [if_pos h, if_pos h]
    · rw [if_neg h, if_neg h, if_pos (by omega)]
  | i + 1, a :: r, b :: s, x, y, h, hx, hy, hne => by
    have h0 := h 0 (by omega)
    simp at h0 hx hy
    subst h0
    rw [ordA, if_neg (by omega), if_neg (by omega)]
    exact ordA_at i (fun j hj => by have := h (j + 1) (by omega); simpa using this) hx hy hne
  | _, [], _, _, _, _, hx, _, _ => by simp at hx
  | _, _ :: _, [], _, _, _, _, hy, _ => by simp at hy
theorem byte_at {a : List Nat} (h : Adr a) {i : Nat} (hi : i < 20) : ∃ x, a[i]? = some x ∧ x < 256 ∧ (⟨(Lib.bytesOf (natI a)).toArray⟩ : ByteArray)[i]! = UInt8.ofNat x := by
  obtain ⟨x, hx, hx2, -⟩ := h.get hi
  refine ⟨x, hx, hx2, ?_⟩
  obtain ⟨hl, rfl⟩ := List.getElem?_eq_some_iff.1 hx
  have hs : i < (⟨(Lib.bytesOf (natI a)).toArray⟩ : ByteArray).size := by show i < (Lib.bytesOf (natI a)).toArray.size; simp [Lib.bytesOf, natI]; exact hl
  rw [getElem!_pos (⟨(Lib.bytesOf (natI a)).toArray⟩ : ByteArray) i hs]
  show (Lib.bytesOf (natI a)).toArray[i]'(by simpa [Lib.bytesOf, natI] using hl) = _
  simp [Lib.bytesOf, natI]
theorem bytes_size {a : List Nat} (h : Adr a) : (⟨(Lib.bytesOf (natI a)).toArray⟩ : ByteArray).size = 20 := by
  show (Lib.bytesOf (natI a)).toArray.size = 20
  simp [Lib.bytesOf, natI, h.len]
theorem u8_ne {x y : Nat} (hx : x < 256) (hy : y < 256) : (UInt8.ofNat x != UInt8.ofNat y) = decide (x ≠ y) := by
  rw [Bool.eq_iff_iff, bne_iff_ne, decide_eq_true_eq]
  constructor
  · intro h e; exact h (by rw [e])
  · intro h e
    have := congrArg UInt8.toNat e
    rw [UInt8.toNat_ofNat', UInt8.toNat_ofNat'] at this
    omega
theorem u8_lt {x y : Nat} (hx : x < 256) (hy : y < 256) : (UInt8.ofNat x < UInt8.ofNat y) ↔ x < y := by
  rw [UInt8.lt_iff_toNat_lt, UInt8.toNat_ofNat', UInt8.toNat_ofNat']
  omega
theorem cmp_ord {a b : List Nat} (ha : Adr a) (hb : Adr b) : Extern.BytealgCompare.cmp ⟨(Lib.bytesOf (natI a)).toArray⟩ ⟨(Lib.bytesOf (natI b)).toArray⟩ = ordA a b := by
  unfold Extern.BytealgCompare.cmp
  rw [bytes_size ha, bytes_size hb]
  cases hf : (List.range (min 20 20)).find? fun i => (⟨(Lib.bytesOf (natI a)).toArray⟩ : ByteArray)[i]! != (⟨(Lib.bytesOf (natI b)).toArray⟩ : ByteArray)[i]! with
  | some i =>
    obtain ⟨hp, hi, hn⟩ := List.find?_range_eq_some.1 hf
    have hi2 : i < 20 := by simpa using List.mem_range.1 hi
    obtain ⟨x, hx, hx2, ex⟩ := byte_at ha hi2
    obtain ⟨y, hy, hy2, ey⟩ := byte_at hb hi2
    rw [ex, ey, u8_ne hx2 hy2] at hp
    have hne : x ≠ y := by simpa using hp
    have hpre : ∀ j, j < i → a[j]? = b[j]? := fun j hj => by
      obtain ⟨u, hu, hu2, eu⟩ := byte_at ha (show j < 20 by omega)
      obtain ⟨v, hv, hv2, ev⟩ := byte_at hb (show j < 20 by omega)
      have := hn j hj
      rw [eu, ev, u8_ne hu2 hv2] at this
      have : u = v := by simpa using this
      rw [hu, hv, this]
    rw [ordA_at i hpre hx hy hne]
    dsimp only
    rw [ex, ey]
    by_cases h : x < y
    · rw [if_pos h, if_pos ((u8_lt hx2 hy2).2 h)]
    · rw [if_neg h, if_neg (fun h2 => h ((u8_lt hx2 hy2).1 h2))]
  | none =>
    have hn := List.find?_range_eq_none.1 hf
    have he : a = b := by
      apply List.ext_getElem?
      intro j
      by_cases hj : j < 20
      · obtain ⟨u, hu, hu2, eu⟩ := byte_at ha hj
        obtain ⟨v, hv, hv2, ev⟩ := byte_at hb hj
        have := hn j (by simpa using hj)
        rw [eu, ev, u8_ne hu2 hv2] at this
        have : u = v := by simpa using this
        rw [hu, hv, this]
      · rw [List.getElem?_eq_none (by rw [ha.len]; omega), List.getElem?_eq_none (by rw [hb.len]; omega)]
    subst he
    rw [ordA_self]
    rfl
theorem run_compare (a b : List Nat) (ha : Adr a) (hb : Adr b) (p q : Nat) (w : World) (hA : BlkG w p 29 (adrC a)) (hB : BlkG w q 29 (adrC b)) :
    (callFunc 93 #[.slice (some ⟨p, 0, none⟩) 20 20, .slice (some ⟨q, 0, none⟩) 20 20]).run Tryz.prog w = .ok (.value (.int .i64 (ordA a b))) w := by
  rw [run_callFunc_extern Tryz.func93 (by kernel_rfl) (by kernel_rfl) (by kernel_rfl) (show Extern.find _ = some Extern.BytealgCompare.compare by kernel_rfl)]
  have h1 := Lib.run_loadBytesX (P := Tryz.prog) w (natI a) ⟨p, 0, none⟩ .empty (fun j x hx => by
    rw [Addr.add_lit, Nat.zero_add]
    exact blk_cell hA (by unfold adrC; rw [List.getElem?_map, hx]; rfl))
  have h2 := Lib.run_loadBytesX (P := Tryz.prog) w (natI b) ⟨q, 0, none⟩ .empty (fun j x hx => by
    rw [Addr.add_lit, Nat.zero_add]
    exact blk_cell hB (by unfold adrC; rw [List.getElem?_map, hx]; rfl))
  rw [natI_len, ha.len] at h1
  rw [natI_len, hb.len] at h2
  have e1 : Extern.BytealgCompare.compare #[.slice (some ⟨p, 0, none⟩) 20 20, .slice (some ⟨q, 0, none⟩) 20 20] = (do pure (goInt (Extern.BytealgCompare.cmp (← Extern.Bytes.bytesOf (.slice (some ⟨p, 0, none⟩) 20 20)) (← Extern.Bytes.bytesOf (.slice (some ⟨q, 0, none⟩) 20 20))))) := rfl
  rw [e1]
  simp only [Extern.Bytes.bytesOf, Sem.run_bind, h1, h2, Result.andThen_ok, Sem.run_pure]
  have e0 : ∀ l : List UInt8, (ByteArray.empty.data ++ l.toArray) = l.toArray := fun l => by rw [show ByteArray.empty.data = #[] from rfl]; simp
  rw [e0, e0, cmp_ord ha hb]
  rfl
set_option maxRecDepth 100000 in
theorem compare_any (a b : List Nat) (ha : Adr a) (hb : Adr b) (p q : Nat) (w : World) (hA : BlkG w p 29 (adrC a)) (hB : BlkG w q 29 (adrC b)) :
    Calls Tryz.prog 53 #[.slice (some ⟨p, 0, none⟩) 20 20, .slice (some ⟨q, 0, none⟩) 20 20] w fun e w' => e = .returned (.int .i64 (ordA a b)) ∧ w = w' := by
  have hr := run_compare a b ha hb p q w hA hB
  clear hA hB
  go_enter Tryz.func53, Tryz.ntmps53
  go_wp2
  go_ret
  exact ⟨rfl, rfl⟩

set_option maxRecDepth 100000 in
set_option maxHeartbeats 2000000 in
theorem order_any (a b : List Nat) (w : World) (ha : Adr a) (hbb : Adr b) :
    Calls Tryz.prog 21 #[adrV a, adrV b] w fun e w' => e = .returned (.int .i64 (ordA a b)) ∧ Below w.heap.size w w' := by
  have hbe : Below w.heap.size w ((w.alloc (.cells (adrC a).toArray 29)).alloc (.cells (adrC b).toArray 29)) := xalloc (xalloc (xrefl w) _) _
  have hA : BlkG ((w.alloc (.cells (adrC a).toArray 29)).alloc (.cells (adrC b).toArray 29)) w.heap.size 29 (adrC a) := (BlkG.new w _ _).below (xalloc (xrefl _) _)
  have hB : BlkG ((w.alloc (.cells (adrC a).toArray 29)).alloc (.cells (adrC b).toArray 29)) (w.heap.size + 1) 29 (adrC b) := by
    have := BlkG.new (w.alloc (.cells (adrC a).toArray 29)) 29 (adrC b)
    rwa [World.size_alloc] at this
  unfold adrV
  go_enter Tryz.func21, Tryz.ntmps21
  go_wp2
  generalize (w.alloc (.cells (adrC a).toArray 29)).alloc (.cells (adrC b).toArray 29) = w2 at *
  replace hA := Lib.hid hA
  replace hB := Lib.hid hB
  replace hbe := Lib.hid hbe
  refine' wp_region_growL 3 [fixd (.slice (some ⟨w.heap.size, 0, none⟩) 20 20), fixd (.slice (some ⟨w.heap.size + 1, 0, none⟩) 20 20), fixd (.int .i64 (ordA a b))] (by kernel_rfl) (by kernel_rfl) ?_
  simp only [List.take_succ_cons, List.take_zero, List.drop_succ_cons, List.drop_zero]
  try simp only [Act.put, List.setIfInBounds_toArray, List.set_cons_succ, List.set_cons_zero, List.nil_append, List.cons_append]
  apply wpGrowV_fix (.slice (some ⟨w.heap.size, 0, none⟩) 20 20) rfl rfl
  · intro W hb hF
    go_simp
    first | exact xrefl W | exact ⟨rfl, xrefl W⟩
  try simp only [Act.put, List.setIfInBounds_toArray, List.set_cons_succ, List.set_cons_zero, List.nil_append, List.cons_append]
  apply wpGrowV_fix (.slice (some ⟨w.heap.size + 1, 0, none⟩) 20 20) rfl rfl
  · intro W hb hF
    go_simp
    first | exact xrefl W | exact ⟨rfl, xrefl W⟩
  try simp only [Act.put, List.setIfInBounds_toArray, List.set_cons_succ, List.set_cons_zero, List.nil_append, List.cons_append]
  apply wpGrowV_fix (.int .i64 (ordA a b)) rfl rfl
  · intro W hb hF
    go_simp
    go_at_call 53
    refine (compare_any a b ha hbb _ _ W (BlkG.below hA.out hb) (BlkG.below hB.out hb)).mono ?_
    rintro e w' ⟨rfl, rfl⟩
    exact ⟨rfl, xrefl _⟩
  try simp only [Act.put, List.setIfInBounds_toArray, List.set_cons_succ, List.set_cons_zero, List.nil_append, List.cons_append]
  intro W hbW _
  go_wp2
  go_ret
  exact ⟨rfl, xtrans hbe.out hbW⟩
theorem cmpU_any (x y : Nat) (w : World) : Calls Tryz.prog 78 #[.int .u32 x, .int .u32 y] w fun e w' => e = .returned (.int .i64 (cmpI x y)) ∧ Below w.heap.size w w' := by
  have hn : ∀ (x : Int) W, Calls Tryz.prog 108 #[.int .u32 x] W fun e w' => e = .returned (.bool false) ∧ W = w' := fun x W => by
    go_enter Tryz.func108, Tryz.ntmps108
    go_wp2
    go_ret
    exact ⟨rfl, rfl⟩
  have hn2 := Lib.hid hn
  unfold cmpI
  clear hn
  by_cases h1 : x < y
  · have h1I : (x : Int) < y := by omega
    rw [if_pos h1]
    clear h1
    go_enter Tryz.func78, Tryz.ntmps78
    go_wp2_with (go_at_call 108; refine (hn2.out _ _).mono ?_; rintro e w' ⟨rfl, rfl⟩)
    go_ret
    exact ⟨rfl, xrefl _⟩
  · have h1I : ¬ (x : Int) < y := by omega
    rw [if_neg h1]
    by_cases h2 : y < x
    · have h2I : (y : Int) < x := by omega
      rw [if_pos h2]
      clear h1 h2
      go_enter Tryz.func78, Tryz.ntmps78
      go_wp2_with (go_at_call 108; refine (hn2.out _ _).mono ?_; rintro e w' ⟨rfl, rfl⟩)
      go_ret
      exact ⟨rfl, xrefl _⟩
    · have h2I : ¬ (y : Int) < x := by omega
      rw [if_neg h2]
      clear h1 h2
      go_enter Tryz.func78, Tryz.ntmps78
      go_wp2_with (go_at_call 108; refine (hn2.out _ _).mono ?_; rintro e w' ⟨rfl, rfl⟩)
      go_ret
      exact ⟨rfl, xrefl _⟩
theorem orI_any (x y : Int) (b : Nat) (w : World) (h : RowAt .i64 w (some ⟨b, 0, none⟩) [x, y]) : Calls Tryz.prog 77 #[.slice (some ⟨b, 0, none⟩) 2 2] w fun e w' => e = .returned (.int .i64 (if x = 0 then y else x)) ∧ w = w' := by
  obtain ⟨b1, o1, e1, c0⟩ := id h 0 (by simp)
  cases e1
  obtain ⟨b1, o1, e1, c1⟩ := id h 1 (by simp)
  cases e1
  replace c0 : w.cell? ⟨b, 0, none⟩ = some (.int .i64 x) := c0
  replace c1 : w.cell? ⟨b, 1, none⟩ = some (.int .i64 y) := c1
  clear h
  by_cases hx : x = 0
  · subst hx
    rw [if_pos rfl]
    by_cases hy : y = 0
    · subst hy
      go_enter Tryz.func77, Tryz.ntmps77
      go_wp2
      refine wp_loop_rounds 3 ?_
      rw [rounds_succ]
      go_wp2
      rw [rounds_succ]
      go_wp2
      rw [rounds_succ]
      go_wp2
      go_ret
      exact ⟨rfl, rfl⟩
    · go_enter Tryz.func77, Tryz.ntmps77
      go_wp2
      refine wp_loop_rounds 3 ?_
      rw [rounds_succ]
      go_wp2
      rw [rounds_succ]
      go_wp2
      go_ret
      exact ⟨rfl, rfl⟩
  · rw [if_neg hx]
    go_enter Tryz.func77, Tryz.ntmps77
    go_wp2
    refine wp_loop_rounds 3 ?_
    rw [rounds_succ]
    go_wp2
    go_ret
    exact ⟨rfl, rfl⟩
set_option maxRecDepth 100000 in
set_option maxHeartbeats 2000000 in
theorem right1_any (x y : List Nat × BitVec 64) (w : World) (hx : Adr x.1) (hy : Adr y.1) :
    Calls Tryz.prog 74 #[.agg (clearC x).toArray, .agg (clearC y).toArray] w fun e w' => e = .returned (.int .i64 (ordC x y)) ∧ Below w.heap.size w w' := by
  have hbe : Below w.heap.size w ((w.alloc (.cells (clearC x).toArray 65)).alloc (.cells (clearC y).toArray 65)) := xalloc (xalloc (xrefl w) _) _
  have hX : BlkG ((w.alloc (.cells (clearC x).toArray 65)).alloc (.cells (clearC y).toArray 65)) w.heap.size 65 (clearC x) := (BlkG.new w _ _).below (xalloc (xrefl _) _)
  have hY : BlkG ((w.alloc (.cells (clearC x).toArray 65)).alloc (.cells (clearC y).toArray 65)) (w.heap.size + 1) 65 (clearC y) := by
    have := BlkG.new (w.alloc (.cells (clearC x).toArray 65)) 65 (clearC y)
    rwa [World.size_alloc] at this
  have hXr := Lib.hid hX.range
  have hYr := Lib.hid hY.range
  have hord := Lib.hid fun W => order_any x.1 y.1 W hx hy
  replace hx := Lib.hid hx
  replace hy := Lib.hid hy
  replace hbe := Lib.hid hbe
  unfold adrV at hord
  clear hX hY
  go_enter Tryz.func74, Tryz.ntmps74
  go_wp2_with (first
    | (refine wpList_load_mid rfl 29 _ rfl w.heap.size 0 rfl (adrC x.1) _ (fun j v hj => hXr.out j v (pre_get hj)) Tryz.underlying29 rfl (by rw [adrC_len, hx.out.len]; kernel_rfl) ?_)
    | (refine wpList_load_mid rfl 29 _ rfl (w.heap.size + 1) 0 rfl (adrC y.1) _ (fun j v hj => hYr.out j v (pre_get hj)) Tryz.underlying29 rfl (by rw [adrC_len, hy.out.len]; kernel_rfl) ?_)
    | (go_at_call 21; refine (hord.out _).mono ?_; rintro e w6 ⟨rfl, hb6⟩; replace hb6 := Lib.hid hb6))
  go_ret
  exact ⟨rfl, xtrans hbe.out hb6.out⟩
set_option maxRecDepth 100000 in
set_option maxHeartbeats 2000000 in
theorem right2_any (x y : List Nat × Nat × BitVec 64) (w : World) (hx : Adr x.1) (hy : Adr y.1) :
    Calls Tryz.prog 76 #[.agg (relC x).toArray, .agg (relC y).toArray] w fun e w' => e = .returned (.int .i64 (ordR x y)) ∧ Below w.heap.size w w' := by
  have hbe : Below w.heap.size w ((w.alloc (.cells (relC x).toArray 67)).alloc (.cells (relC y).toArray 67)) := xalloc (xalloc (xrefl w) _) _
  have hX : BlkG ((w.alloc (.cells (relC x).toArray 67)).alloc (.cells (relC y).toArray 67)) w.heap.size 67 (relC x) := (BlkG.new w _ _).below (xalloc (xrefl _) _)
  have hY : BlkG ((w.alloc (.cells (relC x).toArray 67)).alloc (.cells (relC y).toArray 67)) (w.heap.size + 1) 67 (relC y) := by
    have := BlkG.new (w.alloc (.cells (relC x).toArray 67)) 67 (relC y)
    rwa [World.size_alloc] at this
  have cX := blk_cell hX (ent_get x.1 hx.len x.2.1 x.2.2).1
  have cY := blk_cell hY (ent_get y.1 hy.len y.2.1 y.2.2).1
  replace hX := Lib.hid hX.range
  replace hY := Lib.hid hY.range
  replace hx := Lib.hid hx
  replace hy := Lib.hid hy
  go_enter Tryz.func76, Tryz.ntmps76
  go_wp2
  generalize (w.alloc (.cells (relC x).toArray 67)).alloc (.cells (relC y).toArray 67) = w2 at *
  replace cX := Lib.hid cX
  replace cY := Lib.hid cY
  replace hbe := Lib.hid hbe
  refine' wp_region_growL 12 [fixd (.pointer (some ⟨w.heap.size, 0, none⟩)), fixd (adrV x.1), fixd (.pointer (some ⟨w.heap.size + 1, 0, none⟩)), fixd (adrV y.1), fixd (.int .i64 (ordA x.1 y.1)), fixd (.pointer (some ⟨w.heap.size, 20, none⟩)), fixd (.int .u32 x.2.1), fixd (.pointer (some ⟨w.heap.size + 1, 20, none⟩)), fixd (.int .u32 y.2.1), fixd (.int .i64 (cmpI x.2.1 y.2.1)), rowT .i64 [ordA x.1 y.1, cmpI x.2.1 y.2.1], fixd (.int .i64 (ordR x y))] (by kernel_rfl) (by kernel_rfl) ?_
  simp only [List.take_succ_cons, List.take_zero, List.drop_succ_cons, List.drop_zero]
  try simp only [Act.put, List.setIfInBounds_toArray, List.set_cons_succ, List.set_cons_zero, List.nil_append, List.cons_append]
  apply wpGrowV_fix (.pointer (some ⟨w.heap.size, 0, none⟩)) rfl rfl
  · intro W hb hF
    go_simp
    first | exact xrefl W | exact ⟨rfl, xrefl W⟩
  try simp only [Act.put, List.setIfInBounds_toArray, List.set_cons_succ, List.set_cons_zero, List.nil_append, List.cons_append]
  apply wpGrowV_fix (adrV x.1) rfl rfl
  · intro W hb hF
    rw [run_load_midV 29 _ rfl (w.heap.size) (0) rfl (adrC x.1) _ (fun j v hj => cbel hb (hX.out j v (pre_get hj))) Tryz.underlying29 rfl (by rw [adrC_len, hx.out.len]; kernel_rfl)]
    exact ⟨rfl, xrefl W⟩
  try simp only [Act.put, List.setIfInBounds_toArray, List.set_cons_succ, List.set_cons_zero, List.nil_append, List.cons_append]
  apply wpGrowV_fix (.pointer (some ⟨w.heap.size + 1, 0, none⟩)) rfl rfl
  · intro W hb hF
    go_simp
    first | exact xrefl W | exact ⟨rfl, xrefl W⟩
  try simp only [Act.put, List.setIfInBounds_toArray, List.set_cons_succ, List.set_cons_zero, List.nil_append, List.cons_append]
  apply wpGrowV_fix (adrV y.1) rfl rfl
  · intro W hb hF
    rw [run_load_midV 29 _ rfl (w.heap.size + 1) (0) rfl (adrC y.1) _ (fun j v hj => cbel hb (hY.out j v (pre_get hj))) Tryz.underlying29 rfl (by rw [adrC_len, hy.out.len]; kernel_rfl)]
    exact ⟨rfl, xrefl W⟩
  try simp only [Act.put, List.setIfInBounds_toArray, List.set_cons_succ, List.set_cons_zero, List.nil_append, List.cons_append]
  apply wpGrowV_fix (.int .i64 (ordA x.1 y.1)) rfl rfl
  · intro W hb hF
    go_simp
    go_at_call 21
    refine (order_any x.1 y.1 W hx.out hy.out).mono ?_
    rintro e w' ⟨rfl, hb'⟩
    exact ⟨rfl, hb'⟩
  try simp only [Act.put, List.setIfInBounds_toArray, List.set_cons_succ, List.set_cons_zero, List.nil_append, List.cons_append]
  apply wpGrowV_fix (.pointer (some ⟨w.heap.size, 20, none⟩)) rfl rfl
  · intro W hb hF
    go_simp
    first | exact xrefl W | exact ⟨rfl, xrefl W⟩
  try simp only [Act.put, List.setIfInBounds_toArray, List.set_cons_succ, List.set_cons_zero, List.nil_append, List.cons_append]
  apply wpGrowV_fix (.int .u32 x.2.1) rfl rfl
  · intro W hb hF
    have c := cbel hb cX.out
    go_simp
    first | exact xrefl W | exact ⟨rfl, xrefl W⟩
  try simp only [Act.put, List.setIfInBounds_toArray, List.set_cons_succ, List.set_cons_zero, List.nil_append, List.cons_append]
  apply wpGrowV_fix (.pointer (some ⟨w.heap.size + 1, 20, none⟩)) rfl rfl
  · intro W hb hF
    go_simp
    first | exact xrefl W | exact ⟨rfl, xrefl W⟩
  try simp only [Act.put, List.setIfInBounds_toArray, List.set_cons_succ, List.set_cons_zero, List.nil_append, List.cons_append]
  apply wpGrowV_fix (.int .u32 y.2.1) rfl rfl
  · intro W hb hF
    have c := cbel hb cY.out
    go_simp
    first | exact xrefl W | exact ⟨rfl, xrefl W⟩
  try simp only [Act.put, List.setIfInBounds_toArray, List.set_cons_succ, List.set_cons_zero, List.nil_append, List.cons_append]
  apply wpGrowV_fix (.int .i64 (cmpI x.2.1 y.2.1)) rfl rfl
  · intro W hb hF
    go_simp
    go_at_call 78
    refine (cmpU_any x.2.1 y.2.1 W).mono ?_
    rintro e w' ⟨rfl, hb'⟩
    exact ⟨rfl, hb'⟩
  try simp only [Act.put, List.setIfInBounds_toArray, List.set_cons_succ, List.set_cons_zero, List.nil_append, List.cons_append]
  refine wpGrowV_any (rowT .i64 [ordA x.1 y.1, cmpI x.2.1 y.2.1]) rfl rfl ?_ ?_
  · intro W hb hF
    go_simp
    exact ⟨⟨⟨_, rfl⟩, fun b e => by cases e; exact rowAt_new W _ _⟩, xalloc (xrefl W) _⟩
  rintro v hv
  obtain ⟨b15, rfl⟩ := hv
  try simp only [Act.put, List.setIfInBounds_toArray, List.set_cons_succ, List.set_cons_zero, List.nil_append, List.cons_append]
  apply wpGrowV_fix (.int .i64 (ordR x y)) rfl rfl
  · intro W hb hF
    have h15 := hF 10 (by kernel_rfl) (by simp) b15 rfl
    clear hF
    go_simp
    go_at_call 77
    refine (orI_any (ordA x.1 y.1) (cmpI x.2.1 y.2.1) b15 W h15).mono ?_
    rintro e w' ⟨rfl, rfl⟩
    exact ⟨rfl, xrefl _⟩
  try simp only [Act.put, List.setIfInBounds_toArray, List.set_cons_succ, List.set_cons_zero, List.nil_append, List.cons_append]
  intro W hbW _
  go_wp2
  go_ret
  exact ⟨rfl, xtrans hbe.out hbW⟩
end Go.Proofs.YthpallkphamobaaGreatDoor
namespace Go.Proofs.YthpallkphamobaaGreatDoor
open Go.RowKit Go.Shelf

/-- Where the first is for which it is so; -1: nowhere. -/
def idxI {α : Type} (p : α → Bool) (l : List α) : Int := match l.findIdx? p with | some i => (i : Int) | none => -1
theorem idxI_none {α : Type} (p : α → Bool) (l : List α) (h : ∀ j (h : j < l.length), p l[j] = false) : idxI p l = -1 := by
  unfold idxI
  rw [List.findIdx?_eq_none_iff.2 fun x hx => by
    obtain ⟨j, hj, rfl⟩ := List.getElem_of_mem hx
    exact h j hj]
theorem idxI_at {α : Type} (p : α → Bool) (l : List α) (i : Nat) (hi : i < l.length) (h : p l[i] = true) (h2 : ∀ j (h : j < l.length), j < i → p l[j] = false) : idxI p l = (i : Int) := by
  unfold idxI
  rw [List.findIdx?_eq_some_iff_getElem.2 ⟨hi, h, fun j hj => by rw [h2 j (by omega) hj]; simp⟩]
set_option maxRecDepth 100000 in
set_option maxHeartbeats 4000000 in
theorem idxclearC_any (l : List (List Nat × BitVec 64)) (p : (List Nat × BitVec 64) → Bool) (f : FuncId) (caps : Array Value) (he : ∀ args w, (callFunc f args).run Tryz.prog w = .ok (.enter f args) w) (a : Option Addr) (c : Nat) (w : World) (hl : RowsAt 21 clearC w a c l) (hlen : l.length ≤ 1000000) (hrow : ∀ x ∈ l, (clearC x).length = 21)
    (hf : ∀ x ∈ l, ∀ W, Below w.heap.size w W → Calls Tryz.prog f (#[.agg (clearC x).toArray] ++ caps) W fun e w' => e = .returned (.bool (p x)) ∧ Below W.heap.size W w') :
    Calls Tryz.prog 82 #[.slice a l.length c, .func (.func f) #[] caps] w fun e w' => e = .returned (.int .i64 (idxI p l)) ∧ Below w.heap.size w w' := by
  have hcap := hl.cap
  have hno := Lib.hid (idxI_none p l)
  have hat := Lib.hid fun i (hi : i < l.length) => idxI_at p l i hi
  have hf2 := Lib.hid hf
  have hrw := Lib.hid hrow
  replace hl := Lib.hid hl
  clear hf hrow
  go_enter Tryz.func82, Tryz.ntmps82
  go_wp2
  go_loopw [8] (fun iv wr => ∃ i : Nat, iv = .int .i64 i ∧ i ≤ l.length ∧ Hid (∀ j (h : j < l.length), j < i → p l[j] = false) ∧ Hid (Below w.heap.size w wr)) (fun iv _ => l.length - (intOf iv).toNat)
  case atStart => exact ⟨0, rfl, by omega, Lib.hid fun j _ h => by omega, Lib.hid (xrefl w)⟩
  case round =>
    obtain ⟨i, rfl, hi, hs, hb⟩ := hrel
    by_cases hlt : i < l.length
    · have hltI : (i : Int) < l.length := by omega
      obtain ⟨g, o, rfl, hr⟩ := (hl.out.below hb.out).elt i hlt
      have hm := List.getElem_mem hlt
      have hcall := Lib.hid (hf2.out _ hm)
      have hr21 := hrw.out _ hm
      have hq := hat.out i hlt
      have hnext : Hid (p l[i] = false → ∀ j (h : j < l.length), j < i + 1 → p l[j] = false) := Lib.hid fun h0 j h hj => by
        by_cases e : j = i
        · subst e; exact h0
        · exact hs.out j h (by omega)
      have hwi : IntKind.i64.wrap ((i : Int) + 1) = (i : Int) + 1 := by simp [IntKind.wrap, IntKind.bits, IntKind.signed]; omega
      generalize l[i] = x at *
      replace hr := Lib.hid hr
      clear hm
      cases hpx : p x with
      | true =>
        have hfin := Lib.hid (hq hpx hs.out)
        rw [hpx] at hcall
        clear hq hnext
        go_wp2_with (first
          | (refine wpList_load_mid rfl 65 _ rfl g (o + i * 21) rfl (clearC x) _ hr.out Tryz.underlying65 rfl (by rw [hr21]; kernel_rfl) ?_)
          | (refine (hcall.out _ hb.out).mono ?_; rintro e w6 ⟨rfl, hb6⟩; replace hb6 := Lib.hid (xtrans hb.out hb6)))
        go_ret
        exact ⟨by rw [hfin.out]; rfl, hb6.out⟩
      | false =>
        replace hnext := Lib.hid (hnext.out hpx)
        rw [hpx] at hcall
        clear hq
        go_wp2_with (first
          | (refine wpList_load_mid rfl 65 _ rfl g (o + i * 21) rfl (clearC x) _ hr.out Tryz.underlying65 rfl (by rw [hr21]; kernel_rfl) ?_)
          | (refine (hcall.out _ hb.out).mono ?_; rintro e w6 ⟨rfl, hb6⟩; replace hb6 := Lib.hid (xtrans hb.out hb6)))
        exact ⟨⟨i + 1, by first | rfl | simp, by omega, hnext, hb6⟩, by simp [intOf]; omega⟩
    · obtain rfl : i = l.length := by omega
      have hfin := Lib.hid (hno.out fun j h => hs.out j h h)
      clear hlt
      go_wp2
      go_ret
      exact ⟨by rw [hfin.out]; rfl, hb.out⟩
set_option maxRecDepth 100000 in
set_option maxHeartbeats 4000000 in
theorem idxrelC_any (l : List (List Nat × Nat × BitVec 64)) (p : (List Nat × Nat × BitVec 64) → Bool) (f : FuncId) (caps : Array Value) (he : ∀ args w, (callFunc f args).run Tryz.prog w = .ok (.enter f args) w) (a : Option Addr) (c : Nat) (w : World) (hl : RowsAt 22 relC w a c l) (hlen : l.length ≤ 1000000) (hrow : ∀ x ∈ l, (relC x).length = 22)
    (hf : ∀ x ∈ l, ∀ W, Below w.heap.size w W → Calls Tryz.prog f (#[.agg (relC x).toArray] ++ caps) W fun e w' => e = .returned (.bool (p x)) ∧ Below W.heap.size W w') :
    Calls Tryz.prog 72 #[.slice a l.length c, .func (.func f) #[] caps] w fun e w' => e = .returned (.int .i64 (idxI p l)) ∧ Below w.heap.size w w' := by
  have hcap := hl.cap
  have hno := Lib.hid (idxI_none p l)
  have hat := Lib.hid fun i (hi : i < l.length) => idxI_at p l i hi
  have hf2 := Lib.hid hf
  have hrw := Lib.hid hrow
  replace hl := Lib.hid hl
  clear hf hrow
  go_enter Tryz.func72, Tryz.ntmps72
  go_wp2
  go_loopw [8] (fun iv wr => ∃ i : Nat, iv = .int .i64 i ∧ i ≤ l.length ∧ Hid (∀ j (h : j < l.length), j < i → p l[j] = false) ∧ Hid (Below w.heap.size w wr)) (fun iv _ => l.length - (intOf iv).toNat)
  case atStart => exact ⟨0, rfl, by omega, Lib.hid fun j _ h => by omega, Lib.hid (xrefl w)⟩
  case round =>
    obtain ⟨i, rfl, hi, hs, hb⟩ := hrel
    by_cases hlt : i < l.length
    · have hltI : (i : Int) < l.length := by omega
      obtain ⟨g, o, rfl, hr⟩ := (hl.out.below hb.out).elt i hlt
      have hm := List.getElem_mem hlt
      have hcall := Lib.hid (hf2.out _ hm)
      have hr21 := hrw.out _ hm
      have hq := hat.out i hlt
      have hnext : Hid (p l[i] = false → ∀ j (h : j < l.length), j < i + 1 → p l[j] = false) := Lib.hid fun h0 j h hj => by
        by_cases e : j = i
        · subst e; exact h0
        · exact hs.out j h (by omega)
      have hwi : IntKind.i64.wrap ((i : Int) + 1) = (i : Int) + 1 := by simp [IntKind.wrap, IntKind.bits, IntKind.signed]; omega
      generalize l[i] = x at *
      replace hr := Lib.hid hr
      clear hm
      cases hpx : p x with
      | true =>
        have hfin := Lib.hid (hq hpx hs.out)
        rw [hpx] at hcall
        clear hq hnext
        go_wp2_with (first
          | (refine wpList_load_mid rfl 67 _ rfl g (o + i * 22) rfl (relC x) _ hr.out Tryz.underlying67 rfl (by rw [hr21]; kernel_rfl) ?_)
          | (refine (hcall.out _ hb.out).mono ?_; rintro e w6 ⟨rfl, hb6⟩; replace hb6 := Lib.hid (xtrans hb.out hb6)))
        go_ret
        exact ⟨by rw [hfin.out]; rfl, hb6.out⟩
      | false =>
        replace hnext := Lib.hid (hnext.out hpx)
        rw [hpx] at hcall
        clear hq
        go_wp2_with (first
          | (refine wpList_load_mid rfl 67 _ rfl g (o + i * 22) rfl (relC x) _ hr.out Tryz.underlying67 rfl (by rw [hr21]; kernel_rfl) ?_)
          | (refine (hcall.out _ hb.out).mono ?_; rintro e w6 ⟨rfl, hb6⟩; replace hb6 := Lib.hid (xtrans hb.out hb6)))
        exact ⟨⟨i + 1, by first | rfl | simp, by omega, hnext, hb6⟩, by simp [intOf]; omega⟩
    · obtain rfl : i = l.length := by omega
      have hfin := Lib.hid (hno.out fun j h => hs.out j h h)
      clear hlt
      go_wp2
      go_ret
      exact ⟨by rw [hfin.out]; rfl, hb.out⟩
end Go.Proofs.YthpallkphamobaaGreatDoor
