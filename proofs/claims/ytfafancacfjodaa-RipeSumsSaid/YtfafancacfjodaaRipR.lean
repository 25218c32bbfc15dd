/- The walk of RipeSums. -/
import Derived.Test.YtfafancacfjodaaRipQ
import Derived.Test.YtfafancacfjodaaCutR
import Derived.Test.YtfafancacfjodaaIdx
namespace Go.Proofs.Ytfafancacfjodaa
open Go.RowKit

set_option maxRecDepth 100000 in
set_option maxHeartbeats 4000000 in
theorem ripeSums_walk (a : Option Addr) (c : Nat) (zs : List Int) (x : Int) (w : World) (hl : zs.length ≤ c ∧ c ≤ 9223372036854775807) (hr : RowAt .u8 w a zs) (ha : a = none → c = 0) (hw : ∀ z ∈ zs, (Lit.int .u8 z).wf = true) (hx : -9223372036854775808 ≤ x ∧ x ≤ 9223372036854775807) :
    Calls Try.prog 3 #[.slice a zs.length c, .int .i64 x] w (Yes w) := by
  obtain ⟨hl1, hl2⟩ := hl
  obtain ⟨hx1, hx2⟩ := hx
  obtain ⟨bs, hbs⟩ := bytes_of zs hw
  clear hw
  by_cases h : ((zs.length : Int) > 200) ∨ x < 0 ∨ x > (zs.length : Int)
  · have Hr := Lib.hid hr
    clear hr
    replace hbs := Lib.hid hbs
    by_cases h1 : (zs.length : Int) > 200
    · go_enter Try.func3, Try.ntmps3
      go_wp2_with (go_at_call 7; refine (works_any _).mono ?_; rintro e w3 ⟨rfl, b3⟩)
      go_ret
      exact ⟨rfl, b3⟩
    · by_cases h2 : x < 0
      · clear h
        go_enter Try.func3, Try.ntmps3
        go_wp2_with (go_at_call 7; refine (works_any _).mono ?_; rintro e w3 ⟨rfl, b3⟩)
        go_ret
        exact ⟨rfl, b3⟩
      · have h3 : x > (zs.length : Int) := by omega
        clear h
        go_enter Try.func3, Try.ntmps3
        go_wp2_with (go_at_call 7; refine (works_any _).mono ?_; rintro e w3 ⟨rfl, b3⟩)
        go_ret
        exact ⟨rfl, b3⟩
  · obtain ⟨k, rfl⟩ := Int.eq_ofNat_of_zero_le (show 0 ≤ x by omega)
    have hk : k ≤ zs.length := by omega
    have h200 : zs.length ≤ 200 := by omega
    have g1 : ¬ ((zs.length : Int) > 200) := by omega
    have g2 : ¬ ((k : Int) < 0) := by omega
    have g3 : ¬ ((k : Int) > (zs.length : Int)) := by omega
    clear h hx1 hx2
    have hbl : bs.length = zs.length := by rw [hbs]; simp
    have href := refSum24_any bs a c w (by rw [← hbs]; exact hr) ha (by omega)
    rw [hbl] at href
    have hkc : k ≤ c := by omega
    have hs1 := fun W => run_slice_hi (P := Try.prog) 22 5 a zs.length c k W Try.underlying22 (by kernel_rfl) hk hl1
    have hs2 := fun W => run_slice_lo (P := Try.prog) 22 5 a zs.length c k W Try.underlying22 (by kernel_rfl) hk hl1
    have hrows1 : ∀ W, RowAt .u8 W a zs → RowsAt (W.alloc (.cells #[.slice a zs.length c] 22)) W.heap.size 0 [(a, c, zs)] := fun W h => rowsAt_new W _ [(a, c, zs)] (by simp; exact ⟨h, ha⟩)
    have hrows2 : ∀ W, RowAt .u8 W a zs → RowsAt (W.alloc (.cells #[.slice a k c, .slice (sl2 a k c) (zs.length - k) (c - k)] 22)) W.heap.size 0 [(a, c, zs.take k), (sl2 a k c, c - k, zs.drop k)] := fun W h => by
      have := rowsAt_new W 22 [(a, c, zs.take k), (sl2 a k c, c - k, zs.drop k)] (by simp; exact ⟨⟨rowAt_take h k, ha⟩, rowAt_drop h k c hl1, sl2_none ha⟩)
      simpa [Nat.min_eq_left hk] using this
    have hrows3 : ∀ W, RowAt .u8 W a zs → RowsAt (W.alloc (.cells #[.slice none 0 0, .slice a k c, .slice none 0 0, .slice (sl2 a k c) (zs.length - k) (c - k)] 22)) W.heap.size 0 [(none, 0, []), (a, c, zs.take k), (none, 0, []), (sl2 a k c, c - k, zs.drop k)] := fun W h => by
      have := rowsAt_new W 22 [(none, 0, []), (a, c, zs.take k), (none, 0, []), (sl2 a k c, c - k, zs.drop k)] (by simp; exact ⟨RowAt.nil, ⟨rowAt_take h k, ha⟩, RowAt.nil, rowAt_drop h k c hl1, sl2_none ha⟩)
      simpa [Nat.min_eq_left hk] using this
    have hsum1 := fun W q (h : RowsAt W q 0 [(a, c, zs)]) => sum_any bs (.slice (some ⟨q, 0, none⟩) 1 1) [(a, c, zs)] W (by simp [joined, hbs]) (by simp) (by omega) (.inr ⟨q, 0, rfl, h⟩)
    have hsum2 := fun W q (h : RowsAt W q 0 [(a, c, zs.take k), (sl2 a k c, c - k, zs.drop k)]) => sum_any bs (.slice (some ⟨q, 0, none⟩) 2 2) [(a, c, zs.take k), (sl2 a k c, c - k, zs.drop k)] W (by simp [joined, hbs]) (by simp) (by omega) (.inr ⟨q, 0, rfl, h⟩)
    have hsum3 := fun W q (h : RowsAt W q 0 [(none, 0, []), (a, c, zs.take k), (none, 0, []), (sl2 a k c, c - k, zs.drop k)]) => sum_any bs (.slice (some ⟨q, 0, none⟩) 4 4) [(none, 0, []), (a, c, zs.take k), (none, 0, []), (sl2 a k c, c - k, zs.drop k)] W (by simp [joined, hbs]) (by simp) (by omega) (.inr ⟨q, 0, rfl, h⟩)
    unfold arrV at href hsum1 hsum2 hsum3
    have hDl : (digL (sumF bs)).length = 20 := allL_len _ _
    generalize digL (sumF bs) = DL at href hsum1 hsum2 hsum3 hDl
    have hDI : (Try.prog.info? 24).map (·.size) = some DL.length := by rw [hDl]; kernel_rfl
    have heq := fun W => run_eql_ints (P := Try.prog) 24 5 20 .u8 .u8 DL DL W Try.underlying24 Try.underlying5 (by kernel_rfl) (by kernel_rfl) hDl hDl
    simp only [decide_true] at heq
    replace href := Lib.hid href
    replace hsum1 := Lib.hid hsum1
    replace hsum2 := Lib.hid hsum2
    replace hsum3 := Lib.hid hsum3
    replace hrows1 := Lib.hid hrows1
    replace hrows2 := Lib.hid hrows2
    replace hrows3 := Lib.hid hrows3
    replace hDI := Lib.hid hDI
    replace hDl := Lib.hid hDl
    replace hrow := Lib.hid hr
    replace ha := Lib.hid ha
    replace hbs := Lib.hid hbs
    replace hbl := Lib.hid hbl
    clear hr
    have hz := fun (W : World) => Blk.new (q := .u8) W 24 (List.replicate 20 0)
    replace hz := Lib.hid hz
    go_enter Try.func3, Try.ntmps3
    go_wp2_with (first
      | (go_at_call 8; refine href.out.mono ?_; rintro e w1 ⟨rfl, hb1⟩)
      | (refine wpList_store_blk rfl 24 _ _ rfl w1.heap.size rfl .u8 24 (List.replicate 20 0) DL (hz.out w1) rfl (by rw [hDl.out, List.length_replicate]) hDI.out ?_; intro w2 h2 ho2))
    have hb2 : Below w.heap.size w w2 := ho2.below (xalloc hb1 _) (by have := hb1.size; rw [World.size_alloc]; omega) (by have := hb1.size; rintro i rfl; omega)
    replace hrow := Lib.hid (hrow.out.below hb2)
    clear ho2 hz href hb1
    refine wp_region_growL 32 [fixd (.slice a zs.length c), argsT [(a, c, zs)], fixd (.agg (DL.map (Value.int .u8)).toArray), fixd (.agg (DL.map (Value.int .u8)).toArray), fixd (.bool true), fixd (.bool true), fixd (.slice a zs.length c), fixd (.int .i64 k), fixd (.slice a k c), fixd (.slice a zs.length c), fixd (.int .i64 k), fixd (.slice (sl2 a k c) (zs.length - k) (c - k)), argsT [(a, c, zs.take k), (sl2 a k c, c - k, zs.drop k)], fixd (.agg (DL.map (Value.int .u8)).toArray), fixd (.agg (DL.map (Value.int .u8)).toArray), fixd (.bool true), fixd (.bool true), fixd (.bool true), fixd (.slice a zs.length c), fixd (.int .i64 k), fixd (.slice a k c), fixd (.slice a zs.length c), fixd (.int .i64 k), fixd (.slice (sl2 a k c) (zs.length - k) (c - k)), argsT [(none, 0, []), (a, c, zs.take k), (none, 0, []), (sl2 a k c, c - k, zs.drop k)], fixd (.agg (DL.map (Value.int .u8)).toArray), fixd (.agg (DL.map (Value.int .u8)).toArray), fixd (.bool true), fixd (.bool true), fixd (.bool true), fixd (.bool true), fixd (.bool true)] (by kernel_rfl) (by kernel_rfl) ?_
    simp only [List.take_succ_cons, List.take_zero, List.drop_succ_cons, List.drop_zero]
    try simp only [Act.put, List.setIfInBounds_toArray, List.set_cons_succ, List.set_cons_zero, List.nil_append, List.cons_append]
    refine wpGrowV_fix _ rfl rfl (fun W hb _ => by go_simp; first | exact xrefl W | exact ⟨rfl, xrefl W⟩) ?_
    try simp only [Act.put, List.setIfInBounds_toArray, List.set_cons_succ, List.set_cons_zero, List.nil_append, List.cons_append]
    refine wpGrowV_any (argsT [(a, c, zs)]) rfl rfl (fun W hb _ => ?_) (fun v hv => ?_)
    · have hrw := hrow.out.below hb
      go_simp
      exact ⟨⟨⟨_, rfl⟩, fun b e => by cases e; exact hrows1.out W hrw⟩, xalloc (xrefl W) _⟩
    obtain ⟨q1, rfl⟩ := hv
    try simp only [Act.put, List.setIfInBounds_toArray, List.set_cons_succ, List.set_cons_zero, List.nil_append, List.cons_append]
    refine wpGrowV_fix (.agg (DL.map (Value.int .u8)).toArray) rfl rfl (fun W hb hF => ?_) ?_
    · have hq := hF 1 (by kernel_rfl) (by simp) q1 rfl
      clear hF
      go_simp
      go_at_call 9
      refine (hsum1.out W q1 hq).mono ?_
      rintro e w' ⟨rfl, hb'⟩
      exact ⟨rfl, hb'⟩
    try simp only [Act.put, List.setIfInBounds_toArray, List.set_cons_succ, List.set_cons_zero, List.nil_append, List.cons_append]
    refine wpGrowV_fix _ rfl rfl (fun W hb _ => ?_) ?_
    · rw [run_load_blk 24 (.tmp 5) rfl w1.heap.size rfl .u8 24 DL _ _ (h2.below hb) Try.underlying24 hDI.out]
      exact ⟨rfl, xrefl W⟩
    try simp only [Act.put, List.setIfInBounds_toArray, List.set_cons_succ, List.set_cons_zero, List.nil_append, List.cons_append]
    refine wpGrowV_fix _ rfl rfl (fun W hb _ => by go_simp; first | exact xrefl W | exact ⟨rfl, xrefl W⟩) ?_
    try simp only [Act.put, List.setIfInBounds_toArray, List.set_cons_succ, List.set_cons_zero, List.nil_append, List.cons_append]
    refine wpGrowV_fix _ rfl rfl (fun W hb _ => by go_simp; first | exact xrefl W | exact ⟨rfl, xrefl W⟩) ?_
    try simp only [Act.put, List.setIfInBounds_toArray, List.set_cons_succ, List.set_cons_zero, List.nil_append, List.cons_append]
    refine wpGrowV_fix _ rfl rfl (fun W hb _ => by go_simp; first | exact xrefl W | exact ⟨rfl, xrefl W⟩) ?_
    try simp only [Act.put, List.setIfInBounds_toArray, List.set_cons_succ, List.set_cons_zero, List.nil_append, List.cons_append]
    refine wpGrowV_fix _ rfl rfl (fun W hb _ => by go_simp; first | exact xrefl W | exact ⟨rfl, xrefl W⟩) ?_
    try simp only [Act.put, List.setIfInBounds_toArray, List.set_cons_succ, List.set_cons_zero, List.nil_append, List.cons_append]
    refine wpGrowV_fix _ rfl rfl (fun W hb _ => by go_simp; first | exact xrefl W | exact ⟨rfl, xrefl W⟩) ?_
    try simp only [Act.put, List.setIfInBounds_toArray, List.set_cons_succ, List.set_cons_zero, List.nil_append, List.cons_append]
    refine wpGrowV_fix _ rfl rfl (fun W hb _ => by go_simp; first | exact xrefl W | exact ⟨rfl, xrefl W⟩) ?_
    try simp only [Act.put, List.setIfInBounds_toArray, List.set_cons_succ, List.set_cons_zero, List.nil_append, List.cons_append]
    refine wpGrowV_fix _ rfl rfl (fun W hb _ => by go_simp; first | exact xrefl W | exact ⟨rfl, xrefl W⟩) ?_
    try simp only [Act.put, List.setIfInBounds_toArray, List.set_cons_succ, List.set_cons_zero, List.nil_append, List.cons_append]
    refine wpGrowV_fix _ rfl rfl (fun W hb _ => by go_simp; first | exact xrefl W | exact ⟨rfl, xrefl W⟩) ?_
    try simp only [Act.put, List.setIfInBounds_toArray, List.set_cons_succ, List.set_cons_zero, List.nil_append, List.cons_append]
    refine wpGrowV_any (argsT [(a, c, zs.take k), (sl2 a k c, c - k, zs.drop k)]) rfl rfl (fun W hb _ => ?_) (fun v hv => ?_)
    · have hrw := hrow.out.below hb
      go_simp
      exact ⟨⟨⟨_, rfl⟩, fun b e => by cases e; exact hrows2.out W hrw⟩, xalloc (xrefl W) _⟩
    obtain ⟨q2, rfl⟩ := hv
    try simp only [Act.put, List.setIfInBounds_toArray, List.set_cons_succ, List.set_cons_zero, List.nil_append, List.cons_append]
    refine wpGrowV_fix (.agg (DL.map (Value.int .u8)).toArray) rfl rfl (fun W hb hF => ?_) ?_
    · have hq := hF 12 (by kernel_rfl) (by simp) q2 rfl
      clear hF
      go_simp
      go_at_call 9
      refine (hsum2.out W q2 hq).mono ?_
      rintro e w' ⟨rfl, hb'⟩
      exact ⟨rfl, hb'⟩
    try simp only [Act.put, List.setIfInBounds_toArray, List.set_cons_succ, List.set_cons_zero, List.nil_append, List.cons_append]
    refine wpGrowV_fix _ rfl rfl (fun W hb _ => ?_) ?_
    · rw [run_load_blk 24 (.tmp 5) rfl w1.heap.size rfl .u8 24 DL _ _ (h2.below hb) Try.underlying24 hDI.out]
      exact ⟨rfl, xrefl W⟩
    try simp only [Act.put, List.setIfInBounds_toArray, List.set_cons_succ, List.set_cons_zero, List.nil_append, List.cons_append]
    refine wpGrowV_fix _ rfl rfl (fun W hb _ => by go_simp; first | exact xrefl W | exact ⟨rfl, xrefl W⟩) ?_
    try simp only [Act.put, List.setIfInBounds_toArray, List.set_cons_succ, List.set_cons_zero, List.nil_append, List.cons_append]
    refine wpGrowV_fix _ rfl rfl (fun W hb _ => by go_simp; first | exact xrefl W | exact ⟨rfl, xrefl W⟩) ?_
    try simp only [Act.put, List.setIfInBounds_toArray, List.set_cons_succ, List.set_cons_zero, List.nil_append, List.cons_append]
    refine wpGrowV_fix _ rfl rfl (fun W hb _ => by go_simp; first | exact xrefl W | exact ⟨rfl, xrefl W⟩) ?_
    try simp only [Act.put, List.setIfInBounds_toArray, List.set_cons_succ, List.set_cons_zero, List.nil_append, List.cons_append]
    refine wpGrowV_fix _ rfl rfl (fun W hb _ => by go_simp; first | exact xrefl W | exact ⟨rfl, xrefl W⟩) ?_
    try simp only [Act.put, List.setIfInBounds_toArray, List.set_cons_succ, List.set_cons_zero, List.nil_append, List.cons_append]
    refine wpGrowV_fix _ rfl rfl (fun W hb _ => by go_simp; first | exact xrefl W | exact ⟨rfl, xrefl W⟩) ?_
    try simp only [Act.put, List.setIfInBounds_toArray, List.set_cons_succ, List.set_cons_zero, List.nil_append, List.cons_append]
    refine wpGrowV_fix _ rfl rfl (fun W hb _ => by go_simp; first | exact xrefl W | exact ⟨rfl, xrefl W⟩) ?_
    try simp only [Act.put, List.setIfInBounds_toArray, List.set_cons_succ, List.set_cons_zero, List.nil_append, List.cons_append]
    refine wpGrowV_fix _ rfl rfl (fun W hb _ => by go_simp; first | exact xrefl W | exact ⟨rfl, xrefl W⟩) ?_
    try simp only [Act.put, List.setIfInBounds_toArray, List.set_cons_succ, List.set_cons_zero, List.nil_append, List.cons_append]
    refine wpGrowV_fix _ rfl rfl (fun W hb _ => by go_simp; first | exact xrefl W | exact ⟨rfl, xrefl W⟩) ?_
    try simp only [Act.put, List.setIfInBounds_toArray, List.set_cons_succ, List.set_cons_zero, List.nil_append, List.cons_append]
    refine wpGrowV_fix _ rfl rfl (fun W hb _ => by go_simp; first | exact xrefl W | exact ⟨rfl, xrefl W⟩) ?_
    try simp only [Act.put, List.setIfInBounds_toArray, List.set_cons_succ, List.set_cons_zero, List.nil_append, List.cons_append]
    refine wpGrowV_any (argsT [(none, 0, []), (a, c, zs.take k), (none, 0, []), (sl2 a k c, c - k, zs.drop k)]) rfl rfl (fun W hb _ => ?_) (fun v hv => ?_)
    · have hrw := hrow.out.below hb
      go_simp
      exact ⟨⟨⟨_, rfl⟩, fun b e => by cases e; exact hrows3.out W hrw⟩, xalloc (xrefl W) _⟩
    obtain ⟨q3, rfl⟩ := hv
    try simp only [Act.put, List.setIfInBounds_toArray, List.set_cons_succ, List.set_cons_zero, List.nil_append, List.cons_append]
    refine wpGrowV_fix (.agg (DL.map (Value.int .u8)).toArray) rfl rfl (fun W hb hF => ?_) ?_
    · have hq := hF 24 (by kernel_rfl) (by simp) q3 rfl
      clear hF
      go_simp
      go_at_call 9
      refine (hsum3.out W q3 hq).mono ?_
      rintro e w' ⟨rfl, hb'⟩
      exact ⟨rfl, hb'⟩
    try simp only [Act.put, List.setIfInBounds_toArray, List.set_cons_succ, List.set_cons_zero, List.nil_append, List.cons_append]
    refine wpGrowV_fix _ rfl rfl (fun W hb _ => ?_) ?_
    · rw [run_load_blk 24 (.tmp 5) rfl w1.heap.size rfl .u8 24 DL _ _ (h2.below hb) Try.underlying24 hDI.out]
      exact ⟨rfl, xrefl W⟩
    try simp only [Act.put, List.setIfInBounds_toArray, List.set_cons_succ, List.set_cons_zero, List.nil_append, List.cons_append]
    refine wpGrowV_fix _ rfl rfl (fun W hb _ => by go_simp; first | exact xrefl W | exact ⟨rfl, xrefl W⟩) ?_
    try simp only [Act.put, List.setIfInBounds_toArray, List.set_cons_succ, List.set_cons_zero, List.nil_append, List.cons_append]
    refine wpGrowV_fix _ rfl rfl (fun W hb _ => by go_simp; first | exact xrefl W | exact ⟨rfl, xrefl W⟩) ?_
    try simp only [Act.put, List.setIfInBounds_toArray, List.set_cons_succ, List.set_cons_zero, List.nil_append, List.cons_append]
    refine wpGrowV_fix _ rfl rfl (fun W hb _ => by go_simp; first | exact xrefl W | exact ⟨rfl, xrefl W⟩) ?_
    try simp only [Act.put, List.setIfInBounds_toArray, List.set_cons_succ, List.set_cons_zero, List.nil_append, List.cons_append]
    refine wpGrowV_fix (.bool true) rfl rfl (fun W hb _ => ?_) ?_
    · go_simp
      go_at_call 7
      refine (works_any W).mono ?_
      rintro e w' ⟨rfl, hb'⟩
      exact ⟨rfl, hb'⟩
    try simp only [Act.put, List.setIfInBounds_toArray, List.set_cons_succ, List.set_cons_zero, List.nil_append, List.cons_append]
    refine wpGrowV_fix _ rfl rfl (fun W hb _ => by go_simp; first | exact xrefl W | exact ⟨rfl, xrefl W⟩) ?_
    try simp only [Act.put, List.setIfInBounds_toArray, List.set_cons_succ, List.set_cons_zero, List.nil_append, List.cons_append]
    refine wpGrowV_nil fun W hbW _ => ?_
    go_wp2
    go_ret
    exact ⟨rfl, xtrans hb2 hbW⟩
end Go.Proofs.Ytfafancacfjodaa
