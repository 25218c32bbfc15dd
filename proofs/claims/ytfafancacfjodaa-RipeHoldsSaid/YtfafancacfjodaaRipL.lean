/- The program's digest (layer 24): what a line comes to. -/
import Derived.Test.YtfafancacfjodaaRipK
namespace Go.Proofs.Ytfafancacfjodaa
open Go.RowKit

def prL : List Int := [2, 3, 5, 7]
theorem pr_get : ∀ i (h : i < 4), prL[i]'h = (prN i : Int) := by decide
def keysTo (second : Bool) (i : Nat) : Nat → BitVec 32 := fun j => if second then (if j < i then keyF true j else 0) else (if j ≤ i then keyF false j else 0)
theorem keys_zero : ∀ s, rowI 5 (keysTo s 0) = List.replicate 5 0 := by decide +kernel
theorem keys_all : ∀ s, rowI 5 (keysTo s 4) = rowI 5 (keyF s) := by decide +kernel
theorem keys_true : ∀ i < 4, (rowI 5 (keysTo true i)).set i (iv32 (keyF true i)) = rowI 5 (keysTo true (i + 1)) := by decide +kernel
theorem keys_false : ∀ i < 4, (rowI 5 (keysTo false i)).set (i + 1) (iv32 (keyF false (i + 1))) = rowI 5 (keysTo false (i + 1)) := by decide +kernel
theorem key_iv : ∀ i < 4, iv32 (keyF true i) = (keyN true i : Int) := by decide +kernel
theorem key_iv' : ∀ i < 4, iv32 (keyF false (i + 1)) = (keyN false (i + 1) : Int) := by decide +kernel
theorem rootKey_true (i : Nat) (hi : i < 4) (w : World) : Calls Try.prog 35 #[.int .u64 (prN i), .bool true] w fun e w' => e = .returned (.int .u32 (iv32 (keyF true i))) ∧ w = w' := by
  have hp : prN i < 16 := by revert i; decide
  have h := root_any (prN i) true w hp
  rw [if_pos rfl, key_second i hi] at h
  rw [key_iv i hi]; exact h
theorem rootKey_false (i : Nat) (hi : i < 4) (w : World) : Calls Try.prog 35 #[.int .u64 (prN i), .bool false] w fun e w' => e = .returned (.int .u32 (iv32 (keyF false (i + 1)))) ∧ w = w' := by
  have hp : prN i < 16 := by revert i; decide
  have h := root_any (prN i) false w hp
  rw [if_neg (by decide), key_first i hi] at h
  rw [key_iv' i hi]; exact h
def gN (second : Bool) (r : Nat) : Nat := if second then 4 - r else r
theorem mixV_fn (r : Nat) (hr : r < 5) : mixV[r]? = some (fnV (mixFn (gN false r))) := by
  have : r = 0 ∨ r = 1 ∨ r = 2 ∨ r = 3 ∨ r = 4 := by omega
  rcases this with rfl | rfl | rfl | rfl | rfl <;> rfl
theorem mixW_fn (r : Nat) (hr : r < 5) : mixW[r]? = some (fnV (mixFn (gN true r))) := by
  have : r = 0 ∨ r = 1 ∨ r = 2 ∨ r = 3 ∨ r = 4 := by omega
  rcases this with rfl | rfl | rfl | rfl | rfl <;> rfl
theorem turnL_get (r n : Nat) (hr : r < 5) (hn : n < 16) : turnL[16 * r + n]? = some (turnN r n : Int) := by
  revert n
  have : r = 0 ∨ r = 1 ∨ r = 2 ∨ r = 3 ∨ r = 4 := by omega
  rcases this with rfl | rfl | rfl | rfl | rfl <;> decide
theorem gN_lt (s : Bool) (r : Nat) (hr : r < 5) : gN s r < 5 := by unfold gN; split <;> omega
theorem step_row (sc : Bool) (k : Nat) (b s : Nat → BitVec 32) : stepP (add32 (add32 (fF (gN sc (k / 16)) (s 1) (s 2) (s 3)) (b (takeN sc k))) (keyF sc (k / 16))) (turnN (k / 16) (takeN sc k)) s = rowI 5 (stepR sc k b s) := by
  have e : add32 (s 0) (add32 (add32 (fF (gN sc (k / 16)) (s 1) (s 2) (s 3)) (b (takeN sc k))) (keyF sc (k / 16))) = sumK sc k b s := by
    unfold sumK add32 gN
    simp only [BitVec.add_assoc]
  unfold stepP
  rw [e]
  rfl
theorem mixFn_call (r : Nat) (hr : r < 5) (args : Array Value) (w : World) : (callFunc (mixFn r) args).run Try.prog w = .ok (.enter (mixFn r) args) w := by
  have : r = 0 ∨ r = 1 ∨ r = 2 ∨ r = 3 ∨ r = 4 := by omega
  rcases this with rfl | rfl | rfl | rfl | rfl <;> rfl
theorem fill5 (l : List Int) (hl : l.length = 5) : List.foldl (fun (cs : Array Value) (x : Value × Nat) => cs.setIfInBounds x.snd x.fst) #[.int .u32 0, .int .u32 0, .int .u32 0, .int .u32 0, .int .u32 0] (l.map (Value.int .u32)).zipIdx = (l.map (Value.int .u32)).toArray := by
  match l, hl with
  | [a, b, c, d, e], _ => simp [List.zipIdx_cons]

set_option maxRecDepth 100000 in
set_option maxHeartbeats 4000000 in
theorem gone_any (second : Bool) (b h : Nat → BitVec 32) (w : World) :
    Calls Try.prog 26 #[arrV .u32 (rowI 5 h), arrV .u32 (rowI 16 b), .bool second] w fun e w' => e = .returned (arrV .u32 (rowI 5 (lineF second b h))) ∧ Below w.heap.size w w' := by
  unfold arrV
  obtain ⟨lh, hlh⟩ : ∃ l, l = rowI 5 h := ⟨_, rfl⟩
  obtain ⟨lb, hlb⟩ : ∃ l, l = rowI 16 b := ⟨_, rfl⟩
  rw [← hlh, ← hlb]
  have nh : lh.length = 5 := by rw [hlh, rowI_len]
  have nb : lb.length = 16 := by rw [hlb, rowI_len]
  go_enter Try.func26, Try.ntmps26
  obtain ⟨w1, hw1⟩ : ∃ w1, (((w.alloc (Obj.cells (lh.map (Value.int .u32)).toArray 29)).alloc (Obj.cells (lb.map (Value.int .u32)).toArray 30)).alloc (Obj.cells ((List.replicate 5 0).map (Value.int .u32)).toArray 54)) = w1 := ⟨_, rfl⟩
  have hH : Blk .u32 w1 w.heap.size 29 lh := by rw [← hw1]; exact ((Blk.new w _ lh).alloc _).alloc _
  have hB : Blk .u32 w1 (w.heap.size + 1) 30 lb := by rw [← hw1]; exact (Blk.new' _ _ _ lb (by simp)).alloc _
  have hR : Blk .u32 w1 (w.heap.size + 1 + 1) 54 (List.replicate 5 0) := by rw [← hw1]; exact Blk.new' _ _ _ _ (by simp)
  have hbw : Below w.heap.size w w1 := by rw [← hw1]; exact xalloc (xalloc (xalloc (xrefl _) _) _) _
  replace hw1 := Lib.hid hw1
  replace hlh := Lib.hid hlh
  replace hlb := Lib.hid hlb
  replace nh := Lib.hid nh
  replace nb := Lib.hid nb
  replace hH := Lib.hid hH
  replace hB := Lib.hid hB
  replace hR := Lib.hid hR
  replace hbw := Lib.hid hbw
  go_upto_region 1 with fail
  refine wp_world (w' := w1) hw1.out ?_
  clear hw1
  have hz4 := Lib.hid (Blk.new (q := .u64) w1 65 (List.replicate 4 0))
  have hz5 := Lib.hid (fun W : World => Blk.new (q := .u32) W 29 (List.replicate 5 0))
  obtain ⟨PL, hPL⟩ : ∃ l, l = prL := ⟨_, rfl⟩
  have nP : PL.length = 4 := by rw [hPL]; rfl
  have hPg : ∀ i (h : i < PL.length), PL[i] = (prN i : Int) := fun i h => by subst hPL; exact pr_get i h
  replace hPL := Lib.hid hPL
  replace nP := Lib.hid nP
  replace hPg := Lib.hid hPg
  go_wp2_with (first
    | (refine wpList_store_blk rfl 65 _ _ rfl w1.heap.size rfl .u64 65 (List.replicate 4 0) PL hz4.out (by rw [hPL.out]; rfl) (by rw [nP.out, List.length_replicate]) (by rw [nP.out]; kernel_rfl) ?_; intro w2 h2 ho2)
    | (refine wpList_store_blk rfl 29 _ _ rfl w2.heap.size rfl .u32 29 (List.replicate 5 0) (List.replicate 5 0) (hz5.out w2) rfl rfl (by kernel_rfl) ?_; intro w3 h3 ho3)
    | (refine wpList_load_blk rfl 65 _ rfl w1.heap.size rfl .u64 65 PL _ _ ((h2.alloc _).only ho3 (by have := h2.lt; omega)) Try.underlying65 (by rw [nP.out]; kernel_rfl) ?_))
  have s1 := ho2.size
  rw [World.size_alloc] at s1
  have s2 := ho3.size
  rw [World.size_alloc] at s2
  have hlft : ∀ {q T l c}, Blk q w1 c T l → Blk q w3 c T l := fun h => (((h.alloc _).only ho2 (by have := h.lt; omega)).alloc _).only ho3 (by have := h.lt; omega)
  have hH3 := Lib.hid (hlft hH.out)
  have hB3 := Lib.hid (hlft hB.out)
  have hR3 := Lib.hid (hlft hR.out)
  have hRl := hR.out.lt
  have hb2 : Below w.heap.size w w2 := ho2.below (xalloc hbw.out _) (xalloc hbw.out _).size (by rintro i rfl; omega)
  have hb3 : Below w.heap.size w w3 := ho3.below (xalloc hb2 _) (xalloc hb2 _).size (by rintro i rfl; omega)
  obtain ⟨kb, hkb⟩ : ∃ kb, kb = w2.heap.size := ⟨_, rfl⟩
  rw [← hkb] at h3 ⊢
  have hkw : w.heap.size + 1 + 1 < kb := by omega
  rw [← keys_zero second] at h3
  replace h3 := Lib.hid h3
  replace hb3 := Lib.hid hb3
  generalize w1.heap.size = pb at *
  clear hlft hH hB hR hbw hz4 hz5 h2 ho2 ho3 s1 s2 hb2 hRl hkb
  go_loopw [22] (fun iv wx => ∃ i : Nat, i ≤ 4 ∧ iv = .int .i64 i ∧ Hid (Blk .u32 wx w.heap.size 29 lh) ∧ Hid (Blk .u32 wx (w.heap.size + 1) 30 lb) ∧ Hid (Blk .u32 wx (w.heap.size + 1 + 1) 54 (List.replicate 5 0)) ∧ Hid (Blk .u32 wx kb 29 (rowI 5 (keysTo second i))) ∧ Hid (Below w.heap.size w wx)) (fun iv _ => 4 - (intOf iv).toNat)
  case atStart => exact ⟨0, by omega, rfl, hH3, hB3, hR3, h3, hb3⟩
  case round =>
    clear hH3 hB3 hR3 h3 hb3
    obtain ⟨i, hi, rfl, hH, hB, hR, hK, hb⟩ := hrel
    by_cases hlt : i < 4
    · have hlt2 : (i : Int) < 4 := by omega
      have hix := fun W => run_index_ints (P := Try.prog) 65 57 4 .u64 .u64 PL i W Try.underlying65 Try.underlying57 (by kernel_rfl) (by rw [nP.out]; exact hlt) hlt
      simp only [hPg.out] at hix
      cases second
      · have hrt := Lib.hid (fun W => rootKey_false i hlt W)
        have co := hK.out.cell (i + 1) (by rw [rowI_len]; omega)
        have fo := hK.out.frozen (i + 1)
        have hset := hK.out.set (i + 1) (iv32 (keyF false (i + 1)))
        rw [keys_false i hlt] at hset
        replace hset := Lib.hid hset
        go_wp2_with (go_at_call 35; refine (hrt.out _).mono ?_; rintro e w' ⟨rfl, rfl⟩)
        exact ⟨⟨i + 1, by omega, rfl, Lib.hid (hH.out.oth _ (by omega)), Lib.hid (hB.out.oth _ (by omega)), Lib.hid (hR.out.oth _ (by omega)), hset, Lib.hid (xsetb hb.out (by omega) _)⟩, by simp [intOf]; omega⟩
      · have hrt := Lib.hid (fun W => rootKey_true i hlt W)
        have co := hK.out.cell i (by rw [rowI_len]; omega)
        have fo := hK.out.frozen i
        have hset := hK.out.set i (iv32 (keyF true i))
        rw [keys_true i hlt] at hset
        replace hset := Lib.hid hset
        go_wp2_with (go_at_call 35; refine (hrt.out _).mono ?_; rintro e w' ⟨rfl, rfl⟩)
        exact ⟨⟨i + 1, by omega, rfl, Lib.hid (hH.out.oth _ (by omega)), Lib.hid (hB.out.oth _ (by omega)), Lib.hid (hR.out.oth _ (by omega)), hset, Lib.hid (xsetb hb.out (by omega) _)⟩, by simp [intOf]; omega⟩
    · obtain rfl : i = 4 := by omega
      clear hlt hi
      have hK' := hK.out
      rw [keys_all] at hK'
      replace hK := Lib.hid hK'
      clear hK'
      have hkl := hK.out.lt
      have nh' := nh.out
      go_upto_region 11 with (refine wpList_load_blk rfl 29 _ rfl w.heap.size rfl .u32 29 lh _ _ hH.out Try.underlying29 (by rw [nh.out]; kernel_rfl) ?_)
      clear nh'
      rw [fill5 _ nh.out]
      have hL4 := Blk.new (q := .u32) wr 69 lh
      have hx4 := xalloc (xrefl wr) (Obj.cells (lh.map (Value.int .u32)).toArray 69)
      obtain ⟨w4, hw4⟩ : ∃ w4, wr.alloc (Obj.cells (lh.map (Value.int .u32)).toArray 69) = w4 := ⟨_, rfl⟩
      rw [hw4] at hL4 hx4
      have s4 : w4.heap.size = wr.heap.size + 1 := by rw [← hw4]; simp
      obtain ⟨xl, hxl⟩ : ∃ xl, xl = wr.heap.size := ⟨_, rfl⟩
      rw [← hxl] at hL4 hkl s4
      have hB4 := Lib.hid (hB.out.below hx4)
      have hR4 := Lib.hid (hR.out.below hx4)
      have hK4 := Lib.hid (hK.out.below hx4)
      have hb4 := Lib.hid (xtrans hb.out hx4)
      replace hL4 := Lib.hid hL4
      replace hw4 := Lib.hid hw4
      replace hxl := Lib.hid hxl
      refine wp_world (w' := w4) hw4.out ?_
      rw [← hxl.out]
      clear hH hB hR hK hb hx4 hw4 hxl
      have hzv := zeroT
      obtain ⟨Z, hZ⟩ : ∃ Z, Z = List.replicate 80 (0 : Int) := ⟨_, rfl⟩
      rw [← hZ] at hzv
      have hzl : Z.length = 80 := by rw [hZ, List.length_replicate]
      have hmx := fun W => mixes_any W
      have htn := fun W => turns_any W
      unfold arrV at htn
      obtain ⟨TL, hTL⟩ : ∃ l, l = turnL := ⟨_, rfl⟩
      rw [← hTL] at htn
      have nT : TL.length = 80 := by rw [hTL]; rfl
      obtain ⟨MV, hMV⟩ : ∃ l, l = mixV := ⟨_, rfl⟩
      rw [← hMV] at hmx
      have nM : MV.length = 5 := by rw [hMV]; rfl
      have hM1 : MV.toArray.all (·.oneCell') = true := by rw [hMV]; kernel_rfl
      replace hZ := Lib.hid hZ
      replace hzl := Lib.hid hzl
      replace hmx := Lib.hid hmx
      replace htn := Lib.hid htn
      replace hTL := Lib.hid hTL
      replace nT := Lib.hid nT
      replace hMV := Lib.hid hMV
      replace nM := Lib.hid nM
      replace hM1 := Lib.hid hM1
      have hzn := Lib.hid (fun W : World => Vlk.new W 72 nilV)
      have hzt := Lib.hid (fun W : World => Blk.new (q := .i64) W 74 Z)
      go_upto_region 12 with (first
        | (go_at_call 37; refine (hmx.out _).mono ?_; rintro e w5 ⟨rfl, hb5⟩)
        | (go_at_call 38; refine (htn.out _).mono ?_; rintro e w6 ⟨rfl, hb6⟩)
        | (refine wpList_store_vlk rfl 72 _ _ rfl w6.heap.size rfl 72 nilV MV ((hzn.out w6).alloc _) rfl (by rw [nM.out]; rfl) (by rw [nM.out]; kernel_rfl) hM1.out ?_; intro w7 h7 ho7)
        | (refine wpList_store_blk rfl 74 _ _ rfl (w6.heap.size + 1) rfl .i64 74 Z TL ((Blk.new' (q := .i64) _ (w6.heap.size + 1) 74 Z (by simp)).only ho7 (by omega)) rfl (by rw [nT.out, hzl.out]) (by rw [nT.out]; kernel_rfl) ?_; intro w8 h8 ho8))
      have hxl4 : w4.heap.size = xl + 1 := s4
      have s5 := hb5.size
      have s6 := hb6.size
      have s7 := ho7.size
      have s8 := ho8.size
      rw [World.size_alloc, World.size_alloc] at s7
      have hlft : ∀ {q T l c}, Blk q w4 c T l → Blk q w8 c T l := fun h => by
        have := h.lt
        exact (((((h.below hb5).below hb6).alloc _).alloc _).only ho7 (by omega)).only ho8 (by omega)
      have hB8 := Lib.hid (hlft hB4.out)
      have hR8 := Lib.hid (hlft hR4.out)
      have hK8 := Lib.hid (hlft hK4.out)
      have hL8 := Lib.hid (hlft hL4.out)
      have h8' := Lib.hid h8
      have hV8 := Lib.hid (h7.only ho8 (by omega))
      have hb46 := xalloc (xalloc (xtrans (xtrans hb4.out hb5) hb6) (Obj.cells nilV.toArray 72)) (Obj.cells (Z.map (Value.int .i64)).toArray 74)
      have hb47 : Below w.heap.size w w7 := ho7.below hb46 hb46.size (by rintro i rfl; omega)
      have hb8 : Hid (Below w.heap.size w w8) := Lib.hid (ho8.below hb47 hb47.size (by rintro i rfl; omega))
      obtain ⟨b7, hb7⟩ : ∃ b7, b7 = w6.heap.size := ⟨_, rfl⟩
      rw [← hb7] at hV8 h8' ⊢
      have hx7 : xl < b7 := by omega
      have hwx : w.heap.size + 1 + 1 < xl := by omega
      have hb7k : kb < b7 := by omega
      obtain ⟨sc, hsc⟩ : ∃ sc, sc = second := ⟨_, rfl⟩
      rw [← hsc] at hK8
      have hTk := fun W => takes_any second W
      rw [← hsc] at hTk
      unfold arrV at hTk
      obtain ⟨TK, hTK⟩ : ∃ l, l = takeL sc := ⟨_, rfl⟩
      rw [← hTK] at hTk
      have hTg : ∀ k (h : k < TK.length), TK[k] = (takeN sc k : Int) := fun k h => by subst hTK; exact allL_get _ _ _ _
      have nK : TK.length = 80 := by rw [hTK]; exact allL_len _ _
      rw [hsc] at hTk
      replace hTk := Lib.hid hTk
      replace hTK := Lib.hid hTK
      replace hTg := Lib.hid hTg
      replace nK := Lib.hid nK
      replace hsc := Lib.hid hsc
      clear hlft hb46 hb47 s4 s5 s6 s7 s8 h7 h8 ho7 ho8 hb5 hb6 hB4 hR4 hK4 hL4 hb4 hzn hzt hmx htn hM1 hzv hZ hzl hxl4 hb7
      cases second
      · go_upto_region 14 with fail
        obtain ⟨w9, rfl⟩ : ∃ w9, w9 = w8 := ⟨_, rfl⟩
        have hF9 := hV8
        have hFg : Hid (∀ r < 5, MV[r]? = some (fnV (mixFn (gN sc r)))) := Lib.hid (by rw [hsc.out, hMV.out]; exact mixV_fn)
        have hB9 := hB8
        have hR9 := hR8
        have hK9 := hK8
        have hL9 := hL8
        have hT9 := h8'
        have hb9 := hb8
        clear hV8 hB8 hR8 hK8 hL8 h8' hb8
        generalize MV = FL at *
        have hze := Lib.hid (fun W : World => Blk.new (q := .u32) W 54 (List.replicate 5 0))
        go_upto_region 15 with (go_at_call 10; refine (hTk.out _).mono ?_; rintro e wA ⟨rfl, hbA⟩)
        have hFA := Lib.hid (hF9.out.below hbA)
        have hBA := Lib.hid (hB9.out.below hbA)
        have hRA := Lib.hid (hR9.out.below hbA)
        have hKA := Lib.hid (hK9.out.below hbA)
        have hLA := hL9.out.below hbA
        rw [hlh.out, show rowI 5 h = rowI 5 (lineTo sc b h 0) from rfl] at hLA
        replace hLA := Lib.hid hLA
        have hTA := Lib.hid (hT9.out.below hbA)
        have hbw := Lib.hid (xtrans hb9.out hbA)
        clear hF9 hB9 hR9 hK9 hL9 hT9 hb9 hbA hTk
        go_loopw [49] (fun iv wx => ∃ k : Nat, k ≤ 80 ∧ iv = .int .i64 k ∧ Hid (Blk .u32 wx xl 69 (rowI 5 (lineTo sc b h k))) ∧ Hid (Blk .u32 wx (w.heap.size + 1) 30 lb) ∧ Hid (Blk .u32 wx (w.heap.size + 1 + 1) 54 (List.replicate 5 0)) ∧ Hid (Blk .u32 wx kb 29 (rowI 5 (keyF sc))) ∧ Hid (Vlk wx b7 72 FL) ∧ Hid (Blk .i64 wx (b7 + 1) 74 TL) ∧ Hid (Below w.heap.size w wx)) (fun iv _ => 80 - (intOf iv).toNat)
        case atStart => exact ⟨0, by omega, rfl, hLA, hBA, hRA, hKA, hFA, hTA, hbw⟩
        case round =>
          clear hLA hBA hRA hKA hFA hTA hbw
          obtain ⟨k, hk, rfl, hL, hB, hR, hK, hF, hT, hb⟩ := hrel
          by_cases hlt : k < 80
          · have hnext : Hid (lineTo sc b h (k + 1) = stepR sc k b (lineTo sc b h k)) := Lib.hid rfl
            generalize lineTo sc b h k = s at *
            have hstep := step_row sc k b s
            rw [← hnext.out] at hstep
            have hix := fun W => run_index_ints (P := Try.prog) 31 3 80 .i64 .i64 TK k W Try.underlying31 Try.underlying3 (by kernel_rfl) (by rw [nK.out]; exact hlt) (by omega)
            simp only [hTg.out] at hix
            obtain ⟨r, hr⟩ : ∃ r, r = k / 16 := ⟨_, rfl⟩
            obtain ⟨n, hn⟩ : ∃ n, n = takeN sc k := ⟨_, rfl⟩
            have hr5 : r < 5 := by omega
            have hn16 : n < 16 := by rw [hn]; exact take_lt _ _
            have hkr : (k : Int) / 16 = (r : Int) := by omega
            rw [← hr, ← hn] at hstep
            rw [← hn] at hix
            have htb := turn_bd r hr5 n hn16
            have hg5 := gN_lt sc r hr5
            have cf : wr.cell? ⟨b7, r, none⟩ = some (fnV (mixFn (gN sc r))) := by rw [hF.out.cell, hFg.out r hr5]
            have cb := hB.out.cell n (by rw [nb.out]; exact hn16)
            have hbn : lb[n]'(by rw [nb.out]; exact hn16) = iv32 (b n) := by
              have e := hlb.out
              subst e
              exact rowI_get _ _ _ _
            rw [hbn] at cb
            have ck := hK.out.cell r (by rw [rowI_len]; exact hr5)
            rw [rowI_get] at ck
            have ct : wr.cell? ⟨b7 + 1, 16 * r + n, none⟩ = some (.int .i64 (turnN r n)) := by
              have hlt' : 16 * r + n < TL.length := by rw [nT.out]; omega
              rw [hT.out.cell _ hlt']
              have e := turnL_get r n hr5 hn16
              rw [← hTL.out, List.getElem?_eq_getElem hlt'] at e
              rw [Option.some.inj e]
            have hFc := fun W => keep_below (mixFn_any (gN sc r) (s 1) (s 2) (s 3) W hg5)
            have hS := fun W hW => step_any xl (add32 (add32 (fF (gN sc r) (s 1) (s 2) (s 3)) (b n)) (keyF sc r)) (turnN r n) s W hW htb.1 htb.2
            generalize hfv : fF (gN sc r) (s 1) (s 2) (s 3) = fv at hFc hS hstep
            have hcf := fun args W => mixFn_call (gN sc r) hg5 args W
            generalize hfk : mixFn (gN sc r) = fk at hFc cf hcf
            replace hcf := Lib.hid hcf
            generalize hkv : keyF sc r = kv at hS hstep ck
            generalize htn : turnN r n = tn at hS hstep ct
            generalize hbn' : b n = bn at hS hstep cb
            obtain ⟨ls, hls⟩ : ∃ l, l = rowI 5 s := ⟨_, rfl⟩
            have hxs : ∀ i (h : i < ls.length), ls[i] = iv32 (s i) := fun i h => by subst hls; exact rowI_get _ _ _ _
            rw [← hls] at hL
            have nl : ls.length = 5 := by rw [hls]; exact rowI_len _ _
            replace hls := Lib.hid hls
            have hr2 : (r : Int) < 5 := by omega
            have hn2 : (n : Int) < 16 := by omega
            clear hfv hfk hkv htn hbn' hbn htb
            replace hstep := Lib.hid hstep
            replace hr := Lib.hid hr
            replace hn := Lib.hid hn
            replace hFc := Lib.hid hFc
            replace hS := Lib.hid hS
            replace hxs := Lib.hid hxs
            replace nl := Lib.hid nl
            replace cf := Lib.hid cf
            replace cb := Lib.hid cb
            replace ck := Lib.hid ck
            replace ct := Lib.hid ct
            go_upto_region 19 with (first
              | (refine wpList_load_blk rfl 54 _ rfl xl rfl .u32 69 ls _ _ hL.out Try.underlying54 (by rw [nl.out]; kernel_rfl) ?_)
              | (refine wpList_store_blk rfl 54 _ _ rfl wr.heap.size rfl .u32 54 (List.replicate 5 0) ls (hze.out wr) rfl (by rw [nl.out, List.length_replicate]) (by rw [nl.out]; kernel_rfl) ?_; intro wB hX hoB))
            have hlX := hL.out.lt
            have sB := hoB.size
            rw [World.size_alloc] at sB
            have hlft : ∀ {q T l c}, Blk q wr c T l → Blk q wB c T l := fun h => by
              have := h.lt
              exact (h.alloc _).only hoB (by omega)
            have hLB := Lib.hid (hlft hL.out)
            have hBB := Lib.hid (hlft hB.out)
            have hRB := Lib.hid (hlft hR.out)
            have hKB := Lib.hid (hlft hK.out)
            have hTB := Lib.hid (hlft hT.out)
            have hFB := Lib.hid ((hF.out.alloc (Obj.cells ((List.replicate 5 0).map (Value.int .u32)).toArray 54)).only hoB (by have := hF.out.lt; omega))
            have hbB := Lib.hid (hoB.below (xalloc hb.out (Obj.cells ((List.replicate 5 0).map (Value.int .u32)).toArray 54)) (xalloc hb.out (Obj.cells ((List.replicate 5 0).map (Value.int .u32)).toArray 54)).size (by rintro i rfl; have := hb.out.size; omega))
            have hcl : ∀ {a v}, a.block < wr.heap.size → wr.cell? a = some v → wB.cell? a = some v := fun {a v} hh hc => hoB.cell ((World.cell?_of_block (Below.heap_alloc wr _ a.block hh)).trans hc) (fun e => by have e2 : a.block = wr.heap.size := e; omega)
            have cf := Lib.hid (hcl (by have := hF.out.lt; exact this) cf.out)
            have cb := Lib.hid (hcl (by have := hB.out.lt; exact this) cb.out)
            have ck := Lib.hid (hcl (by have := hK.out.lt; exact this) ck.out)
            have ct := Lib.hid (hcl (by have := hT.out.lt; exact this) ct.out)
            have hx : ∀ i, (hi : i < 5) → wB.cell? ⟨wr.heap.size, i, none⟩ = some (.int .u32 (iv32 (s i))) := fun i hi => by
              rw [hX.cell i (by rw [nl.out]; exact hi), hxs.out]
            have c1 := Lib.hid (hx 1 (by decide))
            have c2 := Lib.hid (hx 2 (by decide))
            have c3 := Lib.hid (hx 3 (by decide))
            clear hx hcl hlft hL hB hR hK hF hT hb sB hX hoB
            generalize wr.heap.size = xb at *
            refine wp_region_growL 24 [fixd (.func (.func 36) #[.pointer (some ⟨xl, 0, none⟩)] #[]), fixd (.int .i64 r), fixd (.pointer (some ⟨b7, r, none⟩)), fixd (fnV fk), fixd (.pointer (some ⟨xb, 1, none⟩)), fixd (.int .u32 (iv32 (s 1))), fixd (.pointer (some ⟨xb, 2, none⟩)), fixd (.int .u32 (iv32 (s 2))), fixd (.pointer (some ⟨xb, 3, none⟩)), fixd (.int .u32 (iv32 (s 3))), fixd (.int .u32 (iv32 (fv))), fixd (.int .i64 n), fixd (.pointer (some ⟨w.heap.size + 1, n, none⟩)), fixd (.int .u32 (iv32 (bn))), fixd (.int .u32 (iv32 (add32 (fv) (bn)))), fixd (.int .i64 r), fixd (.pointer (some ⟨kb, r, none⟩)), fixd (.int .u32 (iv32 (kv))), fixd (.int .u32 (iv32 (add32 (add32 (fv) (bn)) (kv)))), fixd (.int .i64 r), fixd (.int .i64 n), fixd (.pointer (some ⟨b7 + 1, 16 * r, none⟩)), fixd (.pointer (some ⟨b7 + 1, 16 * r + n, none⟩)), fixd (.int .i64 tn)] (by kernel_rfl) (by kernel_rfl) ?_
            simp only [List.take_succ_cons, List.take_zero, List.drop_succ_cons, List.drop_zero]
            try simp only [Act.put, List.setIfInBounds_toArray, List.set_cons_succ, List.set_cons_zero, List.nil_append, List.cons_append]
            refine wpGrowV_fix _ rfl rfl (fun W hb _ => by go_simp; first | exact xrefl W | exact ⟨rfl, xrefl W⟩) ?_
            try simp only [Act.put, List.setIfInBounds_toArray, List.set_cons_succ, List.set_cons_zero, List.nil_append, List.cons_append]
            refine wpGrowV_fix _ rfl rfl (fun W hb _ => by go_simp; first | exact xrefl W | exact ⟨rfl, xrefl W⟩) ?_
            try simp only [Act.put, List.setIfInBounds_toArray, List.set_cons_succ, List.set_cons_zero, List.nil_append, List.cons_append]
            refine wpGrowV_fix _ rfl rfl (fun W hb _ => by go_simp; first | exact xrefl W | exact ⟨rfl, xrefl W⟩) ?_
            try simp only [Act.put, List.setIfInBounds_toArray, List.set_cons_succ, List.set_cons_zero, List.nil_append, List.cons_append]
            refine wpGrowV_fix _ rfl rfl (fun W hb _ => by have c := cbel hb cf.out; go_simp; first | exact xrefl W | exact ⟨rfl, xrefl W⟩) ?_
            try simp only [Act.put, List.setIfInBounds_toArray, List.set_cons_succ, List.set_cons_zero, List.nil_append, List.cons_append]
            refine wpGrowV_fix _ rfl rfl (fun W hb _ => by go_simp; first | exact xrefl W | exact ⟨rfl, xrefl W⟩) ?_
            try simp only [Act.put, List.setIfInBounds_toArray, List.set_cons_succ, List.set_cons_zero, List.nil_append, List.cons_append]
            refine wpGrowV_fix _ rfl rfl (fun W hb _ => by have c := cbel hb c1.out; go_simp; first | exact xrefl W | exact ⟨rfl, xrefl W⟩) ?_
            try simp only [Act.put, List.setIfInBounds_toArray, List.set_cons_succ, List.set_cons_zero, List.nil_append, List.cons_append]
            refine wpGrowV_fix _ rfl rfl (fun W hb _ => by go_simp; first | exact xrefl W | exact ⟨rfl, xrefl W⟩) ?_
            try simp only [Act.put, List.setIfInBounds_toArray, List.set_cons_succ, List.set_cons_zero, List.nil_append, List.cons_append]
            refine wpGrowV_fix _ rfl rfl (fun W hb _ => by have c := cbel hb c2.out; go_simp; first | exact xrefl W | exact ⟨rfl, xrefl W⟩) ?_
            try simp only [Act.put, List.setIfInBounds_toArray, List.set_cons_succ, List.set_cons_zero, List.nil_append, List.cons_append]
            refine wpGrowV_fix _ rfl rfl (fun W hb _ => by go_simp; first | exact xrefl W | exact ⟨rfl, xrefl W⟩) ?_
            try simp only [Act.put, List.setIfInBounds_toArray, List.set_cons_succ, List.set_cons_zero, List.nil_append, List.cons_append]
            refine wpGrowV_fix _ rfl rfl (fun W hb _ => by have c := cbel hb c3.out; go_simp; first | exact xrefl W | exact ⟨rfl, xrefl W⟩) ?_
            try simp only [Act.put, List.setIfInBounds_toArray, List.set_cons_succ, List.set_cons_zero, List.nil_append, List.cons_append]
            refine wpGrowV_fix (.int .u32 (iv32 (fv))) rfl rfl (fun W hb _ => ?_) ?_
            · go_simp
              rw [hcf.out, growsUpon_enter]
              refine (hFc.out W).mono ?_
              rintro e w' ⟨rfl, hb'⟩
              exact ⟨rfl, hb'⟩
            try simp only [Act.put, List.setIfInBounds_toArray, List.set_cons_succ, List.set_cons_zero, List.nil_append, List.cons_append]
            refine wpGrowV_fix _ rfl rfl (fun W hb _ => by go_simp; first | exact xrefl W | exact ⟨rfl, xrefl W⟩) ?_
            try simp only [Act.put, List.setIfInBounds_toArray, List.set_cons_succ, List.set_cons_zero, List.nil_append, List.cons_append]
            refine wpGrowV_fix _ rfl rfl (fun W hb _ => by go_simp; first | exact xrefl W | exact ⟨rfl, xrefl W⟩) ?_
            try simp only [Act.put, List.setIfInBounds_toArray, List.set_cons_succ, List.set_cons_zero, List.nil_append, List.cons_append]
            refine wpGrowV_fix _ rfl rfl (fun W hb _ => by have c := cbel hb cb.out; go_simp; first | exact xrefl W | exact ⟨rfl, xrefl W⟩) ?_
            try simp only [Act.put, List.setIfInBounds_toArray, List.set_cons_succ, List.set_cons_zero, List.nil_append, List.cons_append]
            refine wpGrowV_fix _ rfl rfl (fun W hb _ => by go_simp; first | exact xrefl W | exact ⟨rfl, xrefl W⟩) ?_
            try simp only [Act.put, List.setIfInBounds_toArray, List.set_cons_succ, List.set_cons_zero, List.nil_append, List.cons_append]
            refine wpGrowV_fix _ rfl rfl (fun W hb _ => by go_simp; first | exact xrefl W | exact ⟨rfl, xrefl W⟩) ?_
            try simp only [Act.put, List.setIfInBounds_toArray, List.set_cons_succ, List.set_cons_zero, List.nil_append, List.cons_append]
            refine wpGrowV_fix _ rfl rfl (fun W hb _ => by go_simp; first | exact xrefl W | exact ⟨rfl, xrefl W⟩) ?_
            try simp only [Act.put, List.setIfInBounds_toArray, List.set_cons_succ, List.set_cons_zero, List.nil_append, List.cons_append]
            refine wpGrowV_fix _ rfl rfl (fun W hb _ => by have c := cbel hb ck.out; go_simp; first | exact xrefl W | exact ⟨rfl, xrefl W⟩) ?_
            try simp only [Act.put, List.setIfInBounds_toArray, List.set_cons_succ, List.set_cons_zero, List.nil_append, List.cons_append]
            refine wpGrowV_fix _ rfl rfl (fun W hb _ => by go_simp; first | exact xrefl W | exact ⟨rfl, xrefl W⟩) ?_
            try simp only [Act.put, List.setIfInBounds_toArray, List.set_cons_succ, List.set_cons_zero, List.nil_append, List.cons_append]
            refine wpGrowV_fix _ rfl rfl (fun W hb _ => by go_simp; first | exact xrefl W | exact ⟨rfl, xrefl W⟩) ?_
            try simp only [Act.put, List.setIfInBounds_toArray, List.set_cons_succ, List.set_cons_zero, List.nil_append, List.cons_append]
            refine wpGrowV_fix _ rfl rfl (fun W hb _ => by go_simp; first | exact xrefl W | exact ⟨rfl, xrefl W⟩) ?_
            try simp only [Act.put, List.setIfInBounds_toArray, List.set_cons_succ, List.set_cons_zero, List.nil_append, List.cons_append]
            refine wpGrowV_fix _ rfl rfl (fun W hb _ => by go_simp; first | exact xrefl W | exact ⟨rfl, xrefl W⟩) ?_
            try simp only [Act.put, List.setIfInBounds_toArray, List.set_cons_succ, List.set_cons_zero, List.nil_append, List.cons_append]
            refine wpGrowV_fix _ rfl rfl (fun W hb _ => by go_simp; first | exact xrefl W | exact ⟨rfl, xrefl W⟩) ?_
            try simp only [Act.put, List.setIfInBounds_toArray, List.set_cons_succ, List.set_cons_zero, List.nil_append, List.cons_append]
            refine wpGrowV_fix _ rfl rfl (fun W hb _ => by have c := cbel hb ct.out; go_simp; first | exact xrefl W | exact ⟨rfl, xrefl W⟩) ?_
            try simp only [Act.put, List.setIfInBounds_toArray, List.set_cons_succ, List.set_cons_zero, List.nil_append, List.cons_append]
            refine wpGrowV_nil fun Wa hba _ => ?_
            have hLa := hLB.out.below hba
            rw [hls.out] at hLa
            have hBa := Lib.hid (hBB.out.below hba)
            have hRa := Lib.hid (hRB.out.below hba)
            have hKa := Lib.hid (hKB.out.below hba)
            have hFa := Lib.hid (hFB.out.below hba)
            have hTa := Lib.hid (hTB.out.below hba)
            have hbA2 := Lib.hid (xtrans hbB.out hba)
            replace hS := Lib.hid (hS.out Wa hLa)
            clear hLB hBB hRB hKB hFB hTB hbB hba cf cb ck ct c1 c2 c3
            go_wp2_with (go_at_call 36; refine hS.out.mono ?_; rintro e wC ⟨rfl, hLC, hoC⟩)
            rw [hstep.out] at hLC
            exact ⟨⟨k + 1, by omega, rfl, Lib.hid hLC, Lib.hid (hBa.out.only hoC (by omega)), Lib.hid (hRa.out.only hoC (by omega)), Lib.hid (hKa.out.only hoC (by omega)), Lib.hid (hFa.out.only hoC (by omega)), Lib.hid (hTa.out.only hoC (by omega)), Lib.hid (hoC.below hbA2.out hbA2.out.size (by rintro i rfl; omega))⟩, by simp [intOf]; omega⟩
          · obtain rfl : k = 80 := by omega
            clear hlt
            have hL' := hL.out
            have hLl : (rowI 5 (lineTo sc b h 80)).length = 5 := rowI_len _ _
            rw [show rowI 5 (lineTo sc b h 80) = rowI 5 (lineF sc b h) from rfl] at hL' hLl
            generalize hLF : rowI 5 (lineF sc b h) = LF at hL' hLl
            rw [hsc.out] at hLF
            replace hLF := Lib.hid hLF
            have hinf : (Try.prog.info? 54).map (·.size) = some LF.length := by rw [hLl]; kernel_rfl
            have hrl : LF.length = (List.replicate 5 (0 : Int)).length := by rw [hLl, List.length_replicate]
            replace hinf := Lib.hid hinf
            replace hrl := Lib.hid hrl
            replace hL' := Lib.hid hL'
            clear hLl
            go_wp2_with (first
              | (refine wpList_load_blk rfl 54 _ rfl xl rfl .u32 69 LF _ _ hL'.out Try.underlying54 hinf.out ?_)
              | (refine wpList_store_blk rfl 54 _ _ rfl (w.heap.size + 1 + 1) rfl .u32 54 (List.replicate 5 0) LF hR.out rfl hrl.out hinf.out ?_; intro wD hD hoD))
            refine ret_blk rfl (w.heap.size + 1 + 1) .u32 54 LF _ _ rfl hD Try.underlying54 hinf.out rfl ⟨by rw [hLF.out], ?_⟩
            exact hoD.below hb.out hb.out.size (by rintro i rfl; omega)
      · rw [hMV.out] at hV8
        go_upto_region 14 with (go_at_call 39; refine (reverse_any b7 _ _ _ _ _ _ hV8.out).mono ?_; rintro e w9 ⟨rfl, hF9', ho9⟩)
        have hF9 : Hid (Vlk w9 b7 72 mixW) := Lib.hid hF9'
        have hFg : Hid (∀ r < 5, mixW[r]? = some (fnV (mixFn (gN sc r)))) := Lib.hid (by rw [hsc.out]; exact mixW_fn)
        have hB9 := Lib.hid (hB8.out.only ho9 (by omega))
        have hR9 := Lib.hid (hR8.out.only ho9 (by omega))
        have hK9 := Lib.hid (hK8.out.only ho9 (by omega))
        have hL9 := Lib.hid (hL8.out.only ho9 (by omega))
        have hT9 := Lib.hid (h8'.out.only ho9 (by omega))
        have hb9 := Lib.hid (ho9.below hb8.out hb8.out.size (by rintro i rfl; omega))
        clear hV8 hB8 hR8 hK8 hL8 h8' hb8 hF9' ho9
        generalize mixW = FL at *
        have hze := Lib.hid (fun W : World => Blk.new (q := .u32) W 54 (List.replicate 5 0))
        go_upto_region 15 with (go_at_call 10; refine (hTk.out _).mono ?_; rintro e wA ⟨rfl, hbA⟩)
        have hFA := Lib.hid (hF9.out.below hbA)
        have hBA := Lib.hid (hB9.out.below hbA)
        have hRA := Lib.hid (hR9.out.below hbA)
        have hKA := Lib.hid (hK9.out.below hbA)
        have hLA := hL9.out.below hbA
        rw [hlh.out, show rowI 5 h = rowI 5 (lineTo sc b h 0) from rfl] at hLA
        replace hLA := Lib.hid hLA
        have hTA := Lib.hid (hT9.out.below hbA)
        have hbw := Lib.hid (xtrans hb9.out hbA)
        clear hF9 hB9 hR9 hK9 hL9 hT9 hb9 hbA hTk
        go_loopw [49] (fun iv wx => ∃ k : Nat, k ≤ 80 ∧ iv = .int .i64 k ∧ Hid (Blk .u32 wx xl 69 (rowI 5 (lineTo sc b h k))) ∧ Hid (Blk .u32 wx (w.heap.size + 1) 30 lb) ∧ Hid (Blk .u32 wx (w.heap.size + 1 + 1) 54 (List.replicate 5 0)) ∧ Hid (Blk .u32 wx kb 29 (rowI 5 (keyF sc))) ∧ Hid (Vlk wx b7 72 FL) ∧ Hid (Blk .i64 wx (b7 + 1) 74 TL) ∧ Hid (Below w.heap.size w wx)) (fun iv _ => 80 - (intOf iv).toNat)
        case atStart => exact ⟨0, by omega, rfl, hLA, hBA, hRA, hKA, hFA, hTA, hbw⟩
        case round =>
          clear hLA hBA hRA hKA hFA hTA hbw
          obtain ⟨k, hk, rfl, hL, hB, hR, hK, hF, hT, hb⟩ := hrel
          by_cases hlt : k < 80
          · have hnext : Hid (lineTo sc b h (k + 1) = stepR sc k b (lineTo sc b h k)) := Lib.hid rfl
            generalize lineTo sc b h k = s at *
            have hstep := step_row sc k b s
            rw [← hnext.out] at hstep
            have hix := fun W => run_index_ints (P := Try.prog) 31 3 80 .i64 .i64 TK k W Try.underlying31 Try.underlying3 (by kernel_rfl) (by rw [nK.out]; exact hlt) (by omega)
            simp only [hTg.out] at hix
            obtain ⟨r, hr⟩ : ∃ r, r = k / 16 := ⟨_, rfl⟩
            obtain ⟨n, hn⟩ : ∃ n, n = takeN sc k := ⟨_, rfl⟩
            have hr5 : r < 5 := by omega
            have hn16 : n < 16 := by rw [hn]; exact take_lt _ _
            have hkr : (k : Int) / 16 = (r : Int) := by omega
            rw [← hr, ← hn] at hstep
            rw [← hn] at hix
            have htb := turn_bd r hr5 n hn16
            have hg5 := gN_lt sc r hr5
            have cf : wr.cell? ⟨b7, r, none⟩ = some (fnV (mixFn (gN sc r))) := by rw [hF.out.cell, hFg.out r hr5]
            have cb := hB.out.cell n (by rw [nb.out]; exact hn16)
            have hbn : lb[n]'(by rw [nb.out]; exact hn16) = iv32 (b n) := by
              have e := hlb.out
              subst e
              exact rowI_get _ _ _ _
            rw [hbn] at cb
            have ck := hK.out.cell r (by rw [rowI_len]; exact hr5)
            rw [rowI_get] at ck
            have ct : wr.cell? ⟨b7 + 1, 16 * r + n, none⟩ = some (.int .i64 (turnN r n)) := by
              have hlt' : 16 * r + n < TL.length := by rw [nT.out]; omega
              rw [hT.out.cell _ hlt']
              have e := turnL_get r n hr5 hn16
              rw [← hTL.out, List.getElem?_eq_getElem hlt'] at e
              rw [Option.some.inj e]
            have hFc := fun W => keep_below (mixFn_any (gN sc r) (s 1) (s 2) (s 3) W hg5)
            have hS := fun W hW => step_any xl (add32 (add32 (fF (gN sc r) (s 1) (s 2) (s 3)) (b n)) (keyF sc r)) (turnN r n) s W hW htb.1 htb.2
            generalize hfv : fF (gN sc r) (s 1) (s 2) (s 3) = fv at hFc hS hstep
            have hcf := fun args W => mixFn_call (gN sc r) hg5 args W
            generalize hfk : mixFn (gN sc r) = fk at hFc cf hcf
            replace hcf := Lib.hid hcf
            generalize hkv : keyF sc r = kv at hS hstep ck
            generalize htn : turnN r n = tn at hS hstep ct
            generalize hbn' : b n = bn at hS hstep cb
            obtain ⟨ls, hls⟩ : ∃ l, l = rowI 5 s := ⟨_, rfl⟩
            have hxs : ∀ i (h : i < ls.length), ls[i] = iv32 (s i) := fun i h => by subst hls; exact rowI_get _ _ _ _
            rw [← hls] at hL
            have nl : ls.length = 5 := by rw [hls]; exact rowI_len _ _
            replace hls := Lib.hid hls
            have hr2 : (r : Int) < 5 := by omega
            have hn2 : (n : Int) < 16 := by omega
            clear hfv hfk hkv htn hbn' hbn htb
            replace hstep := Lib.hid hstep
            replace hr := Lib.hid hr
            replace hn := Lib.hid hn
            replace hFc := Lib.hid hFc
            replace hS := Lib.hid hS
            replace hxs := Lib.hid hxs
            replace nl := Lib.hid nl
            replace cf := Lib.hid cf
            replace cb := Lib.hid cb
            replace ck := Lib.hid ck
            replace ct := Lib.hid ct
            go_upto_region 19 with (first
              | (refine wpList_load_blk rfl 54 _ rfl xl rfl .u32 69 ls _ _ hL.out Try.underlying54 (by rw [nl.out]; kernel_rfl) ?_)
              | (refine wpList_store_blk rfl 54 _ _ rfl wr.heap.size rfl .u32 54 (List.replicate 5 0) ls (hze.out wr) rfl (by rw [nl.out, List.length_replicate]) (by rw [nl.out]; kernel_rfl) ?_; intro wB hX hoB))
            have hlX := hL.out.lt
            have sB := hoB.size
            rw [World.size_alloc] at sB
            have hlft : ∀ {q T l c}, Blk q wr c T l → Blk q wB c T l := fun h => by
              have := h.lt
              exact (h.alloc _).only hoB (by omega)
            have hLB := Lib.hid (hlft hL.out)
            have hBB := Lib.hid (hlft hB.out)
            have hRB := Lib.hid (hlft hR.out)
            have hKB := Lib.hid (hlft hK.out)
            have hTB := Lib.hid (hlft hT.out)
            have hFB := Lib.hid ((hF.out.alloc (Obj.cells ((List.replicate 5 0).map (Value.int .u32)).toArray 54)).only hoB (by have := hF.out.lt; omega))
            have hbB := Lib.hid (hoB.below (xalloc hb.out (Obj.cells ((List.replicate 5 0).map (Value.int .u32)).toArray 54)) (xalloc hb.out (Obj.cells ((List.replicate 5 0).map (Value.int .u32)).toArray 54)).size (by rintro i rfl; have := hb.out.size; omega))
            have hcl : ∀ {a v}, a.block < wr.heap.size → wr.cell? a = some v → wB.cell? a = some v := fun {a v} hh hc => hoB.cell ((World.cell?_of_block (Below.heap_alloc wr _ a.block hh)).trans hc) (fun e => by have e2 : a.block = wr.heap.size := e; omega)
            have cf := Lib.hid (hcl (by have := hF.out.lt; exact this) cf.out)
            have cb := Lib.hid (hcl (by have := hB.out.lt; exact this) cb.out)
            have ck := Lib.hid (hcl (by have := hK.out.lt; exact this) ck.out)
            have ct := Lib.hid (hcl (by have := hT.out.lt; exact this) ct.out)
            have hx : ∀ i, (hi : i < 5) → wB.cell? ⟨wr.heap.size, i, none⟩ = some (.int .u32 (iv32 (s i))) := fun i hi => by
              rw [hX.cell i (by rw [nl.out]; exact hi), hxs.out]
            have c1 := Lib.hid (hx 1 (by decide))
            have c2 := Lib.hid (hx 2 (by decide))
            have c3 := Lib.hid (hx 3 (by decide))
            clear hx hcl hlft hL hB hR hK hF hT hb sB hX hoB
            generalize wr.heap.size = xb at *
            refine wp_region_growL 24 [fixd (.func (.func 36) #[.pointer (some ⟨xl, 0, none⟩)] #[]), fixd (.int .i64 r), fixd (.pointer (some ⟨b7, r, none⟩)), fixd (fnV fk), fixd (.pointer (some ⟨xb, 1, none⟩)), fixd (.int .u32 (iv32 (s 1))), fixd (.pointer (some ⟨xb, 2, none⟩)), fixd (.int .u32 (iv32 (s 2))), fixd (.pointer (some ⟨xb, 3, none⟩)), fixd (.int .u32 (iv32 (s 3))), fixd (.int .u32 (iv32 (fv))), fixd (.int .i64 n), fixd (.pointer (some ⟨w.heap.size + 1, n, none⟩)), fixd (.int .u32 (iv32 (bn))), fixd (.int .u32 (iv32 (add32 (fv) (bn)))), fixd (.int .i64 r), fixd (.pointer (some ⟨kb, r, none⟩)), fixd (.int .u32 (iv32 (kv))), fixd (.int .u32 (iv32 (add32 (add32 (fv) (bn)) (kv)))), fixd (.int .i64 r), fixd (.int .i64 n), fixd (.pointer (some ⟨b7 + 1, 16 * r, none⟩)), fixd (.pointer (some ⟨b7 + 1, 16 * r + n, none⟩)), fixd (.int .i64 tn)] (by kernel_rfl) (by kernel_rfl) ?_
            simp only [List.take_succ_cons, List.take_zero, List.drop_succ_cons, List.drop_zero]
            try simp only [Act.put, List.setIfInBounds_toArray, List.set_cons_succ, List.set_cons_zero, List.nil_append, List.cons_append]
            refine wpGrowV_fix _ rfl rfl (fun W hb _ => by go_simp; first | exact xrefl W | exact ⟨rfl, xrefl W⟩) ?_
            try simp only [Act.put, List.setIfInBounds_toArray, List.set_cons_succ, List.set_cons_zero, List.nil_append, List.cons_append]
            refine wpGrowV_fix _ rfl rfl (fun W hb _ => by go_simp; first | exact xrefl W | exact ⟨rfl, xrefl W⟩) ?_
            try simp only [Act.put, List.setIfInBounds_toArray, List.set_cons_succ, List.set_cons_zero, List.nil_append, List.cons_append]
            refine wpGrowV_fix _ rfl rfl (fun W hb _ => by go_simp; first | exact xrefl W | exact ⟨rfl, xrefl W⟩) ?_
            try simp only [Act.put, List.setIfInBounds_toArray, List.set_cons_succ, List.set_cons_zero, List.nil_append, List.cons_append]
            refine wpGrowV_fix _ rfl rfl (fun W hb _ => by have c := cbel hb cf.out; go_simp; first | exact xrefl W | exact ⟨rfl, xrefl W⟩) ?_
            try simp only [Act.put, List.setIfInBounds_toArray, List.set_cons_succ, List.set_cons_zero, List.nil_append, List.cons_append]
            refine wpGrowV_fix _ rfl rfl (fun W hb _ => by go_simp; first | exact xrefl W | exact ⟨rfl, xrefl W⟩) ?_
            try simp only [Act.put, List.setIfInBounds_toArray, List.set_cons_succ, List.set_cons_zero, List.nil_append, List.cons_append]
            refine wpGrowV_fix _ rfl rfl (fun W hb _ => by have c := cbel hb c1.out; go_simp; first | exact xrefl W | exact ⟨rfl, xrefl W⟩) ?_
            try simp only [Act.put, List.setIfInBounds_toArray, List.set_cons_succ, List.set_cons_zero, List.nil_append, List.cons_append]
            refine wpGrowV_fix _ rfl rfl (fun W hb _ => by go_simp; first | exact xrefl W | exact ⟨rfl, xrefl W⟩) ?_
            try simp only [Act.put, List.setIfInBounds_toArray, List.set_cons_succ, List.set_cons_zero, List.nil_append, List.cons_append]
            refine wpGrowV_fix _ rfl rfl (fun W hb _ => by have c := cbel hb c2.out; go_simp; first | exact xrefl W | exact ⟨rfl, xrefl W⟩) ?_
            try simp only [Act.put, List.setIfInBounds_toArray, List.set_cons_succ, List.set_cons_zero, List.nil_append, List.cons_append]
            refine wpGrowV_fix _ rfl rfl (fun W hb _ => by go_simp; first | exact xrefl W | exact ⟨rfl, xrefl W⟩) ?_
            try simp only [Act.put, List.setIfInBounds_toArray, List.set_cons_succ, List.set_cons_zero, List.nil_append, List.cons_append]
            refine wpGrowV_fix _ rfl rfl (fun W hb _ => by have c := cbel hb c3.out; go_simp; first | exact xrefl W | exact ⟨rfl, xrefl W⟩) ?_
            try simp only [Act.put, List.setIfInBounds_toArray, List.set_cons_succ, List.set_cons_zero, List.nil_append, List.cons_append]
            refine wpGrowV_fix (.int .u32 (iv32 (fv))) rfl rfl (fun W hb _ => ?_) ?_
            · go_simp
              rw [hcf.out, growsUpon_enter]
              refine (hFc.out W).mono ?_
              rintro e w' ⟨rfl, hb'⟩
              exact ⟨rfl, hb'⟩
            try simp only [Act.put, List.setIfInBounds_toArray, List.set_cons_succ, List.set_cons_zero, List.nil_append, List.cons_append]
            refine wpGrowV_fix _ rfl rfl (fun W hb _ => by go_simp; first | exact xrefl W | exact ⟨rfl, xrefl W⟩) ?_
            try simp only [Act.put, List.setIfInBounds_toArray, List.set_cons_succ, List.set_cons_zero, List.nil_append, List.cons_append]
            refine wpGrowV_fix _ rfl rfl (fun W hb _ => by go_simp; first | exact xrefl W | exact ⟨rfl, xrefl W⟩) ?_
            try simp only [Act.put, List.setIfInBounds_toArray, List.set_cons_succ, List.set_cons_zero, List.nil_append, List.cons_append]
            refine wpGrowV_fix _ rfl rfl (fun W hb _ => by have c := cbel hb cb.out; go_simp; first | exact xrefl W | exact ⟨rfl, xrefl W⟩) ?_
            try simp only [Act.put, List.setIfInBounds_toArray, List.set_cons_succ, List.set_cons_zero, List.nil_append, List.cons_append]
            refine wpGrowV_fix _ rfl rfl (fun W hb _ => by go_simp; first | exact xrefl W | exact ⟨rfl, xrefl W⟩) ?_
            try simp only [Act.put, List.setIfInBounds_toArray, List.set_cons_succ, List.set_cons_zero, List.nil_append, List.cons_append]
            refine wpGrowV_fix _ rfl rfl (fun W hb _ => by go_simp; first | exact xrefl W | exact ⟨rfl, xrefl W⟩) ?_
            try simp only [Act.put, List.setIfInBounds_toArray, List.set_cons_succ, List.set_cons_zero, List.nil_append, List.cons_append]
            refine wpGrowV_fix _ rfl rfl (fun W hb _ => by go_simp; first | exact xrefl W | exact ⟨rfl, xrefl W⟩) ?_
            try simp only [Act.put, List.setIfInBounds_toArray, List.set_cons_succ, List.set_cons_zero, List.nil_append, List.cons_append]
            refine wpGrowV_fix _ rfl rfl (fun W hb _ => by have c := cbel hb ck.out; go_simp; first | exact xrefl W | exact ⟨rfl, xrefl W⟩) ?_
            try simp only [Act.put, List.setIfInBounds_toArray, List.set_cons_succ, List.set_cons_zero, List.nil_append, List.cons_append]
            refine wpGrowV_fix _ rfl rfl (fun W hb _ => by go_simp; first | exact xrefl W | exact ⟨rfl, xrefl W⟩) ?_
            try simp only [Act.put, List.setIfInBounds_toArray, List.set_cons_succ, List.set_cons_zero, List.nil_append, List.cons_append]
            refine wpGrowV_fix _ rfl rfl (fun W hb _ => by go_simp; first | exact xrefl W | exact ⟨rfl, xrefl W⟩) ?_
            try simp only [Act.put, List.setIfInBounds_toArray, List.set_cons_succ, List.set_cons_zero, List.nil_append, List.cons_append]
            refine wpGrowV_fix _ rfl rfl (fun W hb _ => by go_simp; first | exact xrefl W | exact ⟨rfl, xrefl W⟩) ?_
            try simp only [Act.put, List.setIfInBounds_toArray, List.set_cons_succ, List.set_cons_zero, List.nil_append, List.cons_append]
            refine wpGrowV_fix _ rfl rfl (fun W hb _ => by go_simp; first | exact xrefl W | exact ⟨rfl, xrefl W⟩) ?_
            try simp only [Act.put, List.setIfInBounds_toArray, List.set_cons_succ, List.set_cons_zero, List.nil_append, List.cons_append]
            refine wpGrowV_fix _ rfl rfl (fun W hb _ => by go_simp; first | exact xrefl W | exact ⟨rfl, xrefl W⟩) ?_
            try simp only [Act.put, List.setIfInBounds_toArray, List.set_cons_succ, List.set_cons_zero, List.nil_append, List.cons_append]
            refine wpGrowV_fix _ rfl rfl (fun W hb _ => by have c := cbel hb ct.out; go_simp; first | exact xrefl W | exact ⟨rfl, xrefl W⟩) ?_
            try simp only [Act.put, List.setIfInBounds_toArray, List.set_cons_succ, List.set_cons_zero, List.nil_append, List.cons_append]
            refine wpGrowV_nil fun Wa hba _ => ?_
            have hLa := hLB.out.below hba
            rw [hls.out] at hLa
            have hBa := Lib.hid (hBB.out.below hba)
            have hRa := Lib.hid (hRB.out.below hba)
            have hKa := Lib.hid (hKB.out.below hba)
            have hFa := Lib.hid (hFB.out.below hba)
            have hTa := Lib.hid (hTB.out.below hba)
            have hbA2 := Lib.hid (xtrans hbB.out hba)
            replace hS := Lib.hid (hS.out Wa hLa)
            clear hLB hBB hRB hKB hFB hTB hbB hba cf cb ck ct c1 c2 c3
            go_wp2_with (go_at_call 36; refine hS.out.mono ?_; rintro e wC ⟨rfl, hLC, hoC⟩)
            rw [hstep.out] at hLC
            exact ⟨⟨k + 1, by omega, rfl, Lib.hid hLC, Lib.hid (hBa.out.only hoC (by omega)), Lib.hid (hRa.out.only hoC (by omega)), Lib.hid (hKa.out.only hoC (by omega)), Lib.hid (hFa.out.only hoC (by omega)), Lib.hid (hTa.out.only hoC (by omega)), Lib.hid (hoC.below hbA2.out hbA2.out.size (by rintro i rfl; omega))⟩, by simp [intOf]; omega⟩
          · obtain rfl : k = 80 := by omega
            clear hlt
            have hL' := hL.out
            have hLl : (rowI 5 (lineTo sc b h 80)).length = 5 := rowI_len _ _
            rw [show rowI 5 (lineTo sc b h 80) = rowI 5 (lineF sc b h) from rfl] at hL' hLl
            generalize hLF : rowI 5 (lineF sc b h) = LF at hL' hLl
            rw [hsc.out] at hLF
            replace hLF := Lib.hid hLF
            have hinf : (Try.prog.info? 54).map (·.size) = some LF.length := by rw [hLl]; kernel_rfl
            have hrl : LF.length = (List.replicate 5 (0 : Int)).length := by rw [hLl, List.length_replicate]
            replace hinf := Lib.hid hinf
            replace hrl := Lib.hid hrl
            replace hL' := Lib.hid hL'
            clear hLl
            go_wp2_with (first
              | (refine wpList_load_blk rfl 54 _ rfl xl rfl .u32 69 LF _ _ hL'.out Try.underlying54 hinf.out ?_)
              | (refine wpList_store_blk rfl 54 _ _ rfl (w.heap.size + 1 + 1) rfl .u32 54 (List.replicate 5 0) LF hR.out rfl hrl.out hinf.out ?_; intro wD hD hoD))
            refine ret_blk rfl (w.heap.size + 1 + 1) .u32 54 LF _ _ rfl hD Try.underlying54 hinf.out rfl ⟨by rw [hLF.out], ?_⟩
            exact hoD.below hb.out hb.out.size (by rintro i rfl; omega)
end Go.Proofs.Ytfafancacfjodaa
