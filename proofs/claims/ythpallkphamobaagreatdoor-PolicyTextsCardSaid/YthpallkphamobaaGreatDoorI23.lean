/- Texts of this claim, merged; no condition. -/
import Derived.Test.YthpallkphamobaaGreatDoorI22
import Derived.Test.YthpallkphamobaaGreatDoorI13
import Derived.Test.YthpallkphamobaaGreatDoorI15
import Derived.Test.YthpallkphamobaaGreatDoorI11
set_option linter.all false
namespace Go.Proofs.YthpallkphamobaaGreatDoor
open Go.RowKit Go.Shelf

/-- A word's bytes, the highest first. -/
def wbL (N : Nat) : List Nat := (List.range 32).map fun j => byteAt N (31 - j)
theorem wbL_len (N : Nat) : (wbL N).length = 32 := by simp [wbL]
theorem wbL_get (N k : Nat) (h : k < 32) : (wbL N)[k]'(by rw [wbL_len]; exact h) = byteAt N (31 - k) := by simp [wbL]
theorem wb_of (N k : Nat) (h : k < 20) : ((natI (wbL N)).map (Value.int .u8))[12 + k]? = (adrC (ofN N))[k]? := by
  unfold adrC
  rw [List.getElem?_map, List.getElem?_map]
  unfold natI
  rw [List.getElem?_map, List.getElem?_map, List.getElem?_eq_getElem (by rw [wbL_len]; omega), List.getElem?_eq_getElem (by rw [ofN_len]; exact h), wbL_get N (12 + k) (by omega), ofN_get N k h, show 31 - (12 + k) = 19 - k by omega]
theorem info_u8 : (Tryz.prog.info? 5).map (fun i => (i.zero, i.size, i.bytes)) = some (some (Value.int .u8 0), 1, 1) := by kernel_rfl
theorem own_sliceB {w : World} {base : Nat} {e : TypeId} {size : Nat} {v : Value} {n : Nat} {xs : List Value} (h : w.ownsRow base e size v n xs) : ∃ a c, v = .slice a n c := by
  rcases h.2 with ⟨rfl, rfl⟩ | ⟨g, cap, cur, rfl, _⟩
  · exact ⟨_, _, rfl⟩
  · exact ⟨_, _, rfl⟩
theorem own_belowB {w w' : World} {base : Nat} {e : TypeId} {size : Nat} {v : Value} {n : Nat} {xs : List Value} (h : w.ownsRow base e size v n xs) (hb : Below w.heap.size w w') : w'.ownsRow base e size v n xs := by
  refine ⟨h.1, ?_⟩
  rcases h.2 with h0 | ⟨g, cap, cur, e1, hg, hh, r⟩
  · exact .inl h0
  · exact .inr ⟨g, cap, cur, e1, hg, (hb.block g (Array.getElem?_eq_some_iff.1 hh).1).trans hh, r⟩
theorem run_mk_cap {P : Program} (t e : TypeId) (i : TypeInfo) (q : IntKind) (bytes : Nat) (ht : P.underlying t = some (.slice e)) (hi : P.info? e = some i) (hz : i.zero = some (.int q 0)) (hsize : i.size = 1) (hby : i.bytes = bytes)
    (n : Nat) (hb : bytes * n ≤ 281474976710656) (h63 : n ≤ 9223372036854775807) (W : World) :
    (Instr.makeSlice t (.int .i64 0) (.int .i64 n)).run P W = .ok (.slice (some ⟨W.heap.size, 0, none⟩) 0 n) (W.alloc (.cells (List.replicate n (Value.int q 0)).toArray e)) := by
  subst hby
  have hb' : (i.bytes : Int) * (n : Int) ≤ 281474976710656 := by
    have h : ((i.bytes * n : Nat) : Int) ≤ 281474976710656 := by omega
    rwa [Int.natCast_mul] at h
  rw [run_make (P := P) W t e i _ ht hi hz .i64 .i64 0 n (by omega) (by omega) hb' (by omega)]
  simp only [Int.toNat_natCast, hsize, Nat.mul_one, Int.toNat_zero]
  have e1 : madeCells (Value.int q 0).cells n = (List.replicate n (Value.int q 0)).toArray := by
    apply Array.ext
    · simp [madeCells]
    · intro j h1 h2
      simp [madeCells, Value.cells, Nat.mod_one]
  rw [e1]
set_option maxRecDepth 100000 in
set_option maxHeartbeats 8000000 in
theorem bytesW_any (N : Nat) (w : World) :
    Calls Tryz.prog 56 #[wordV N] w fun e w' => (∃ v, e = .returned v ∧ w'.ownsRow (w.heap.size + 1) 5 1 v 32 ((natI (wbL N)).map (Value.int .u8))) ∧ Below w.heap.size w w' := by
  obtain ⟨i0, hi0, hz0, hz1, hz2⟩ := info_parts info_u8
  obtain ⟨zl, hzl⟩ : ∃ zl, zl = (List.replicate 32 (Value.int .u8 0)).toArray := ⟨_, rfl⟩
  have hmk : ∀ W, (Instr.makeSlice 93 (.int .i64 0) (.int .i64 32)).run Tryz.prog W = .ok (.slice (some ⟨W.heap.size, 0, none⟩) 0 32) (W.alloc (.cells zl 5)) := fun W => hzl ▸ run_mk_cap 93 5 i0 .u8 1 Tryz.underlying93 hi0 hz0 hz1 hz2 32 (by omega) (by omega) W
  have hA : Hid (BlkG ((w.alloc (.cells #[.int .u64 (limb N 0), .int .u64 (limb N 1), .int .u64 (limb N 2), .int .u64 (limb N 3)] 43)).alloc (.cells zl 5)) w.heap.size 43 ((wordL N).map (Value.int .u64))) := Lib.hid ((BlkG.new w _ _).alloc _)
  have hb0 : Hid (Below w.heap.size w ((w.alloc (.cells #[.int .u64 (limb N 0), .int .u64 (limb N 1), .int .u64 (limb N 2), .int .u64 (limb N 3)] 43)).alloc (.cells zl 5))) := Lib.hid (xalloc (xalloc (xrefl w) _) _)
  have ho0 : Hid (World.ownsRow ((w.alloc (.cells #[.int .u64 (limb N 0), .int .u64 (limb N 1), .int .u64 (limb N 2), .int .u64 (limb N 3)] 43)).alloc (.cells zl 5)) (w.heap.size + 1) 5 1 (.slice (some ⟨w.heap.size + 1, 0, none⟩) 0 32) ((wbL N).take 0).length ((natI ((wbL N).take 0)).map (Value.int .u8))) := Lib.hid (by
    have := World.ownsRow_made (base := w.heap.size + 1) (e := 5) (size := 1) (w.alloc (.cells #[.int .u64 (limb N 0), .int .u64 (limb N 1), .int .u64 (limb N 2), .int .u64 (limb N 3)] 43)) zl 32 (by rw [World.size_alloc]; exact Nat.le_refl _) (by unfold maxLen; omega) (by rw [hzl]; simp)
    rw [World.size_alloc] at this
    exact this)
  clear hzl
  unfold wordV
  go_enter Tryz.func56, Tryz.ntmps56
  go_upto_region 2 with fail
  clear hmk
  generalize (w.alloc (.cells #[.int .u64 (limb N 0), .int .u64 (limb N 1), .int .u64 (limb N 2), .int .u64 (limb N 3)] 43)).alloc (.cells zl 5) = w2 at *
  go_wp2
  go_loopw [3, 4] (fun v iv wx => ∃ n : Nat, n ≤ 32 ∧ iv = .int .i64 ((n : Int) - 1) ∧ Hid (BlkG wx w.heap.size 43 ((wordL N).map (Value.int .u64))) ∧ Hid (wx.ownsRow (w.heap.size + 1) 5 1 v ((wbL N).take (32 - n)).length ((natI ((wbL N).take (32 - n))).map (Value.int .u8))) ∧ Hid (Below w.heap.size w wx)) (fun _ iv _ => (intOf iv + 1).toNat)
  case atStart => exact ⟨32, by omega, rfl, hA, ho0, hb0⟩
  case round =>
    clear hA ho0 hb0
    obtain ⟨n, hn, rfl, hA, hown, hb⟩ := hrel
    cases n with
    | zero =>
      go_wp2
      go_ret
      exact ⟨⟨_, rfl, by have := hown.out; rw [List.take_of_length_le (by rw [wbL_len]; omega), wbL_len] at this; exact this⟩, hb.out⟩
    | succ k =>
      rw [show ((k + 1 : Nat) : Int) - 1 = (k : Int) by omega]
      rw [show 32 - (k + 1) = 31 - k by omega] at hown
      have hc1 := blk_cell hA.out (i := k / 8) (v := .int .u64 (limb N (k / 8) : Nat)) (by rw [List.getElem?_map, List.getElem?_eq_getElem (by show k / 8 < 4; omega), wordL_get]; rfl)
      have hx := limb_lt N (k / 8)
      have hy := limb_byte N k
      generalize limb N (k / 8) = x at hc1 hx hy
      have hZ : ((x : Int) / 2 ^ (8 * (k % 8)) % 256) = (byteAt N k : Int) := by rw [← hy]; push_cast; rfl
      have hnx : Hid ((wbL N).take (32 - k) = (wbL N).take (31 - k) ++ [byteAt N k]) := Lib.hid (by
        rw [show 32 - k = (31 - k) + 1 by omega, List.take_succ_eq_append_getElem (by rw [wbL_len]; omega), wbL_get N (31 - k) (by omega), show 31 - (31 - k) = k by omega])
      have htl : ((wbL N).take (31 - k)).length = 31 - k := by rw [List.length_take, wbL_len]; omega
      replace hZ := Lib.hid hZ
      rw [htl] at hown
      obtain ⟨m, hm⟩ : ∃ m, m = 31 - k := ⟨_, rfl⟩
      rw [← hm] at hown hnx htl
      have hm31 : m ≤ 31 := by omega
      replace hm := Lib.hid hm
      clear hy
      have hge : (0 : Int) ≤ (k : Int) := by omega
      have hs := hb.out.size
      have hsz3 : w.heap.size + 1 ≤ wr.heap.size := by have := hA.out.lt; omega
      have hsz4 : w.heap.size ≤ (wr.alloc (.cells #[.int .u8 ((x : Int) / 2 ^ (8 * (k % 8)) % 256)] 5)).heap.size := by rw [World.size_alloc]; omega
      have hrow : Hid (RowAt .u8 (wr.alloc (.cells #[.int .u8 ((x : Int) / 2 ^ (8 * (k % 8)) % 256)] 5)) (some ⟨wr.heap.size, 0, none⟩) [(x : Int) / 2 ^ (8 * (k % 8)) % 256]) := Lib.hid (rowAt_new wr _ [(x : Int) / 2 ^ (8 * (k % 8)) % 256])
      obtain ⟨av, cv, rfl⟩ := own_sliceB hown.out
      have hne : (Value.slice av m cv).ownBlock ≠ some w.heap.size := fun e => by have := (hown.out.lt _ e).1; omega
      have hlo : ∀ j, (Value.slice av m cv).ownBlock = some j → w.heap.size ≤ j := fun j e => by have := (hown.out.lt _ e).1; omega
      have g1 : m + [(x : Int) / 2 ^ (8 * (k % 8)) % 256].length ≤ maxLen := by rw [List.length_singleton]; unfold maxLen; omega
      have g2 : (m + [(x : Int) / 2 ^ (8 * (k % 8)) % 256].length) * 1 ≤ 140737488355328 := by rw [List.length_singleton]; omega
      have g3 : w.heap.size + 1 ≤ (wr.alloc (.cells #[.int .u8 ((x : Int) / 2 ^ (8 * (k % 8)) % 256)] 5)).heap.size := by rw [World.size_alloc]; omega
      replace g1 := Lib.hid g1
      replace g2 := Lib.hid g2
      replace g3 := Lib.hid g3
      go_wp2_with (at_builtin; refine wpList_append_row (wr.alloc (.cells #[.int .u8 ((x : Int) / 2 ^ (8 * (k % 8)) % 256)] 5)) rfl _ _ 93 rfl (w.heap.size + 1) 5 i0 (.int .u8 0) 1 Tryz.underlying93 hi0 hz0 hz1 hz2 rfl _ m _ rfl (own_belowB hown.out (xalloc (xrefl wr) _)) (some ⟨wr.heap.size, 0, none⟩) 1 .u8 [(x : Int) / 2 ^ (8 * (k % 8)) % 256] rfl (by simp) hrow.out g1.out g2.out g3.out ?_; intro v5 w5 ho5 hg5; have hA5 := Lib.hid ((hA.out.alloc _).only (only_grown hg5) hne); have hb5 := Lib.hid (Below.grown (xalloc hb.out _) hg5 hsz4 hlo); clear hg5)
      rw [hZ.out] at ho5
      refine ⟨⟨k, by omega, by go_num, hA5, Lib.hid ?_, hb5⟩, by simp [intOf]⟩
      rw [hnx.out, List.length_append, htl, natI_app, List.map_append]
      exact ho5
/-- The 32 bytes' row: its block, and the last twenty of them. -/
theorem own_row32 {N base : Nat} {w : World} {v : Value} (h : w.ownsRow base 5 1 v 32 ((natI (wbL N)).map (Value.int .u8))) (hwb : ∀ k, k < 20 → ((natI (wbL N)).map (Value.int .u8))[12 + k]? = (adrC (ofN N))[k]?) :
    ∃ g c, v = .slice (some ⟨g, 0, none⟩) 32 c ∧ base ≤ g ∧ (32 : Int) ≤ c ∧ Hid (w.rangeAt g 12 (adrC (ofN N))) := by
  rcases h.2 with ⟨-, h0⟩ | ⟨g, cap, cur, rfl, hg, hh, hc, _⟩
  · cases h0
  · refine ⟨g, cap, rfl, hg, by omega, Lib.hid fun j u hj => ?_⟩
    have hj20 : j < 20 := by
      have := (List.getElem?_eq_some_iff.1 hj).1
      rwa [adrC_len, ofN_len] at this
    rw [h.cellAt (12 + j) (by omega), hwb j hj20]
    exact hj
set_option maxRecDepth 100000 in
set_option maxHeartbeats 8000000 in
theorem ofA_any (N : Nat) (w : World) :
    Calls Tryz.prog 26 #[wordV N] w fun e w' => e = .returned (adrV (ofN N)) ∧ Below w.heap.size w w' := by
  have hby := fun W => bytesW_any N W
  have hA20 : (adrC (ofN N)).length = 20 := by rw [adrC_len, ofN_len]
  have hone : (adrC (ofN N)).all (·.oneCell') = true := by simp [adrC, Value.oneCell']
  have hwb := Lib.hid (wb_of N)
  have hat : ∀ (g c : Nat) (W : World), (Instr.arrayAt 29 (.slice (some ⟨g, 12, none⟩) 20 c)).run Tryz.prog W = .ok (.pointer (some ⟨g, 12, none⟩)) W := fun _ _ _ => by kernel_rfl
  unfold wordV adrV at *
  have hwl : (natI (wbL N)).length = 32 := by rw [natI_len, wbL_len]
  have hfm : ([Value.int .u64 (limb N 0), .int .u64 (limb N 1), .int .u64 (limb N 2), .int .u64 (limb N 3)] : List Value).length = 4 := rfl
  generalize hvs : [Value.int .u64 (limb N 0), .int .u64 (limb N 1), .int .u64 (limb N 2), .int .u64 (limb N 3)] = ws at *
  have hWd : Hid (BlkG ((w.alloc (.cells ws.toArray 43)).alloc (.cells ([.int .u8 0, .int .u8 0, .int .u8 0, .int .u8 0, .int .u8 0, .int .u8 0, .int .u8 0, .int .u8 0, .int .u8 0, .int .u8 0, .int .u8 0, .int .u8 0, .int .u8 0, .int .u8 0, .int .u8 0, .int .u8 0, .int .u8 0, .int .u8 0, .int .u8 0, .int .u8 0]).toArray 29)) w.heap.size 43 ws) := Lib.hid ((BlkG.new w _ _).alloc _)
  have hR : Hid (BlkG ((w.alloc (.cells ws.toArray 43)).alloc (.cells ([.int .u8 0, .int .u8 0, .int .u8 0, .int .u8 0, .int .u8 0, .int .u8 0, .int .u8 0, .int .u8 0, .int .u8 0, .int .u8 0, .int .u8 0, .int .u8 0, .int .u8 0, .int .u8 0, .int .u8 0, .int .u8 0, .int .u8 0, .int .u8 0, .int .u8 0, .int .u8 0]).toArray 29)) (w.heap.size + 1) 29 [.int .u8 0, .int .u8 0, .int .u8 0, .int .u8 0, .int .u8 0, .int .u8 0, .int .u8 0, .int .u8 0, .int .u8 0, .int .u8 0, .int .u8 0, .int .u8 0, .int .u8 0, .int .u8 0, .int .u8 0, .int .u8 0, .int .u8 0, .int .u8 0, .int .u8 0, .int .u8 0]) := Lib.hid (by
    have := BlkG.new (w.alloc (.cells ws.toArray 43)) 29 [.int .u8 0, .int .u8 0, .int .u8 0, .int .u8 0, .int .u8 0, .int .u8 0, .int .u8 0, .int .u8 0, .int .u8 0, .int .u8 0, .int .u8 0, .int .u8 0, .int .u8 0, .int .u8 0, .int .u8 0, .int .u8 0, .int .u8 0, .int .u8 0, .int .u8 0, .int .u8 0]
    rwa [World.size_alloc] at this)
  have hb0 : Hid (Below w.heap.size w ((w.alloc (.cells ws.toArray 43)).alloc (.cells ([.int .u8 0, .int .u8 0, .int .u8 0, .int .u8 0, .int .u8 0, .int .u8 0, .int .u8 0, .int .u8 0, .int .u8 0, .int .u8 0, .int .u8 0, .int .u8 0, .int .u8 0, .int .u8 0, .int .u8 0, .int .u8 0, .int .u8 0, .int .u8 0, .int .u8 0, .int .u8 0]).toArray 29))) := Lib.hid (xalloc (xalloc (xrefl w) _) _)
  have hs0 : Hid (((w.alloc (.cells ws.toArray 43)).alloc (.cells ([.int .u8 0, .int .u8 0, .int .u8 0, .int .u8 0, .int .u8 0, .int .u8 0, .int .u8 0, .int .u8 0, .int .u8 0, .int .u8 0, .int .u8 0, .int .u8 0, .int .u8 0, .int .u8 0, .int .u8 0, .int .u8 0, .int .u8 0, .int .u8 0, .int .u8 0, .int .u8 0]).toArray 29)).heap.size = w.heap.size + 2) := Lib.hid (by rw [World.size_alloc, World.size_alloc])
  replace hby := Lib.hid hby
  clear hvs
  go_enter Tryz.func26, Tryz.ntmps26
  go_upto_region 1 with fail
  generalize (w.alloc (.cells ws.toArray 43)).alloc (.cells #[.int .u8 0, .int .u8 0, .int .u8 0, .int .u8 0, .int .u8 0, .int .u8 0, .int .u8 0, .int .u8 0, .int .u8 0, .int .u8 0, .int .u8 0, .int .u8 0, .int .u8 0, .int .u8 0, .int .u8 0, .int .u8 0, .int .u8 0, .int .u8 0, .int .u8 0, .int .u8 0] 29) = w0 at *
  have hs0 := hs0.out
  go_wp2_with (first
    | (refine wpList_load_blkG rfl 43 _ rfl w.heap.size rfl 43 _ _ hWd.out Tryz.underlying43 rfl (by rw [hfm]; kernel_rfl) ?_)
    | (go_at_call 56; refine (hby.out _).mono ?_; rintro e w2 ⟨⟨v2, rfl, ho2⟩, hb2⟩; obtain ⟨g2, c2, rfl, hge2, hc2, hr2⟩ := own_row32 ho2 hwb.out; have hR2 := Lib.hid (hR.out.below hb2); have hsz2 := hb2.size; replace hb2 := Lib.hid (xtrans hb0.out hb2); clear ho2)
    | (refine wpList_load_mid rfl 29 _ rfl g2 12 rfl (adrC (ofN N)) _ hr2.out Tryz.underlying29 rfl (by rw [hA20]; kernel_rfl) ?_)
    | (refine wpList_store_blkG rfl 29 _ _ rfl (w.heap.size + 1) rfl 29 [.int .u8 0, .int .u8 0, .int .u8 0, .int .u8 0, .int .u8 0, .int .u8 0, .int .u8 0, .int .u8 0, .int .u8 0, .int .u8 0, .int .u8 0, .int .u8 0, .int .u8 0, .int .u8 0, .int .u8 0, .int .u8 0, .int .u8 0, .int .u8 0, .int .u8 0, .int .u8 0] (adrC (ofN N)) hR2.out rfl (by rw [hA20]; rfl) (by rw [hA20]; kernel_rfl) hone ?_; intro w4 hB4 ho4; have hb4 := Lib.hid (ho4.below hb2.out hb2.out.size (by rintro k rfl; omega)); replace hB4 := Lib.hid hB4; clear ho4))
  exact bodyPost_ret (results_blkG (p := 2) rfl _ _ (w.heap.size + 1) 29 _ _ rfl hB4.out Tryz.underlying29 rfl (by rw [hA20]; kernel_rfl)) rfl ⟨rfl, hb4.out⟩
end Go.Proofs.YthpallkphamobaaGreatDoor
namespace Go.Proofs.YthpallkphamobaaGreatDoor
open Go.RowKit Go.Shelf

theorem num_anyP (n : Int) (w : World) : Calls Tryz.prog 13 #[.int .i64 n] w fun e w' => e = .returned (.int .i64 n) ∧ w = w' := by
  go_enter Tryz.func13, Tryz.ntmps13
  go_wp2
  go_ret
  exact ⟨rfl, rfl⟩
/-- An address by its last byte. -/
def ofL (n : Nat) : List Nat := List.replicate 19 0 ++ [n]
theorem ofL_adr {n : Nat} (h : n < 256) : Adr (ofL n) := ⟨rfl, fun b hb => by
  unfold ofL at hb
  rcases List.mem_append.1 hb with hb | hb
  · rw [(List.mem_replicate.1 hb).2]; decide
  · simp only [List.mem_singleton] at hb; omega⟩
set_option maxRecDepth 100000 in
set_option maxHeartbeats 4000000 in
theorem ofc_any (n : Nat) (w : World) : Calls Tryz.prog 33 #[.int .u8 n] w fun e w' => e = .returned (adrV (ofL n)) ∧ Below w.heap.size w w' := by
  have hA20 : (adrC (ofL n)).length = 20 := rfl
  have hone : (adrC (ofL n)).all (·.oneCell') = true := by simp [adrC, Value.oneCell']
  have hset : ([.int .u8 0, .int .u8 0, .int .u8 0, .int .u8 0, .int .u8 0, .int .u8 0, .int .u8 0, .int .u8 0, .int .u8 0, .int .u8 0, .int .u8 0, .int .u8 0, .int .u8 0, .int .u8 0, .int .u8 0, .int .u8 0, .int .u8 0, .int .u8 0, .int .u8 0, .int .u8 0] : List Value).set 19 (.int .u8 n) = adrC (ofL n) := rfl
  have hR : Hid (BlkG ((w.alloc (.cells ([.int .u8 0, .int .u8 0, .int .u8 0, .int .u8 0, .int .u8 0, .int .u8 0, .int .u8 0, .int .u8 0, .int .u8 0, .int .u8 0, .int .u8 0, .int .u8 0, .int .u8 0, .int .u8 0, .int .u8 0, .int .u8 0, .int .u8 0, .int .u8 0, .int .u8 0, .int .u8 0]).toArray 29)).alloc (.cells ([.int .u8 0, .int .u8 0, .int .u8 0, .int .u8 0, .int .u8 0, .int .u8 0, .int .u8 0, .int .u8 0, .int .u8 0, .int .u8 0, .int .u8 0, .int .u8 0, .int .u8 0, .int .u8 0, .int .u8 0, .int .u8 0, .int .u8 0, .int .u8 0, .int .u8 0, .int .u8 0]).toArray 29)) w.heap.size 29 [.int .u8 0, .int .u8 0, .int .u8 0, .int .u8 0, .int .u8 0, .int .u8 0, .int .u8 0, .int .u8 0, .int .u8 0, .int .u8 0, .int .u8 0, .int .u8 0, .int .u8 0, .int .u8 0, .int .u8 0, .int .u8 0, .int .u8 0, .int .u8 0, .int .u8 0, .int .u8 0]) := Lib.hid ((BlkG.new w _ _).alloc _)
  have ha0 : BlkG ((w.alloc (.cells ([.int .u8 0, .int .u8 0, .int .u8 0, .int .u8 0, .int .u8 0, .int .u8 0, .int .u8 0, .int .u8 0, .int .u8 0, .int .u8 0, .int .u8 0, .int .u8 0, .int .u8 0, .int .u8 0, .int .u8 0, .int .u8 0, .int .u8 0, .int .u8 0, .int .u8 0, .int .u8 0]).toArray 29)).alloc (.cells ([.int .u8 0, .int .u8 0, .int .u8 0, .int .u8 0, .int .u8 0, .int .u8 0, .int .u8 0, .int .u8 0, .int .u8 0, .int .u8 0, .int .u8 0, .int .u8 0, .int .u8 0, .int .u8 0, .int .u8 0, .int .u8 0, .int .u8 0, .int .u8 0, .int .u8 0, .int .u8 0]).toArray 29)) (w.heap.size + 1) 29 [.int .u8 0, .int .u8 0, .int .u8 0, .int .u8 0, .int .u8 0, .int .u8 0, .int .u8 0, .int .u8 0, .int .u8 0, .int .u8 0, .int .u8 0, .int .u8 0, .int .u8 0, .int .u8 0, .int .u8 0, .int .u8 0, .int .u8 0, .int .u8 0, .int .u8 0, .int .u8 0] := by
    have := BlkG.new (w.alloc (.cells ([.int .u8 0, .int .u8 0, .int .u8 0, .int .u8 0, .int .u8 0, .int .u8 0, .int .u8 0, .int .u8 0, .int .u8 0, .int .u8 0, .int .u8 0, .int .u8 0, .int .u8 0, .int .u8 0, .int .u8 0, .int .u8 0, .int .u8 0, .int .u8 0, .int .u8 0, .int .u8 0]).toArray 29)) 29 [.int .u8 0, .int .u8 0, .int .u8 0, .int .u8 0, .int .u8 0, .int .u8 0, .int .u8 0, .int .u8 0, .int .u8 0, .int .u8 0, .int .u8 0, .int .u8 0, .int .u8 0, .int .u8 0, .int .u8 0, .int .u8 0, .int .u8 0, .int .u8 0, .int .u8 0, .int .u8 0]
    rwa [World.size_alloc] at this
  have hb0 : Hid (Below w.heap.size w ((w.alloc (.cells ([.int .u8 0, .int .u8 0, .int .u8 0, .int .u8 0, .int .u8 0, .int .u8 0, .int .u8 0, .int .u8 0, .int .u8 0, .int .u8 0, .int .u8 0, .int .u8 0, .int .u8 0, .int .u8 0, .int .u8 0, .int .u8 0, .int .u8 0, .int .u8 0, .int .u8 0, .int .u8 0]).toArray 29)).alloc (.cells ([.int .u8 0, .int .u8 0, .int .u8 0, .int .u8 0, .int .u8 0, .int .u8 0, .int .u8 0, .int .u8 0, .int .u8 0, .int .u8 0, .int .u8 0, .int .u8 0, .int .u8 0, .int .u8 0, .int .u8 0, .int .u8 0, .int .u8 0, .int .u8 0, .int .u8 0, .int .u8 0]).toArray 29))) := Lib.hid (xalloc (xalloc (xrefl w) _) _)
  have ca := ha0.cell 19 (by simp)
  have fa := ha0.free 19
  simp only [List.getElem_cons_succ, List.getElem_cons_zero] at ca
  have hz := hR.out.lt
  have hset2 := ha0.set 19 (.int .u8 n)
  rw [hset] at hset2
  have hRs := hR.out.oth (c := w.heap.size + 1) (i := 19) (.int .u8 n) (by omega)
  have hbs := xsetb hb0.out (c := w.heap.size + 1) (i := 19) (by omega) (.int .u8 n)
  unfold adrV
  generalize adrC (ofL n) = vs at *
  clear hset ha0 hb0 hR
  go_enter Tryz.func33, Tryz.ntmps33
  go_upto_region 2 with fail
  generalize (w.alloc (.cells #[.int .u8 0, .int .u8 0, .int .u8 0, .int .u8 0, .int .u8 0, .int .u8 0, .int .u8 0, .int .u8 0, .int .u8 0, .int .u8 0, .int .u8 0, .int .u8 0, .int .u8 0, .int .u8 0, .int .u8 0, .int .u8 0, .int .u8 0, .int .u8 0, .int .u8 0, .int .u8 0] 29)).alloc (.cells #[.int .u8 0, .int .u8 0, .int .u8 0, .int .u8 0, .int .u8 0, .int .u8 0, .int .u8 0, .int .u8 0, .int .u8 0, .int .u8 0, .int .u8 0, .int .u8 0, .int .u8 0, .int .u8 0, .int .u8 0, .int .u8 0, .int .u8 0, .int .u8 0, .int .u8 0, .int .u8 0] 29) = w0 at *
  have hset2 := Lib.hid hset2
  have hRs := Lib.hid hRs
  have hbs := Lib.hid hbs
  go_wp2_with (first
    | (refine wpList_load_blkG rfl 29 _ rfl (w.heap.size + 1) rfl 29 _ _ hset2.out Tryz.underlying29 rfl (by rw [hA20]; kernel_rfl) ?_)
    | (refine wpList_store_blkG rfl 29 _ _ rfl w.heap.size rfl 29 [.int .u8 0, .int .u8 0, .int .u8 0, .int .u8 0, .int .u8 0, .int .u8 0, .int .u8 0, .int .u8 0, .int .u8 0, .int .u8 0, .int .u8 0, .int .u8 0, .int .u8 0, .int .u8 0, .int .u8 0, .int .u8 0, .int .u8 0, .int .u8 0, .int .u8 0, .int .u8 0] vs hRs.out rfl (by rw [hA20]; rfl) (by rw [hA20]; kernel_rfl) hone ?_; intro w4 hB4 ho4; have hb4 := Lib.hid (ho4.below hbs.out hbs.out.size (by rintro k rfl; exact Nat.le_refl _)); replace hB4 := Lib.hid hB4; clear ho4))
  exact bodyPost_ret (results_blkG (p := 2) rfl _ _ w.heap.size 29 _ _ rfl hB4.out Tryz.underlying29 rfl (by rw [hA20]; kernel_rfl)) rfl ⟨rfl, hb4.out⟩
end Go.Proofs.YthpallkphamobaaGreatDoor
