/- Texts of this claim, merged; no condition. -/
import Derived.Laws.CopyOwn
import Derived.Test.YtijkdabmegbcjaaGreatDoorT15
import Derived.WalkLawsBesides
import Derived.Test.YtijkdabmegbcjaaGreatDoorT01
import Derived.Test.YtijkdabmegbcjaaGreatDoorTA
set_option linter.all false
namespace Go.Proofs.YtijkdabmegbcjaaGreatDoor
section
open Go.RowKit Go.Shelf
def behC (cs : List Nat) (i : Nat) : List Value := (natI ((cs.drop (i + 1)).take (szN (byN cs i)))).map (Value.int .u8)
theorem behC_len (cs : List Nat) (i : Nat) : (behC cs i).length = Nat.min (cs.length - (i + 1)) (szN (byN cs i)) := by
  unfold behC
  rw [List.length_map, natI_len, List.length_take, List.length_drop]
  show min _ _ = min _ _
  omega
theorem behC_get {cs : List Nat} {i j : Nat} {v : Value} (h : (behC cs i)[j]? = some v) : j < szN (byN cs i) ∧ i + 1 + j < cs.length ∧ v = .int .u8 (byN cs (i + 1 + j)) := by
  have e : (behC cs i)[j]? = ((cs.drop (i + 1)).take (szN (byN cs i)))[j]?.map fun x : Nat => Value.int .u8 (x : Int) := by unfold behC natI; rw [List.map_map, List.getElem?_map]; rfl
  rw [e] at h
  cases hq : ((cs.drop (i + 1)).take (szN (byN cs i)))[j]? with
  | none => rw [hq] at h; cases h
  | some y =>
    rw [hq] at h
    injection h with h
    obtain ⟨hj, rfl⟩ := List.getElem?_eq_some_iff.1 hq
    rw [List.length_take, List.length_drop] at hj
    refine ⟨by omega, by omega, ?_⟩
    rw [← h]
    show Value.int .u8 _ = .int .u8 ((cs.getD (i + 1 + j) 0 : Nat) : Int)
    rw [List.getD_eq_getElem?_getD, List.getElem?_eq_getElem (by omega)]
    simp
theorem splice_beh (cs : List Nat) (i : Nat) : splice ((List.replicate (szN (byN cs i)) (0 : Int)).map (Value.int .u8)) 0 (behC cs i) = (natI (restN cs i)).map (Value.int .u8) := by
  have hl := behC_len cs i
  have hle : (behC cs i).length ≤ szN (byN cs i) := by rw [hl]; exact Nat.min_le_right _ _
  apply List.ext_getElem
  · rw [length_splice _ _ _ (by simpa using hle)]
    simp [natI_len, restN_len]
  · intro j h1 h2
    have hj : j < szN (byN cs i) := by simpa [natI_len, restN_len] using h2
    unfold splice
    simp only [List.take_zero, List.nil_append, Nat.zero_add]
    rw [List.getElem_append]
    have hr : ((natI (restN cs i)).map (Value.int .u8))[j] = .int .u8 (byN cs (i + 1 + j)) := by simp [natI, restN]
    rw [hr]
    split
    · rename_i h
      exact (behC_get (List.getElem?_eq_getElem h)).2.2
    · rename_i h
      simp only [List.getElem_drop, List.getElem_map, List.getElem_replicate]
      congr 1
      have : cs.length ≤ i + 1 + j := by
        rw [hl] at h
        rcases Nat.lt_or_ge (i + 1 + j) cs.length with h3 | h3
        · exact absurd (Nat.lt_min.2 ⟨by omega, hj⟩) h
        · exact h3
      unfold byN
      rw [List.getD_eq_getElem?_getD, List.getElem?_eq_none this]
      rfl
set_option maxRecDepth 100000 in
set_option maxHeartbeats 4000000 in
theorem behind_any (cs : List Nat) (i : Nat) (a : Option Addr) (c : Nat) (w : World) (h : CodeAt w a c cs) (hlt : i < cs.length) :
    Calls Tryz.prog 114 #[.slice a cs.length c, .int .i64 i] w fun e w' => (∃ b n, e = .returned (.slice (some ⟨b, 0, none⟩) (restN cs i).length n) ∧ RowAt .u8 w' (some ⟨b, 0, none⟩) (natI (restN cs i)) ∧ w.heap.size ≤ b) ∧ Below w.heap.size w w' := by
  obtain ⟨i0, hi0, hz0, hz1, hz2⟩ := info_parts info_u8
  have hsz := szN_le (byN cs i)
  have hmk : Hid (∀ W, (Instr.makeSlice 22 (.int .i64 (szN (byN cs i) : Int)) (.int .i64 (szN (byN cs i) : Int))).run Tryz.prog W = .ok (.slice (some ⟨W.heap.size, 0, none⟩) (szN (byN cs i)) (szN (byN cs i))) (W.alloc (.cells ((List.replicate (szN (byN cs i)) (0 : Int)).map (Value.int .u8)).toArray 5))) := qh fun W =>
    run_mk_ints 22 5 i0 .u8 1 Tryz.underlying22 hi0 hz0 hz1 hz2 (szN (byN cs i)) _ rfl (by omega) (by omega) W
  have hcl := h.len
  have hcap := h.cap
  have hltI : (i : Int) < cs.length := by omega
  have hrl := restN_len cs i
  have h2 := qh h
  obtain ⟨b, o, rfl, hc1, h256⟩ := h.get hlt
  have hinf := qh (size_any (byN cs i) w h256)
  have hsp := splice_beh cs i
  have hBl := behC_len cs i
  have hle : (behC cs i).length ≤ szN (byN cs i) := by rw [hBl]; exact Nat.min_le_right _ _
  have hone : Hid (∀ v ∈ behC cs i, v.oneCell' = true) := qh (by
    intro v hv
    unfold behC at hv
    obtain ⟨z, -, rfl⟩ := List.mem_map.1 hv
    rfl)
  have hBg : Hid (∀ j v, (behC cs i)[j]? = some v → i + 1 + j < cs.length ∧ w.cell? ⟨b, o + (i + 1 + j), none⟩ = some v) := qh fun j v hj => by
    obtain ⟨-, h1, rfl⟩ := behC_get hj
    obtain ⟨b', o', e, hc, -⟩ := h.get h1
    cases e
    exact ⟨h1, hc⟩
  generalize behC cs i = C at *
  generalize hR : restN cs i = R at *
  clear hR
  generalize szN (byN cs i) = sz at *
  generalize byN cs i = x at *
  replace hrl := qh hrl
  replace hsp := qh hsp
  replace hBl := qh hBl
  clear hi0 hz0 hz1 hz2 h
  rcases hcap with ⟨hcp1, hcp2⟩
  by_cases hA : i + 1 < cs.length
  · have hA1 : (i : Int) + 1 < cs.length := by omega
    have hA2 : (i : Int) + 1 < c := by omega
    have hA3 : (i : Int) + 1 ≤ cs.length := by omega
    have hA4 : (i : Int) + 1 ≤ c := by omega
    go_enter Tryz.func114, Tryz.ntmps114
    go_wp2_with (go_at_call 131; refine hinf.out.mono ?_; rintro e w1 ⟨rfl, rfl⟩)
    rw [hmk.out]
    have hB0 : Hid (BlkG (w.alloc (.cells ((List.replicate sz (0 : Int)).map (Value.int .u8)).toArray 5)) w.heap.size 5 ((List.replicate sz (0 : Int)).map (Value.int .u8))) := qh (BlkG.new w _ _)
    have hb0 : Hid (Below w.heap.size w (w.alloc (.cells ((List.replicate sz (0 : Int)).map (Value.int .u8)).toArray 5))) := qh (xalloc (xrefl w) _)
    generalize w.alloc (.cells ((List.replicate sz (0 : Int)).map (Value.int .u8)).toArray 5) = w2 at hB0 hb0 ⊢
    clear hmk hinf
    go_wp2_with (refine wpList_copy_splice rfl _ _ 22 22 rfl 5 Tryz.underlying22 (by kernel_rfl) (some ⟨w.heap.size, 0, none⟩) (some ⟨b, o + (i + 1), none⟩) sz sz (cs.length - (i + 1)) (c - (i + 1)) rfl rfl w.heap.size 0 _ 5 hB0.out C hBl.out (fun _ => ⟨rfl, _, rfl, fun j v hj => by have h9 := (hBg.out j v hj).2; rw [Addr.add_lit, Nat.add_assoc]; exact cbel hb0.out h9⟩) (by rw [List.length_map, List.length_replicate]; omega) hone.out w.heap.size w hb0.out (Nat.le_refl _) ?_; intro w3 hG3 hb3)
    go_ret
    refine ⟨⟨w.heap.size, sz, by rw [hrl.out]; rfl, ?_, Nat.le_refl _⟩, hb3⟩
    have hq : BlkG w3 w.heap.size 5 ((natI R).map (Value.int .u8)) := by
      have := hG3.out
      rw [hsp.out] at this
      exact this
    intro j hj
    exact ⟨_, _, rfl, by rw [Nat.zero_add, hq.cell j (by simpa using hj)]; simp⟩
  · have hE : cs.length = i + 1 := by omega
    rw [hE, Nat.sub_self] at hBl
    have hC0 : Hid (C.length = 0) := qh (by rw [hBl.out]; exact Nat.zero_min _)
    clear hA hltI hBg h2
    rw [hE] at hcp1 ⊢
    clear hE hlt hcl
    have hA3 : (i : Int) + 1 ≤ c := by omega
    by_cases hc' : i + 1 < c
    · have hA2 : (i : Int) + 1 < c := by omega
      go_enter Tryz.func114, Tryz.ntmps114
      go_wp2_with (go_at_call 131; refine hinf.out.mono ?_; rintro e w1 ⟨rfl, rfl⟩)
      rw [hmk.out]
      have hB0 : Hid (BlkG (w.alloc (.cells ((List.replicate sz (0 : Int)).map (Value.int .u8)).toArray 5)) w.heap.size 5 ((List.replicate sz (0 : Int)).map (Value.int .u8))) := qh (BlkG.new w _ _)
      have hb0 : Hid (Below w.heap.size w (w.alloc (.cells ((List.replicate sz (0 : Int)).map (Value.int .u8)).toArray 5))) := qh (xalloc (xrefl w) _)
      generalize w.alloc (.cells ((List.replicate sz (0 : Int)).map (Value.int .u8)).toArray 5) = w2 at hB0 hb0 ⊢
      clear hmk hinf
      go_wp2_with (refine wpList_copy_splice rfl _ _ 22 22 rfl 5 Tryz.underlying22 (by kernel_rfl) (some ⟨w.heap.size, 0, none⟩) _ sz sz 0 _ rfl rfl w.heap.size 0 _ 5 hB0.out C hBl.out (fun hp => by have := hC0.out; omega) (by rw [List.length_map, List.length_replicate]; omega) hone.out w.heap.size w hb0.out (Nat.le_refl _) ?_; intro w3 hG3 hb3)
      go_ret
      refine ⟨⟨w.heap.size, sz, by rw [hrl.out]; rfl, ?_, Nat.le_refl _⟩, hb3⟩
      have hq : BlkG w3 w.heap.size 5 ((natI R).map (Value.int .u8)) := by
        have := hG3.out
        rw [hsp.out] at this
        exact this
      intro j hj
      exact ⟨_, _, rfl, by rw [Nat.zero_add, hq.cell j (by simpa using hj)]; simp⟩
    · obtain rfl : c = i + 1 := by omega
      clear hA3 hc' hcp1
      go_enter Tryz.func114, Tryz.ntmps114
      go_wp2_with (go_at_call 131; refine hinf.out.mono ?_; rintro e w1 ⟨rfl, rfl⟩)
      rw [hmk.out]
      have hB0 : Hid (BlkG (w.alloc (.cells ((List.replicate sz (0 : Int)).map (Value.int .u8)).toArray 5)) w.heap.size 5 ((List.replicate sz (0 : Int)).map (Value.int .u8))) := qh (BlkG.new w _ _)
      have hb0 : Hid (Below w.heap.size w (w.alloc (.cells ((List.replicate sz (0 : Int)).map (Value.int .u8)).toArray 5))) := qh (xalloc (xrefl w) _)
      generalize w.alloc (.cells ((List.replicate sz (0 : Int)).map (Value.int .u8)).toArray 5) = w2 at hB0 hb0 ⊢
      clear hmk hinf
      go_wp2_with (refine wpList_copy_splice rfl _ _ 22 22 rfl 5 Tryz.underlying22 (by kernel_rfl) (some ⟨w.heap.size, 0, none⟩) _ sz sz 0 _ rfl rfl w.heap.size 0 _ 5 hB0.out C hBl.out (fun hp => by have := hC0.out; omega) (by rw [List.length_map, List.length_replicate]; omega) hone.out w.heap.size w hb0.out (Nat.le_refl _) ?_; intro w3 hG3 hb3)
      go_ret
      refine ⟨⟨w.heap.size, sz, by rw [hrl.out]; rfl, ?_, Nat.le_refl _⟩, hb3⟩
      have hq : BlkG w3 w.heap.size 5 ((natI R).map (Value.int .u8)) := by
        have := hG3.out
        rw [hsp.out] at this
        exact this
      intro j hj
      exact ⟨_, _, rfl, by rw [Nat.zero_add, hq.cell j (by simpa using hj)]; simp⟩
end
section
open Go.RowKit Go.Shelf
attribute [local go_sem] Oper.semAt_some
def PuS (w : World) (v : Value) (n : Int) (L : List Int) (b : Bool) (S : Nat → Prop) (W : World) : Prop :=
  Box W w.heap.size v 22 ∧ Box W (w.heap.size + 1) (.int .i64 n) 3 ∧ Blk .u64 W (w.heap.size + 1 + 1) 32 L ∧ Box W (w.heap.size + 1 + 1 + 1) (.bool b) 4 ∧ S = fun k => w.heap.size ≤ k ∧ k < w.heap.size + 4
theorem puS_fac {w : World} {v : Value} {n : Int} {L : List Int} {b : Bool} {S : Nat → Prop} : Fac S (PuS w v n L b S) :=
  ⟨fun W W' ⟨h1, h2, h3, h4, e⟩ hz hs => by
    subst e
    exact ⟨(hs _ ⟨by omega, by omega⟩ h1.lt).trans h1, (hs _ ⟨by omega, by omega⟩ h2.lt).trans h2, (hs _ ⟨by omega, by omega⟩ h3.lt).trans h3, (hs _ ⟨by omega, by omega⟩ h4.lt).trans h4, rfl⟩, fun W ⟨_, _, _, h4, e⟩ k hk => by
    subst e
    have := h4.lt
    obtain ⟨h1, h2⟩ := hk
    omega⟩
theorem results_wordB {fn : Func} {p q : Tmp} (h : fn.results = #[.cell p 32, .cell q 4]) (tmps : Array Value) (w : World) (b g : Nat) (L : List Int) (v : Value)
    (hp : tmps.getD p undef = .pointer (some ⟨b, 0, none⟩)) (hB : Blk .u64 w b 32 L) (hL : L.length = 4) (hq : tmps.getD q undef = .pointer (some ⟨g, 0, none⟩)) (hc : Box w g v 4) :
    (results fn tmps).run Tryz.prog w = .ok (.tuple #[.agg (L.map (Value.int .u64)).toArray, v]) w := by
  have hp' : tmps[p]?.getD undef = .pointer (some ⟨b, 0, none⟩) := by simpa using hp
  have hq' : tmps[q]?.getD undef = .pointer (some ⟨g, 0, none⟩) := by simpa using hq
  have hu := run_underlying Tryz.underlying4 w
  have hc' := hc.cell
  have e1 : (loadVar 4 ⟨g, 0, none⟩).run Tryz.prog w = .ok v w := by
    unfold loadVar isAgg
    simp [Sem.run_bind, hu, hc', Result.andThen_ok, Sem.run]
  have e2 : (loadVar 32 ⟨b, 0, none⟩).run Tryz.prog w = .ok (.agg (L.map (Value.int .u64)).toArray) w :=
    run_loadVar_row w b 32 32 _ (0, 0) _ hB Tryz.underlying32 rfl (by rw [List.size_toArray, List.length_map, hL]; kernel_rfl)
  simp [results, h, hp', hq', asAddr, e1, e2, Sem.run_bind]
def notTo (cs : List Nat) (n : Int) (k : Nat) : Prop := ∀ j (h : j < (opsL cs).length), j < k → ¬ (((opsL cs)[j] : Int) = n ∧ 95 ≤ byN cs (opsL cs)[j] ∧ byN cs (opsL cs)[j] ≤ 127)
theorem push_none {cs : List Nat} {n : Int} (h : notTo cs n (opsL cs).length) : pushZ cs n = none := by
  unfold pushZ
  split
  · rename_i hi
    obtain ⟨k, hk, rfl⟩ := inN_true hi
    obtain ⟨j, hj, rfl⟩ := List.getElem_of_mem hk
    unfold pushV
    rw [if_neg]
    intro hb
    simp only [Int.toNat_natCast] at hb
    exact h j hj hj ⟨rfl, hb⟩
  · rfl
theorem push_some {cs : List Nat} {x : Nat} (hx : x ∈ opsL cs) (hb : 95 ≤ byN cs x ∧ byN cs x ≤ 127) : pushZ cs x = some (numN (restN cs x)) := by
  rw [pushZ_nat]
  unfold pushN pushV
  rw [if_pos hx, if_pos hb]
theorem notTo_succ {cs : List Nat} {n : Int} {k : Nat} (h : notTo cs n k) (hk : k < (opsL cs).length) (hn : ¬ (((opsL cs)[k] : Int) = n ∧ 95 ≤ byN cs (opsL cs)[k] ∧ byN cs (opsL cs)[k] ≤ 127)) : notTo cs n (k + 1) := fun j hj hjk => by
  by_cases e : j = k
  · subst e; exact hn
  · exact h j hj (by omega)
set_option maxRecDepth 100000 in
set_option maxHeartbeats 4000000 in
theorem push_any (cs : List Nat) (n : Int) (a : Option Addr) (c : Nat) (w : World) (h : CodeAt w a c cs) :
    Calls Tryz.prog 84 #[.slice a cs.length c, .int .i64 n] w fun e w' => e = .returned (optV (pushZ cs n)) ∧ Below w.heap.size w w' := by
  have hlen := h.len
  have hops := qh fun W => ops_any a cs.length c W
  have h0 : PuS w (.slice a cs.length c) n [0, 0, 0, 0] false (fun k => w.heap.size ≤ k ∧ k < w.heap.size + 4) ((((w.alloc (.cells #[.slice a cs.length c] 22)).alloc (.cells #[.int .i64 n] 3)).alloc (.cells #[.int .u64 0, .int .u64 0, .int .u64 0, .int .u64 0] 32)).alloc (.cells #[.bool false] 4)) := by
    refine ⟨((((Box.new w _ _).below (xalloc (xrefl _) _)).below (xalloc (xrefl _) _)).below (xalloc (xrefl _) _)), ?_, ?_, ?_, rfl⟩
    · have := Box.new (w.alloc (.cells #[.slice a cs.length c] 22)) (.int .i64 n) 3
      rw [World.size_alloc] at this
      exact (this.below (xalloc (xrefl _) _)).below (xalloc (xrefl _) _)
    · have := Blk.new (q := .u64) ((w.alloc (.cells #[.slice a cs.length c] 22)).alloc (.cells #[.int .i64 n] 3)) 32 [0, 0, 0, 0]
      rw [World.size_alloc, World.size_alloc] at this
      exact this.below (xalloc (xrefl _) _)
    · have := Box.new (((w.alloc (.cells #[.slice a cs.length c] 22)).alloc (.cells #[.int .i64 n] 3)).alloc (.cells #[.int .u64 0, .int .u64 0, .int .u64 0, .int .u64 0] 32)) (.bool false) 4
      rwa [World.size_alloc, World.size_alloc, World.size_alloc] at this
  have hb0 : Below w.heap.size w ((((w.alloc (.cells #[.slice a cs.length c] 22)).alloc (.cells #[.int .i64 n] 3)).alloc (.cells #[.int .u64 0, .int .u64 0, .int .u64 0, .int .u64 0] 32)).alloc (.cells #[.bool false] 4)) := xalloc (xalloc (xalloc (xalloc (xrefl w) _) _) _) _
  have hs0 : ((((w.alloc (.cells #[.slice a cs.length c] 22)).alloc (.cells #[.int .i64 n] 3)).alloc (.cells #[.int .u64 0, .int .u64 0, .int .u64 0, .int .u64 0] 32)).alloc (.cells #[.bool false] 4)).heap.size = w.heap.size + 4 := by simp
  obtain ⟨w0, hw0⟩ : ∃ w0, (((w.alloc (.cells #[.slice a cs.length c] 22)).alloc (.cells #[.int .i64 n] 3)).alloc (.cells #[.int .u64 0, .int .u64 0, .int .u64 0, .int .u64 0] 32)).alloc (.cells #[.bool false] 4) = w0 := ⟨_, rfl⟩
  rw [hw0] at h0 hb0 hs0
  have hxc := h0.1.cell
  replace hw0 := qh hw0
  replace hs0 := qh hs0
  refine (callsIn_wide (n := 0)).1 ?_
  refine callsIn_of_wp_marks Tryz.func84 rfl trivial ?_ rfl
  simp only [Tryz.ntmps84, List.size_toArray, List.length_cons, List.length_nil, Nat.reduceAdd, Nat.reduceSub, Array.replicate_succ, Array.replicate_zero, List.push_toArray, List.append_toArray, List.nil_append, List.cons_append]
  refine wpIn_wide.2 ?_
  go_upto_region 1 with fail
  refine wp_world (w' := w0) hw0.out ?_
  clear hw0
  go_wp2_with (go_at_call 106; refine (hops.out _).mono ?_; rintro e w' ⟨rfl, rfl⟩)
  refine (wpIn_wide (n := 0)).1 ?_
  have hx1 : Box (w0.alloc (Obj.cells #[.slice a cs.length c] 22)) w0.heap.size (.slice a cs.length c) 22 := Box.new _ _ _
  have hb1 : Below w.heap.size w (w0.alloc (Obj.cells #[.slice a cs.length c] 22)) := xalloc hb0 _
  have hS1 := puS_fac.below h0 (xalloc (xrefl w0) (Obj.cells #[.slice a cs.length c] 22))
  have hs1 : (w0.alloc (Obj.cells #[.slice a cs.length c] 22)).heap.size = w.heap.size + 5 := by rw [World.size_alloc, hs0.out]
  generalize w0.alloc (Obj.cells #[.slice a cs.length c] 22) = w1 at *
  have hsz0 : w0.heap.size = w.heap.size + 4 := hs0.out
  have hold := fun k (h0 : cs ≠ [] ∧ ∃ y, a = some y ∧ y.block = k) => codeRd_old (w' := w) (bx := 0) h h0.2 h0.1
  refine wp_rangeL (w0 := w) (gf := 130) (lb := #[.pointer (some ⟨w0.heap.size, 0, none⟩)]) rfl (enters_of Tryz.func130 (by kernel_rfl) rfl) (encs := encOp cs) (Rd := codeRd w0.heap.size a cs) (opsL cs)
    (fun k hk => by
      rcases hk with rfl | hk
      · omega
      · have := hold k hk; omega) hb1 (fun W hW => ops_seq cs _ a c W (hx1.below hW) ((h.below hb1).below hW)) (fun x => rfl)
    (fun k S W => PuS w (.slice a cs.length c) n [0, 0, 0, 0] false S W ∧ notTo cs n k)
    (fun k c' S W => c' = .ret ∧ ∃ N, pushZ cs n = some N ∧ PuS w (.slice a cs.length c) n (wordL N) true S W)
    (fun k S => ⟨fun W W' h hz hs => ⟨puS_fac.on W W' h.1 hz hs, h.2⟩, fun W h => puS_fac.lt W h.1⟩)
    (fun k c' S => ⟨fun W W' ⟨e, N, h1, h2⟩ hz hs => ⟨e, N, h1, puS_fac.on W W' h2 hz hs⟩, fun W ⟨e, N, h1, h2⟩ => puS_fac.lt W h2⟩)
    (fun k => w.heap.size ≤ k ∧ k < w.heap.size + 4)
    (fun j hj => ⟨hj.1, fun hr => by
      rcases hr with rfl | hr
      · omega
      · have := hold j hr; omega⟩) ⟨hS1, fun j _ h => by omega⟩ ?round ?done ?stop
  case round =>
    intro l0 k hk W
    unfold encOp
    dsimp only
    have hxm := List.getElem_mem hk
    have hkl := opsL_lt hxm
    have hsome := fun hb => push_some (cs := cs) hxm hb
    have hnext := fun h hn => notTo_succ (cs := cs) (n := n) (k := k) h hk hn
    generalize (opsL cs)[k] = x at *
    gi_wp2
    refine ⟨trivial, fun S W2 hb2 hzz _ hSo ⟨hS, hnot⟩ => ?_⟩
    have hsz2 := hb2.size
    have hS' := hS
    obtain ⟨h1, h2, h3, h4, hSe⟩ := hS'
    have hc2 := h2.cell
    by_cases hyes : ((x : Int) = n ∧ 95 ≤ byN cs x ∧ byN cs x ≤ 127)
    · obtain ⟨rfl, h95, h127⟩ := hyes
      have hps := hsome ⟨h95, h127⟩
      have hc1 := h1.cell
      have hbeh := behind_any cs x a c W2 (h.below hb2) hkl
      have hrl := restN_len cs x
      have hrs := szN_le (byN cs x)
      have hr256 := restN_lt h.ok x
      rw [hps]
      generalize byN cs x = y at *
      generalize restN cs x = R at *
      have hread := qh fun (b q : Nat) W (hr : RowAt .u8 W (some ⟨b, 0, none⟩) (natI R)) => read_any R (some ⟨b, 0, none⟩) q W hr (by omega) hr256
      have h95I : (95 : Int) ≤ y := by omega
      have h127I : (y : Int) ≤ 127 := by omega
      replace hbeh := qh hbeh
      replace hps := qh hps
      replace h4 := qh h4
      replace h3 := qh h3
      replace h1 := qh h1
      replace h2 := qh h2
      replace hSe := qh hSe
      replace hSo := qh hSo
      clear hS hnot hnext hsome hr256 hrl hrs
      gi_wp2_with (first
        | (refine ⟨trivial, rfl, ?_⟩; gi_at_call 114; refine (CallsIn.inRound l0 (callsIn_wide.2 hbeh.out)).mono ?_; rintro e W3 ⟨⟨bb, qq, rfl, hr3, hbb⟩, hb3⟩; clear hbeh; replace hr3 := qh hr3; replace hb3 := qh hb3)
        | (refine ⟨trivial, rfl, ?_⟩; gi_at_call 113; refine (CallsIn.inRound l0 (callsIn_wide.2 (hread.out bb qq _ hr3.out))).mono ?_; rintro e W4 ⟨rfl, hb4⟩; clear hread; have hb24 := qh (xtrans hb3.out hb4); have h34 := qh (h3.out.below hb24.out); clear hb4)
        | (refine wpListIn_store_blk rfl 32 _ _ rfl (w.heap.size + 1 + 1) rfl .u64 32 [0, 0, 0, 0] (wordL (numN R)) h34.out rfl rfl (by kernel_rfl) ?_; intro W5 h5 ho5; clear h34; have hO5 := qh ((Below.only hb24.out : Only (· = w.heap.size + 1 + 1) W2 W4).trans ho5); replace h5 := qh h5; clear ho5)
        | (refine wpListIn_load_blk rfl 32 _ rfl (w.heap.size + 1 + 1) rfl .u64 32 (wordL (numN R)) _ _ h5.out Tryz.underlying32 (by kernel_rfl) ?_)
        | (refine wpListIn_store_blk rfl 32 _ _ rfl (w.heap.size + 1 + 1) rfl .u64 32 (wordL (numN R)) (wordL (numN R)) h5.out rfl rfl (by kernel_rfl) ?_; intro W6 h6 ho6; have hO6 := qh (hO5.out.trans ho6); replace h6 := qh h6; clear ho6; have hB6 := qh (h4.out.only hO6.out (by omega)); have hq1 := hB6.out.cell; have hq2 := hB6.out.free))
      have hset := (Only.refl (· = w.heap.size + 1 + 1 + 1) W6).setCell ⟨w.heap.size + 1 + 1 + 1, 0, none⟩ (.bool true) rfl
      have hO7 : Only (fun k => w.heap.size ≤ k ∧ k < w.heap.size + 4) W2 (W6.setCell ⟨w.heap.size + 1 + 1 + 1, 0, none⟩ (.bool true)) := (hO6.out.mono fun k _ e => by omega).trans (hset.mono fun k _ e => by omega)
      refine ⟨by rw [hSe.out]; exact hO7, fun k => w.heap.size ≤ k ∧ k < w.heap.size + 4, fun j hj => .inl (by rw [hSe.out]; exact hj), rfl, numN R, rfl, ?_⟩
      exact ⟨(h1.out.only hO6.out (by omega)).only hset (by omega), (h2.out.only hO6.out (by omega)).only hset (by omega), h6.out.only hset (by omega), hB6.out.set _, rfl⟩
    · have hnot2 := qh (hnext hnot hyes)
      have hfin : Hid (∃ S', (∀ j, S' j → S j ∨ W2.heap.size ≤ j) ∧ PuS w (.slice a cs.length c) n [0, 0, 0, 0] false S' W2) := qh ⟨S, fun j h => .inl h, hS⟩
      clear hnext hsome hnot hS h1 h2 h3 h4 hSe hSo
      generalize byN cs x = y at *
      by_cases hxn : (x : Int) = n
      · subst hxn
        by_cases h95 : 95 ≤ y
        · have h95I : (95 : Int) ≤ y := by omega
          have h127I : (127 : Int) < y := by omega
          clear hyes
          gi_wp2
          exact ⟨Only.refl _ _, by obtain ⟨S', h1, h2⟩ := hfin.out; exact ⟨S', h1, h2, hnot2.out⟩⟩
        · have h95I : (y : Int) < 95 := by omega
          clear hyes
          gi_wp2
          exact ⟨Only.refl _ _, by obtain ⟨S', h1, h2⟩ := hfin.out; exact ⟨S', h1, h2, hnot2.out⟩⟩
      · have hx2 : ((x : Int) == n) = false := by simpa using hxn
        generalize (x : Int) = x' at *
        clear hyes
        gi_wp2
        exact ⟨Only.refl _ _, by obtain ⟨S', h1, h2⟩ := hfin.out; exact ⟨S', h1, h2, hnot2.out⟩⟩
  case done =>
    intro D S W hD hSD hb _ _ ⟨hS, hnot⟩ hK
    have hpn := qh (push_none hnot)
    obtain ⟨h1, h2, h3, h4, hSe⟩ := hS
    replace h3 := qh h3
    replace h4 := qh h4
    clear hnot h1 h2
    go_wp2_with (first
      | (refine wpList_load_blk rfl 32 _ rfl (w.heap.size + 1 + 1) rfl .u64 32 [0, 0, 0, 0] _ _ h3.out Tryz.underlying32 (by kernel_rfl) ?_)
      | (refine wpList_store_blk rfl 32 _ _ rfl (w.heap.size + 1 + 1) rfl .u64 32 [0, 0, 0, 0] [0, 0, 0, 0] h3.out rfl rfl (by kernel_rfl) ?_; intro W6 h6 ho6; have hB6 := qh (h4.out.only ho6 (by omega)); have hq1 := hB6.out.cell; have hq2 := hB6.out.free; replace h6 := qh h6; replace ho6 := qh ho6))
    have hset := (Only.refl (· = w.heap.size + 1 + 1 + 1) W6).setCell ⟨w.heap.size + 1 + 1 + 1, 0, none⟩ (.bool false) rfl
    have h7 := h6.out.only hset (by omega)
    have h8 := hB6.out.set (.bool false)
    have hb7 := hset.below (ho6.out.below hb hb.size (by rintro k rfl; omega)) (Nat.le_trans hb.size ho6.out.size) (by rintro k rfl; omega)
    have hDl : w1.heap.size ≤ D := hD
    have hK7 := (hset.same D (Nat.lt_of_lt_of_le (Array.getElem?_eq_some_iff.1 hK).1 ho6.out.size) (by omega)).trans ((ho6.out.same D (Array.getElem?_eq_some_iff.1 hK).1 (by omega)).trans hK)
    generalize W6.setCell ⟨w.heap.size + 1 + 1 + 1, 0, none⟩ (.bool false) = W7 at *
    have hput := (Only.refl (· = D) W7).putObj D (.deferred none) rfl
    refine ⟨by simp [Act.put], .inl ⟨_, _, rfl, run_takeDeferred hK7, ?_⟩⟩
    exact ⟨_, results_wordB rfl _ _ (w.heap.size + 1 + 1) (w.heap.size + 1 + 1 + 1) _ _ rfl (h7.only hput (by omega)) rfl rfl (h8.only hput (by omega)), by rw [hpn.out]; rfl, hput.below hb7 hb7.size (by rintro i rfl; omega)⟩
  case stop =>
    intro D k c' S W hk hD hSD hb _ _ ⟨e, N, hN, hS⟩ hK
    subst e
    obtain ⟨h1, h2, h7, h8, hSe⟩ := hS
    replace hN := qh hN
    gi_wp2
    have hDl : w1.heap.size ≤ D := hD
    have hput := (Only.refl (· = D) W).putObj D (.deferred none) rfl
    refine ⟨by simp [Act.put], .inl ⟨_, _, rfl, run_takeDeferred hK, ?_⟩⟩
    exact ⟨_, results_wordB rfl _ _ (w.heap.size + 1 + 1) (w.heap.size + 1 + 1 + 1) _ _ rfl (h7.only hput (by omega)) rfl rfl (h8.only hput (by omega)), by rw [hN.out]; rfl, hput.below hb hb.size (by rintro i rfl; omega)⟩
end
section
open Go.RowKit Go.Shelf
attribute [local go_sem] Oper.semAt_some
set_option maxRecDepth 100000 in
set_option maxHeartbeats 1000000 in
theorem ops_seqX (cs : List Nat) (bx : Nat) (a : Option Addr) (c : Nat) (W : World) (hx : Box W bx (.slice a cs.length c) 22) (hm : CodeAt W a c cs) :
    SeqX Tryz.prog 130 #[.pointer (some ⟨bx, 0, none⟩)] (encOp cs) (codeRd bx a cs) (fun xs => xs = opsL cs) (fun pre => ∃ k, k ≤ (opsL cs).length ∧ pre = (opsL cs).take k) (opsL cs).length W := by
  intro l0 J Jx Jp hJ hJx hY h0
  replace hJ := qh hJ
  replace hJx := qh hJx
  replace hY := qh hY
  have hlen := hm.len
  replace hm := qh hm
  replace hx := qh hx
  replace h0 := qh h0
  refine callsIn_of_wp Tryz.func130 rfl trivial ?_ rfl
  simp only [Tryz.ntmps130, List.size_toArray, List.length_cons, List.length_nil, Nat.reduceAdd, Nat.reduceSub, Array.replicate_succ, Array.replicate_zero, List.push_toArray, List.append_toArray, List.nil_append, List.cons_append]
  gi_wp2
  refine wpIn_scope_wide ?_
  gi_wp2
  refine wpIn_label ?_
  gi_wp2
  gi_loopw [3] (fun iv wr => ∃ (k x : Nat), iv = .int .i64 x ∧ x ≤ 500 ∧ Hid (opsA cs x = (opsL cs).drop k) ∧ Hid (k ≤ (opsL cs).length) ∧ Hid (Box wr bx (.slice a cs.length c) 22) ∧ Hid (CodeAt wr a c cs) ∧ Hid (J (fun _ => False) ((opsL cs).take k) wr)) (fun iv _ => 600 - (intOf iv).toNat)
  case atStart => exact ⟨0, 0, rfl, by omega, qh rfl, qh (Nat.zero_le _), hx, hm, h0⟩
  case round =>
    clear hx hm h0
    obtain ⟨k, x, rfl, hx5, ho, hk, hx, hm, hJs⟩ := hrel
    have hxc := hx.out.cell
    by_cases hlt : x < cs.length
    · have hltI : (x : Int) < cs.length := by omega
      obtain ⟨b, o, rfl, hc, h256⟩ := hm.out.get hlt
      have ho2 := ho.out
      rw [opsA_lt hlt] at ho2
      obtain ⟨hkl, hke, hdr, htk⟩ := drop_cons ho2.symm
      have hs32 := szN_le (byN cs x)
      have h00 : cs ≠ [] := fun e => by rw [e] at hlt; simp at hlt
      have hnx : nxN cs x = x + 1 + szN (byN cs x) := rfl
      obtain ⟨fnc, tmps, assign, body, hy, hR⟩ := hY.out (fun _ => False) ((opsL cs).take k) x wr (fun k h => h.elim) hJs.out (by rw [List.length_take]; omega) ⟨k + 1, by omega, htk.symm⟩
      rw [← htk] at hR
      replace hR := qh hR
      replace hdr := qh hdr
      clear ho2 hke htk
      replace hkl := qh hkl
      generalize hS : szN (byN cs x) = s at *
      have hsz := qh fun W => size_any (byN cs x) W h256
      rw [hS] at hsz
      have hxn : nxN cs x ≤ 500 := by omega
      clear hS
      replace hnx := qh hnx
      unfold encOp at hy
      generalize byN cs x = y at *
      gi_wp2
      refine ⟨rfl, hR.out.mono ?_⟩
      rintro e W3 (⟨rfl, hJ3, hk3⟩ | ⟨rfl, hJx3, hk3⟩ | ⟨ch, rfl, hJp3⟩)
      · have hx3 := qh (show Box W3 bx _ _ from (hk3.same bx hx.out.lt (.inr (.inl rfl))).trans hx.out)
        have hm3 := qh (code_keep hm.out hk3 (fun k h => .inr (.inr h)))
        have hxc3 := hx3.out.cell
        have hc3 : W3.cell? ⟨b, o + x, none⟩ = some (.int .u8 y) := (World.cell?_of_block (hk3.same b (cell_lt hc) (.inr (.inr ⟨h00, _, rfl, rfl⟩)))).trans hc
        replace hJ3 := qh hJ3
        clear hk3 hJs hx hm hxc hc hR
        gi_wp2
        refine ⟨trivial, rfl, (callsIn_wide.2 (hsz.out _)).mono ?_⟩
        rintro e w' ⟨rfl, rfl⟩
        gi_wp2
        have hv : Value.int .i64 ((x : Int) + (1 + (s : Int))) = .int .i64 ((nxN cs x : Nat) : Int) := by rw [hnx.out]; congr 1; omega
        refine ⟨⟨k + 1, nxN cs x, hv, hxn, qh hdr.out.symm, qh hkl.out, hx3, hm3, hJ3⟩, ?_⟩
        simp [intOf]; omega
      · gi_wp2
        rw [Exit.noGoto_normal]
        go_end0
        exact .inl ⟨⟨_, rfl⟩, .inr ⟨_, _, ⟨k + 1, hkl.out, rfl⟩, fun k h => h.elim, hJx3⟩⟩
      · exact ⟨rfl, .inr ⟨ch, _, _, rfl, ⟨k + 1, hkl.out, rfl⟩, fun k h => h.elim, hJp3⟩⟩
    · have ho2 := ho.out
      rw [opsA_ge (by omega)] at ho2
      have hkl : k = (opsL cs).length := by
        have := congrArg List.length ho2
        rw [List.length_nil, List.length_drop] at this
        have := hk.out
        omega
      replace ho2 := qh ho2
      rw [hkl, List.take_length] at hJs
      replace hkl := qh hkl
      gi_wp2
      rw [Exit.noGoto_normal]
      go_end0
      exact .inl ⟨⟨_, rfl⟩, .inl ⟨_, _, rfl, fun k h => h.elim, hJs.out⟩⟩
def noneP : List PanicEntry := [{ v := .iface 149 (.agg #[]), recovered := false }]
theorem must_true (w : World) : Calls Tryz.prog 100 #[.bool true] w fun e w' => e = .returned (.tuple #[]) ∧ w = w' := by
  go_enter Tryz.func100, Tryz.ntmps100
  go_wp2
  go_end0
  exact ⟨rfl, rfl⟩
theorem must_false (w : World) : Calls Tryz.prog 100 #[.bool false] w fun e w' => e = .panicked noneP ∧ w = w' := by
  go_enter Tryz.func100, Tryz.ntmps100
  go_wp2
  exact ⟨rfl, rfl, rfl⟩
end
end Go.Proofs.YtijkdabmegbcjaaGreatDoor
