/- The document's digest (layer 23): turns and the words of a block. -/
import Derived.Test.YtfieagpidplmoaaWord
import Derived.Test.YtfieagpidplmoaaFill
import Derived.Test.YtfieagpidplmoaaWordB
import Derived.StillTailTactics
namespace Go.Proofs.Ytfieagpidplmoaa
open Go.RowKit

/-- A number turned down. -/
def rot32 (a : BitVec 32) (n : Nat) : BitVec 32 := or32 (shr32 a n) (shl32 a (32 - n))
theorem refTurned_any (a : BitVec 32) (n : Nat) (w : World) (h1 : 0 < n) (h2 : n < 32) :
    Calls Try.prog 28 #[.int .u32 (iv32 a), .int .i64 n] w fun e w' => e = .returned (.int .u32 (iv32 (rot32 a n))) ∧ w = w' := by
  have h3 : (32 : Int) - (n : Int) = ((32 - n : Nat) : Int) := by omega
  have h4 : ((32 - n : Nat) : Int) < 32 := by omega
  have h5 : (n : Int) < 32 := by omega
  unfold rot32
  go_enter Try.func28, Try.ntmps28
  go_wp2
  go_ret
  exact ⟨rfl, rfl⟩

theorem turnedS (a : BitVec 32) (n : Nat) (w : World) (h1 : 0 < n) (h2 : n < 32) :
    Calls Try.prog 28 #[.int .u32 (iv32 a), .int .i64 n] w fun e w' => e = .returned (.int .u32 (iv32 (rot32 a n))) ∧ w' = w := (refTurned_any a n w h1 h2).mono fun _ _ h => ⟨h.1, h.2.symm⟩

/-- The words of a block, the first t of them. -/
def schedL (b : Nat → BitVec 32) : Nat → List (BitVec 32)
  | 0 => []
  | t + 1 =>
    let l := schedL b t
    l ++ [if t < 16 then b t else
      add32 (add32 (add32 (l.getD (t - 16) 0) (xor32 (xor32 (rot32 (l.getD (t - 15) 0) 7) (rot32 (l.getD (t - 15) 0) 18)) (shr32 (l.getD (t - 15) 0) 3))) (l.getD (t - 7) 0)) (xor32 (xor32 (rot32 (l.getD (t - 2) 0) 17) (rot32 (l.getD (t - 2) 0) 19)) (shr32 (l.getD (t - 2) 0) 10))]
def sched (b : Nat → BitVec 32) (t : Nat) : BitVec 32 := (schedL b (t + 1)).getD t 0
theorem schedL_len (b : Nat → BitVec 32) : ∀ t, (schedL b t).length = t
  | 0 => rfl
  | t + 1 => by rw [schedL]; simp [schedL_len b t]
theorem schedL_pre (b : Nat → BitVec 32) (i : Nat) : ∀ n, i < n → (schedL b n).getD i 0 = sched b i
  | 0, h => by omega
  | n + 1, h => by
    by_cases e : i = n
    · subst e; rfl
    · rw [← schedL_pre b i n (by omega)]
      have hl := schedL_len b n
      rw [schedL]
      simp only [List.getD_eq_getElem?_getD]
      rw [List.getElem?_append_left (by omega)]
theorem sched_lo (b : Nat → BitVec 32) (t : Nat) (h : t < 16) : sched b t = b t := by
  have hl := schedL_len b t
  unfold sched
  rw [schedL]
  simp only [List.getD_eq_getElem?_getD, if_pos h]
  rw [List.getElem?_append_right (by omega)]
  simp [hl]
theorem sched_hi (b : Nat → BitVec 32) (t : Nat) (h : 16 ≤ t) : sched b t =
    add32 (add32 (add32 (sched b (t - 16)) (xor32 (xor32 (rot32 (sched b (t - 15)) 7) (rot32 (sched b (t - 15)) 18)) (shr32 (sched b (t - 15)) 3))) (sched b (t - 7))) (xor32 (xor32 (rot32 (sched b (t - 2)) 17) (rot32 (sched b (t - 2)) 19)) (shr32 (sched b (t - 2)) 10)) := by
  have hl := schedL_len b t
  rw [← schedL_pre b (t - 16) t (by omega), ← schedL_pre b (t - 15) t (by omega), ← schedL_pre b (t - 7) t (by omega), ← schedL_pre b (t - 2) t (by omega)]
  rw [show sched b t = (schedL b (t + 1)).getD t 0 from rfl]
  rw [schedL]
  simp only [if_neg (show ¬ t < 16 by omega)]
  rw [List.getD_eq_getElem?_getD, List.getElem?_append_right (by omega)]
  simp [hl]

/-- An array of numbers. -/
def rowI (n : Nat) (f : Nat → BitVec 32) : List Int := allL n (fun i => iv32 (f i))

set_option maxHeartbeats 1000000 in
theorem refWords_any (b : Nat → BitVec 32) (w : World) :
    Calls Try.prog 27 #[arrV .u32 (rowI 16 b)] w fun e w' => e = .returned (arrV .u32 (rowI 64 (sched b))) ∧ Below w.heap.size w w' := by
  unfold arrV rowI
  go_enter Try.func27, Try.ntmps27
  have hA := ((Blk.new (q := .u32) w 30 (allL 16 fun i => iv32 (b i))).alloc (Obj.cells ((List.replicate 64 0).map (Value.int .u32)).toArray 31)).alloc (Obj.cells ((List.replicate 64 0).map (Value.int .u32)).toArray 31)
  have hR := (Blk.new' (q := .u32) (w.alloc (Obj.cells ((allL 16 fun i => iv32 (b i)).map (Value.int .u32)).toArray 30)) (w.heap.size + 1) 31 (List.replicate 64 0) (by simp)).alloc (Obj.cells ((List.replicate 64 0).map (Value.int .u32)).toArray 31)
  have hW := (Blk.new' (q := .u32) ((w.alloc (Obj.cells ((allL 16 fun i => iv32 (b i)).map (Value.int .u32)).toArray 30)).alloc (Obj.cells ((List.replicate 64 0).map (Value.int .u32)).toArray 31)) (w.heap.size + 1 + 1) 31 (List.replicate 64 0) (by simp))
  have hb := xalloc (xalloc (xalloc (xrefl w) (Obj.cells ((allL 16 fun i => iv32 (b i)).map (Value.int .u32)).toArray 30)) (Obj.cells ((List.replicate 64 0).map (Value.int .u32)).toArray 31)) (Obj.cells ((List.replicate 64 0).map (Value.int .u32)).toArray 31)
  go_wp2
  go_loopw [4] (fun tv wx => ∃ t : Nat, t ≤ 64 ∧ tv = .int .i64 t ∧ Blk .u32 wx w.heap.size 30 (allL 16 fun i => iv32 (b i)) ∧ Blk .u32 wx (w.heap.size + 1) 31 (List.replicate 64 0) ∧ Blk .u32 wx (w.heap.size + 1 + 1) 31 (fillL 64 (fun i => iv32 (sched b i)) t) ∧ Below w.heap.size w wx) (fun tv _ => 64 - (intOf tv).toNat)
  case atStart => exact ⟨0, by omega, rfl, hA, hR, by rw [fillL_zero]; exact hW, hb⟩
  case round =>
    clear hA hR hW hb
    obtain ⟨t, ht, rfl, hA, hR, hW, hb⟩ := hrel
    by_cases hlt : t < 64
    · have hcW := hW.cell t (by rw [fillL_len]; exact hlt)
      have hfW := hW.frozen t
      have hstep := hW.set t (iv32 (sched b t))
      rw [fillL_succ 64 (fun i => iv32 (sched b i)) t] at hstep
      by_cases h16 : t < 16
      · have hc := hA.cell t (by rw [allL_len]; exact h16)
        rw [allL_get] at hc
        rw [sched_lo b t h16] at hstep
        replace hstep := Lib.hid hstep
        go_wp2
        exact ⟨⟨t + 1, by omega, rfl, hA.oth _ (by omega), hR.oth _ (by omega), hstep.out, xsetb hb (by omega) _⟩, by simp [intOf]; omega⟩
      · have i16 : (t : Int) - 16 = ((t - 16 : Nat) : Int) := by omega
        have i15 : (t : Int) - 15 = ((t - 15 : Nat) : Int) := by omega
        have i7 : (t : Int) - 7 = ((t - 7 : Nat) : Int) := by omega
        have i2 : (t : Int) - 2 = ((t - 2 : Nat) : Int) := by omega
        have c16 := hW.cell (t - 16) (by rw [fillL_len]; omega)
        have c15 := hW.cell (t - 15) (by rw [fillL_len]; omega)
        have c7 := hW.cell (t - 7) (by rw [fillL_len]; omega)
        have c2 := hW.cell (t - 2) (by rw [fillL_len]; omega)
        rw [fillL_get _ _ _ _ (by omega)] at c16 c15 c7 c2
        replace hstep := Lib.hid hstep
        have hs := Lib.hid (sched_hi b t (by omega))
        generalize sched b (t - 16) = s16 at c16 hs
        generalize sched b (t - 15) = s15 at c15 hs
        generalize sched b (t - 7) = s7 at c7 hs
        generalize sched b (t - 2) = s2 at c2 hs
        go_wp2_with fail
        go_quiet (fail)
        go_wp2_with fail
        refine wp_region_still_tail 29 (by kernel_rfl) (by kernel_rfl) ?_
        simp only [List.take_succ_cons, List.take_zero, List.drop_succ_cons, List.drop_zero]
        generalize hw5 : ({ wr.drewN nq with drawn := (wr.drewN nq).drawn + 1 } : World) = w5
        replace c16 : w5.cell? ⟨w.heap.size + 1 + 1, t - 16, none⟩ = some (.int .u32 (iv32 s16)) := by rw [← hw5]; exact c16
        replace c7 : w5.cell? ⟨w.heap.size + 1 + 1, t - 7, none⟩ = some (.int .u32 (iv32 s7)) := by rw [← hw5]; exact c7
        replace hw5 := Lib.hid hw5
        have w16 : IntKind.i64.wrap ((t - 16 : Nat) : Int) = ((t - 16 : Nat) : Int) := by rw [IntKind.wrap_i64]; omega
        have w7 : IntKind.i64.wrap ((t - 7 : Nat) : Int) = ((t - 7 : Nat) : Int) := by rw [IntKind.wrap_i64]; omega
        have g16 : ((t - 16 : Nat) : Int) < 64 := by omega
        have g7 : ((t - 7 : Nat) : Int) < 64 := by omega
        have gt : (t : Int) < 64 := by omega
        have hc5 : (w5.cell? ⟨w.heap.size + 1 + 1, t, none⟩).isSome = true := by rw [← hw5.out]; show (wr.cell? _).isSome = true; rw [hcW]; rfl
        obtain ⟨v5, hc5⟩ := Option.isSome_iff_exists.1 hc5
        have hf5 : w5.frozen? ⟨w.heap.size + 1 + 1, t, none⟩ = false := by rw [← hw5.out]; exact hfW
        clear c15 c2 i15 i2 hcW hfW
        repeat still_step
        still_call (turnedS s15 7 _ (by decide) (by decide))
        repeat still_step
        still_call (turnedS s15 18 _ (by decide) (by decide))
        repeat still_step
        still_call (turnedS s2 17 _ (by decide) (by decide))
        repeat still_step
        still_call (turnedS s2 19 _ (by decide) (by decide))
        repeat still_step
        refine wpStill_nil ?_
        rw [← hs.out]
        go_wp2
        have e5 := hw5.out
        subst e5
        have hset := ((hW.drewN nq).drew).set t (iv32 (sched b t))
        rw [fillL_succ 64 (fun i => iv32 (sched b i)) t] at hset
        exact ⟨⟨t + 1, by omega, rfl, (hA.drewN nq).drew.oth _ (by omega), (hR.drewN nq).drew.oth _ (by omega), hset, xsetb (xdrew (xdrewN hb nq)) (by omega) _⟩, by simp [intOf]; omega⟩
    · have ht64 : t = 64 := by omega
      subst ht64
      rw [fillL_all _ _ _ (by omega)] at hW
      clear hlt
      go_wp2_with (first
        | (refine wpList_load_blk rfl 31 _ rfl (w.heap.size + 1 + 1) rfl .u32 31 (allL 64 fun i => iv32 (sched b i)) _ _ hW Try.underlying31 (by rw [allL_len]; kernel_rfl) ?_)
        | (refine wpList_store_blk rfl 31 _ _ rfl (w.heap.size + 1) rfl .u32 31 (List.replicate 64 0) (allL 64 fun i => iv32 (sched b i)) hR rfl (by rw [allL_len, List.length_replicate]) (by rw [allL_len]; kernel_rfl) ?_; intro w3 h3 ho3))
      refine ret_blk rfl (w.heap.size + 1) .u32 31 (allL 64 fun i => iv32 (sched b i)) _ _ rfl h3 Try.underlying31 (by rw [allL_len]; kernel_rfl) rfl ⟨rfl, ?_⟩
      exact ho3.below hb hb.size (by rintro i rfl; omega)
end Go.Proofs.Ytfieagpidplmoaa
