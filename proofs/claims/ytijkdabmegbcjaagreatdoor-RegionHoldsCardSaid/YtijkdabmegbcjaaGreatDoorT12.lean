/- Texts of this claim, merged; no condition. -/
import Derived.Test.YtijkdabmegbcjaaGreatDoorT11
import Derived.Deep.QuietTactic
import Derived.BigQuiet
import Derived.Test.YtijkdabmegbcjaaGreatDoorT06
import Derived.Test.YtijkdabmegbcjaaGreatDoorTA
set_option linter.all false
namespace Go.Proofs.YtijkdabmegbcjaaGreatDoor
section
open Go.RowKit
theorem of_span {cs : List Nat} {g : List Nat} {x : Nat} (hg : g ∈ grps cs) (hx : x ∈ g) : ofZ (spansN cs) x = some (spanB g) := by
  unfold ofZ spansN
  rw [List.find?_map]
  have e : ((fun b : BlkN => decide ((b.first : Int) ≤ (x : Int)) && decide ((x : Int) ≤ (b.last : Int))) ∘ spanB) = fun g => decide (fstN g ≤ x) && decide (x ≤ lstN g) := by
    funext g
    show (decide (((spanB g).first : Int) ≤ (x : Int)) && decide ((x : Int) ≤ ((spanB g).last : Int))) = _
    have h1 : (spanB g).first = fstN g := rfl
    have h2 : (spanB g).last = lstN g := rfl
    rw [h1, h2, Bool.eq_iff_iff, Bool.and_eq_true, Bool.and_eq_true, decide_eq_true_eq, decide_eq_true_eq, decide_eq_true_eq, decide_eq_true_eq]
    omega
  rw [e, grps_of (grps_mem hg hx)]
  obtain ⟨g', h1, h2, h3⟩ := grps_find (grps_mem hg hx)
  rw [h3, grps_one hg h1 hx h2]
  rfl
def atZ (cs : List Nat) (n : Int) : Option Nat := if 0 ≤ n then atN cs n.toNat else none
def fixedZ (cs : List Nat) (n : Int) : Option Nat := if 0 ≤ n then fixedN cs n.toNat else none
theorem atZ_in {cs g : List Nat} {x : Nat} (hg : g ∈ grps cs) (hx : x ∈ g) : atZ cs x = some (fstN g) := by
  unfold atZ
  rw [if_pos (by omega), Int.toNat_natCast]
  unfold atN
  obtain ⟨g', h1, h2, h3⟩ := grps_find (grps_mem hg hx)
  rw [h3, grps_one hg h1 hx h2]
  rfl
theorem atZ_out {cs : List Nat} {n : Int} (h : inN (opsL cs) n = false) : atZ cs n = none := by
  unfold atZ
  split
  · rename_i h0
    obtain ⟨k, rfl⟩ := Int.eq_ofNat_of_zero_le h0
    rw [inN_nat, decide_eq_false_iff_not] at h
    rw [Int.toNat_natCast]
    exact atN_out h
  · rfl
theorem fixedZ_out {cs : List Nat} {n : Int} (h : inN (opsL cs) n = false) : fixedZ cs n = none := by
  unfold fixedZ
  split
  · rename_i h0
    obtain ⟨k, rfl⟩ := Int.eq_ofNat_of_zero_le h0
    rw [inN_nat, decide_eq_false_iff_not] at h
    rw [Int.toNat_natCast]
    exact fixed_out (.inl h)
  · rfl
theorem fixedZ_nat (cs : List Nat) (k : Nat) : fixedZ cs k = fixedN cs k := by unfold fixedZ; rw [if_pos (by omega), Int.toNat_natCast]
theorem grp_of_op {cs : List Nat} {x : Nat} (hx : x ∈ opsL cs) : ∃ g, g ∈ grps cs ∧ x ∈ g := by
  obtain ⟨g, h1, h2, -⟩ := grps_find hx
  exact ⟨g, h1, h2⟩
theorem spans_len (cs : List Nat) : (spansN cs).length ≤ cs.length := by unfold spansN; rw [List.length_map]; exact grps_len cs
theorem refOfS_any (cs : List Nat) (n : Int) (a : Option Addr) (c : Nat) (w0 w : World) (v : Value) (h : OwnB w0 w v (spansN cs)) (hl : cs.length ≤ 1048576) :
    Calls Tryz.prog 49 #[v, .int .i64 n] w (FindR w (ofZ (spansN cs) n)) := by
  obtain ⟨a, c, rfl, hB, -⟩ := h.slice
  exact refOf11_any (spansN cs) n a c w hB (by have := spans_len cs; omega)
def atV (r : Option Nat) : Value := .tuple #[.int .i64 (r.getD 0), .bool r.isSome]
set_option maxRecDepth 100000 in
set_option maxHeartbeats 1000000 in
theorem refAt_any (cs : List Nat) (n : Int) (a : Option Addr) (c : Nat) (w : World) (h : CodeAt w a c cs) :
    Calls Tryz.prog 17 #[.slice a cs.length c, .int .i64 n] w fun e w' => e = .returned (atV (atZ cs n)) ∧ Below w.heap.size w w' := by
  have hcl : cs.length ≤ 1048576 := by have := h.len; omega
  have hol := opsL_len cs
  have hops := qh (refOps_any cs a c w h)
  have hin := qh fun a1 c1 W (hI : IntsAt W a1 c1 (opsL cs)) => refIn_any (opsL cs) n a1 c1 W hI (by omega)
  have hspans := qh fun W (hW : Below w.heap.size w W) => refSpans_any cs a c W (h.below hW)
  have hof := qh fun w0 W v (hv : OwnB w0 W v (spansN cs)) => refOfS_any cs n a c w0 W v hv hcl
  cases hI : inN (opsL cs) n with
  | false =>
    rw [hI] at hin
    rw [atZ_out hI]
    replace hI := qh hI
    go_enter Tryz.func17, Tryz.ntmps17
    go_wp2_with (first
      | (go_at_call 48; refine hops.out.mono ?_; rintro e w1 ⟨⟨v, rfl, hv⟩, hb1⟩; obtain ⟨a1, c1, rfl, hI1, -⟩ := hv.at; replace hI1 := qh hI1; clear hv hops; replace hb1 := qh hb1)
      | (go_at_call 47; refine (hin.out a1 c1 _ hI1.out).mono ?_; rintro e w2 ⟨rfl, rfl⟩))
    go_ret2
    exact ⟨rfl, hb1.out⟩
  | true =>
    rw [hI] at hin
    obtain ⟨k, hk, rfl⟩ := inN_true hI
    obtain ⟨g, hg, hkg⟩ := grp_of_op hk
    rw [atZ_in hg hkg]
    rw [of_span hg hkg] at hof
    replace hI := qh hI
    have hfst : (spanB g).first = fstN g := rfl
    generalize spanB g = bb at *
    generalize fstN g = ff at *
    clear hg hkg hk
    go_enter Tryz.func17, Tryz.ntmps17
    go_wp2_with (first
      | (go_at_call 48; refine hops.out.mono ?_; rintro e w1 ⟨⟨v, rfl, hv⟩, hb1⟩; obtain ⟨a1, c1, rfl, hI1, -⟩ := hv.at; replace hI1 := qh hI1; clear hv hops; replace hb1 := qh hb1)
      | (go_at_call 47; refine (hin.out a1 c1 _ hI1.out).mono ?_; rintro e w2 ⟨rfl, rfl⟩)
      | (go_at_call 43; refine (hspans.out _ hb1.out).mono ?_; rintro e w3 ⟨⟨v3, rfl, hv3⟩, hb3⟩; replace hv3 := qh hv3; replace hb3 := qh (xtrans hb1.out hb3))
      | (go_at_call 49; refine (hof.out _ _ _ (by exact hv3.out)).mono ?_; rintro e w4 ⟨⟨p, q, rfl, -⟩, hb4⟩; replace hb4 := qh (xtrans hb3.out hb4); simp only [blkV, blkC, Option.getD_some, Option.isSome_some]))
    go_ret2
    exact ⟨by unfold atV; rw [← hfst]; rfl, xalloc hb4.out _⟩
end
section
open Go.RowKit
theorem ahead_step (l : List Nat) (ff k i : Nat) (h : i < l.length) : ((l.take (i + 1)).filter (fun y => decide (ff ≤ y) && decide (y < k))).getLast? = if ff ≤ l[i] ∧ l[i] < k then some l[i] else ((l.take i).filter (fun y => decide (ff ≤ y) && decide (y < k))).getLast? := by
  rw [List.take_succ_eq_append_getElem h, List.filter_append]
  by_cases e : ff ≤ l[i] ∧ l[i] < k
  · rw [if_pos e, List.filter_cons_of_pos (by simp [e])]
    simp
  · rw [if_neg e, List.filter_cons_of_neg (by simpa using e)]
    simp
set_option maxRecDepth 100000 in
set_option maxHeartbeats 4000000 in
theorem refFixed_anyL (cs : List Nat) (n : Int) (a : Option Addr) (c : Nat) (w : World) (h : CodeL w a c cs) :
    Calls Tryz.prog 19 #[.slice a cs.length c, .int .i64 n] w fun e w' => e = .returned (optV (fixedZ cs n)) ∧ Below w.heap.size w w' := by
  have hcl := h.len
  have hol := opsL_len cs
  have hR0 : Hid (Blk .u64 (w.alloc (.cells #[.int .u64 0, .int .u64 0, .int .u64 0, .int .u64 0] 32)) w.heap.size 32 [0, 0, 0, 0]) := qh (Blk.new w _ [0, 0, 0, 0])
  have hb0 : Hid (Below w.heap.size w (w.alloc (.cells #[.int .u64 0, .int .u64 0, .int .u64 0, .int .u64 0] 32))) := qh (xalloc (xrefl _) _)
  have hops := qh (refOps_anyL cs a c _ (h.below hb0.out))
  have hin := qh fun a1 c1 W (hI : IntsAt W a1 c1 (opsL cs)) => refIn_any (opsL cs) n a1 c1 W hI (by omega)
  have hspans := qh fun W (hW : Below w.heap.size w W) => refSpans_anyL cs a c W (h.below hW)
  have hpush := qh fun W (m : Int) (hW : Below w.heap.size w W) => refPush_anyL cs m a c W (h.below hW)
  have hof := qh fun w0 W v (hv : OwnB w0 W v (spansN cs)) => refOfS_any cs n a c w0 W v hv hcl
  have hu := Tryz.underlying32
  cases hI : inN (opsL cs) n with
  | false =>
    rw [hI] at hin
    rw [fixedZ_out hI]
    replace hI := qh hI
    go_enter Tryz.func19, Tryz.ntmps19
    go_wp2_with (first
      | (go_at_call 48; refine hops.out.mono ?_; rintro e w1 ⟨⟨v, rfl, hv⟩, hb1⟩; obtain ⟨a1, c1, rfl, hI1, -⟩ := hv.at; replace hI1 := qh hI1; clear hv hops; replace hR0 := qh (hR0.out.below hb1); replace hb1 := qh (xtrans hb0.out hb1))
      | (go_at_call 47; refine (hin.out a1 c1 _ hI1.out).mono ?_; rintro e w2 ⟨rfl, rfl⟩)
      | (go_at_call 43; refine (hspans.out _ hb1.out).mono ?_; rintro e w3 ⟨⟨v3, rfl, hv3⟩, hb3⟩; replace hv3 := qh hv3; replace hb3 := qh hb3)
      | (go_at_call 49; refine (hof.out _ _ _ (by exact hv3.out)).mono ?_; rintro e w4 ⟨⟨p, q, rfl, -⟩, hb4⟩; replace hb4 := qh (xtrans hb3.out hb4); simp only [blkV, blkC, Option.getD_some, Option.isSome_some])
      | (refine wpList_store_blk rfl 32 _ _ rfl w.heap.size rfl .u64 32 [0, 0, 0, 0] [0, 0, 0, 0] hR0.out rfl rfl (by kernel_rfl) ?_; intro w6 hB6 ho6; replace hB6 := qh hB6; replace ho6 := qh ho6))
    refine bodyPost_ret (results_blkG2 (p := 4) rfl _ _ w.heap.size 32 _ _ rfl hB6.out hu rfl (by kernel_rfl)) rfl ⟨rfl, ?_⟩
    exact ho6.out.below hb1.out hb1.out.size (by rintro i rfl; omega)
  | true =>
    rw [hI] at hin
    obtain ⟨k, hk, rfl⟩ := inN_true hI
    rw [fixedZ_nat]
    obtain ⟨g, hg, hkg⟩ := grp_of_op hk
    rw [of_span hg hkg] at hof
    have hlt := opsL_lt hk
    have hltI : (k : Int) < cs.length := by omega
    obtain ⟨b, o, rfl, hc, h256⟩ := h.get hlt
    have hcc : Hid (∀ W, Below w.heap.size w W → W.cell? ⟨b, o + k, none⟩ = some (.int .u8 (byN cs k))) := qh fun W hW => cbel hW hc
    have hfst : Hid ((spanB g).first = fstN g) := qh rfl
    have hfr : Hid ((byN cs k = 86 ∨ byN cs k = 87) → fixedN cs k = match aheadN cs (fstN g) k with | none => none | some y => pushN cs y) := qh (fixed_ref hg hkg)
    have hfo : Hid ((byN cs k ≠ 86 ∧ byN cs k ≠ 87) → fixedN cs k = none) := qh fun h => fixed_out (.inr h)
    generalize spanB g = bb at *
    generalize fstN g = ff at *
    generalize byN cs k = x at *
    generalize fixedN cs k = fx at *
    replace hI := qh hI
    clear hg hkg hk hc h
    by_cases e1 : x = 86
    · subst e1
      replace hfr := qh (hfr.out (.inl rfl))
      clear hfo
      go_enter Tryz.func19, Tryz.ntmps19
      go_wp2_with (first
        | (go_at_call 48; refine hops.out.mono ?_; rintro e w1 ⟨⟨v, rfl, hv⟩, hb1⟩; obtain ⟨a1, c1, rfl, hI1, -⟩ := hv.at; replace hI1 := qh hI1; clear hv hops; replace hR0 := qh (hR0.out.below hb1); replace hb1 := qh (xtrans hb0.out hb1); have hcl1 := hcc.out w1 hb1.out)
        | (go_at_call 47; refine (hin.out a1 c1 _ hI1.out).mono ?_; rintro e w2 ⟨rfl, rfl⟩)
        | (go_at_call 43; refine (hspans.out _ hb1.out).mono ?_; rintro e w3 ⟨⟨v3, rfl, hv3⟩, hb3⟩; replace hv3 := qh hv3; replace hb3 := qh hb3)
        | (go_at_call 49; refine (hof.out _ _ _ (by exact hv3.out)).mono ?_; rintro e w4 ⟨⟨p, q, rfl, -⟩, hb4⟩; replace hb4 := qh (xtrans hb3.out hb4); simp only [blkV, blkC, Option.getD_some, Option.isSome_some])
        | (refine wpList_store_blk rfl 32 _ _ rfl w.heap.size rfl .u64 32 [0, 0, 0, 0] [0, 0, 0, 0] hR0.out rfl rfl (by kernel_rfl) ?_; intro w6 hB6 ho6; replace hB6 := qh hB6; replace ho6 := qh ho6))
      have hb5 : Hid (Below w1.heap.size w1 _) := qh (xalloc hb4.out (.cells (blkC p q bb).toArray 51))
      have hX : Hid (BlkG (w4.alloc (.cells (blkC p q bb).toArray 51)) w4.heap.size 51 (blkC p q bb)) := qh (BlkG.new w4 _ _)
      replace hI1 := qh (hI1.out.below hb5.out)
      replace hR0 := qh (hR0.out.below hb5.out)
      replace hb5 := qh (xtrans hb1.out hb5.out)
      have hcx : Hid ((w4.alloc (.cells (blkC p q bb).toArray 51)).cell? ⟨w4.heap.size, 0, none⟩ = some (.int .i64 (ff : Int))) := qh (by rw [← hfst.out]; exact hX.out.cell 0 (by show 0 < 4; omega))
      unfold blkC at hb5 hcx hI1 hR0
      generalize w4.heap.size = xb at *
      generalize w4.alloc _ = w5 at *
      clear hb3 hb4 hX hcl1
      have hgo : ∀ W, Below w5.heap.size w5 W → Below w.heap.size w W := fun W hW => xtrans hb5.out hW
      replace hgo := qh hgo
      go_wp2
      go_loopw [9, 10] (fun av iv wx => ∃ (i : Nat), i ≤ (opsL cs).length ∧ iv = .int .i64 i ∧ av = .int .i64 (nxI (((opsL cs).take i).filter (fun y => decide (ff ≤ y) && decide (y < k))).getLast?) ∧ Hid (Below w5.heap.size w5 wx)) (fun _ iv _ => 1048700 - (intOf iv).toNat)
      case atStart => exact ⟨0, by omega, rfl, rfl, qh (xrefl w5)⟩
      case round =>
        obtain ⟨i, hi, rfl, rfl, hb⟩ := hrel
        by_cases hlt : i < (opsL cs).length
        · have hltI : (i : Int) < (opsL cs).length := by omega
          obtain ⟨b1, o1, rfl, -⟩ := hI1.out.get hlt
          have hc1 : wr.cell? ⟨b1, o1 + i, none⟩ = some (.int .i64 ((opsL cs)[i] : Int)) := by
            obtain ⟨b', o', e, hc⟩ := (hI1.out.below hb.out).get hlt
            cases e; exact hc
          have hcx2 := cbel hb.out hcx.out
          have hst := ahead_step (opsL cs) ff k i hlt
          generalize (opsL cs)[i] = y at *
          generalize hP : (((opsL cs).take i).filter (fun y => decide (ff ≤ y) && decide (y < k))).getLast? = P at *
          replace hP := qh hP
          by_cases h1 : ff ≤ y
          · have h1I : (ff : Int) ≤ y := by omega
            by_cases h2 : y < k
            · have h2I : (y : Int) < k := by omega
              rw [if_pos ⟨h1, h2⟩] at hst
              replace hst := qh hst
              generalize nxI P = z at *
              clear h1 h2
              have hd1 : decide ((ff : Int) ≤ y) = true := decide_eq_true h1I
              have hd2 : decide ((y : Int) < k) = true := decide_eq_true h2I
              go_wp2_with fail
              go_quiet (fail)
              go_wp2
              go_roundw
              case rel => exact ⟨i + 1, by omega, rfl, by rw [hst.out]; rfl, qh (xdrewN hb.out _)⟩
              case measure => simp [intOf]; omega
            · have h2I : ¬ (y : Int) < k := by omega
              rw [if_neg (by rintro ⟨-, h⟩; exact h2 h)] at hst
              replace hst := qh hst
              clear h1 h2
              generalize hz : nxI P = z at *
              replace hz := qh hz
              have hd1 : decide ((ff : Int) ≤ y) = true := decide_eq_true h1I
              have hd2 : decide ((y : Int) < k) = false := decide_eq_false h2I
              go_wp2_with fail
              go_quiet (fail)
              go_wp2
              go_roundw
              case rel => exact ⟨i + 1, by omega, rfl, by rw [hst.out, ← hz.out], qh (xdrewN hb.out _)⟩
              case measure => simp [intOf]; omega
          · have h1I : ¬ (ff : Int) ≤ y := by omega
            rw [if_neg (by rintro ⟨h, -⟩; exact h1 h)] at hst
            replace hst := qh hst
            have hdn1 : decide (ff ≤ y) = false := decide_eq_false h1
            clear h1
            generalize hz : nxI P = z at *
            replace hz := qh hz
            have hd1 : decide ((ff : Int) ≤ y) = false := decide_eq_false h1I
            clear h1I
            go_wp2_with fail
            go_quiet (fail)
            go_wp2
            go_roundw
            case rel => exact ⟨i + 1, by omega, rfl, by rw [hst.out, ← hz.out], qh (xdrewN hb.out _)⟩
            case measure => simp [intOf]; omega
        · obtain rfl : i = (opsL cs).length := by omega
          have hltI : ¬ ((opsL cs).length : Int) < (opsL cs).length := by omega
          have hR1 := qh (hR0.out.below hb.out)
          have hbw := qh (hgo.out wr hb.out)
          rw [List.take_length]
          have hah : aheadN cs ff k = ((opsL cs).filter (fun y => decide (ff ≤ y) && decide (y < k))).getLast? := rfl
          rw [← hah]
          clear hah hlt
          cases hA : aheadN cs ff k with
          | none =>
            have e := hfr.out
            rw [hA] at e
            subst e
            clear hA
            unfold nxI
            go_wp2_with (refine wpList_store_blk rfl 32 _ _ rfl w.heap.size rfl .u64 32 [0, 0, 0, 0] [0, 0, 0, 0] hR1.out rfl rfl (by kernel_rfl) ?_; intro w6 hB6 ho6; replace hB6 := qh hB6; replace ho6 := qh ho6)
            refine bodyPost_ret (results_blkG2 (p := 4) rfl _ _ w.heap.size 32 _ _ rfl hB6.out hu rfl (by kernel_rfl)) rfl ⟨rfl, ?_⟩
            exact ho6.out.below hbw.out hbw.out.size (by rintro i rfl; omega)
          | some y =>
            have e := hfr.out
            rw [hA] at e
            have hp := hpush.out wr y hbw.out
            rw [pushZ_nat] at hp
            have e2 : fx = pushN cs y := e
            rw [← e2] at hp
            replace e2 := qh e2
            clear e
            unfold optV at hp
            unfold nxI
            have hy0 : ¬ (y : Int) < 0 := by omega
            clear hA hfr
            replace hp := qh hp
            go_wp2_with (first
              | (go_at_call 51; refine hp.out.mono ?_; rintro e w7 ⟨rfl, hb7⟩; replace hR1 := qh (hR1.out.below hb7); replace hbw := qh (xtrans hbw.out hb7))
              | (refine wpList_store_blk rfl 32 _ _ rfl w.heap.size rfl .u64 32 [0, 0, 0, 0] (wordL (fx.getD 0)) hR1.out rfl rfl (by kernel_rfl) ?_; intro w6 hB6 ho6; replace hB6 := qh hB6; replace ho6 := qh ho6))
            refine bodyPost_ret (results_blkG2 (p := 4) rfl _ _ w.heap.size 32 _ _ rfl hB6.out hu rfl (by kernel_rfl)) rfl ⟨rfl, ?_⟩
            exact ho6.out.below hbw.out hbw.out.size (by rintro i rfl; omega)
    · by_cases e2 : x = 87
      · subst e2
        replace hfr := qh (hfr.out (.inr rfl))
        clear hfo
        go_enter Tryz.func19, Tryz.ntmps19
        go_wp2_with (first
          | (go_at_call 48; refine hops.out.mono ?_; rintro e w1 ⟨⟨v, rfl, hv⟩, hb1⟩; obtain ⟨a1, c1, rfl, hI1, -⟩ := hv.at; replace hI1 := qh hI1; clear hv hops; replace hR0 := qh (hR0.out.below hb1); replace hb1 := qh (xtrans hb0.out hb1); have hcl1 := hcc.out w1 hb1.out)
          | (go_at_call 47; refine (hin.out a1 c1 _ hI1.out).mono ?_; rintro e w2 ⟨rfl, rfl⟩)
          | (go_at_call 43; refine (hspans.out _ hb1.out).mono ?_; rintro e w3 ⟨⟨v3, rfl, hv3⟩, hb3⟩; replace hv3 := qh hv3; replace hb3 := qh hb3)
          | (go_at_call 49; refine (hof.out _ _ _ (by exact hv3.out)).mono ?_; rintro e w4 ⟨⟨p, q, rfl, -⟩, hb4⟩; replace hb4 := qh (xtrans hb3.out hb4); simp only [blkV, blkC, Option.getD_some, Option.isSome_some])
          | (refine wpList_store_blk rfl 32 _ _ rfl w.heap.size rfl .u64 32 [0, 0, 0, 0] [0, 0, 0, 0] hR0.out rfl rfl (by kernel_rfl) ?_; intro w6 hB6 ho6; replace hB6 := qh hB6; replace ho6 := qh ho6))
        have hb5 : Hid (Below w1.heap.size w1 _) := qh (xalloc hb4.out (.cells (blkC p q bb).toArray 51))
        have hX : Hid (BlkG (w4.alloc (.cells (blkC p q bb).toArray 51)) w4.heap.size 51 (blkC p q bb)) := qh (BlkG.new w4 _ _)
        replace hI1 := qh (hI1.out.below hb5.out)
        replace hR0 := qh (hR0.out.below hb5.out)
        replace hb5 := qh (xtrans hb1.out hb5.out)
        have hcx : Hid ((w4.alloc (.cells (blkC p q bb).toArray 51)).cell? ⟨w4.heap.size, 0, none⟩ = some (.int .i64 (ff : Int))) := qh (by rw [← hfst.out]; exact hX.out.cell 0 (by show 0 < 4; omega))
        unfold blkC at hb5 hcx hI1 hR0
        generalize w4.heap.size = xb at *
        generalize w4.alloc _ = w5 at *
        clear hb3 hb4 hX hcl1
        have hgo : ∀ W, Below w5.heap.size w5 W → Below w.heap.size w W := fun W hW => xtrans hb5.out hW
        replace hgo := qh hgo
        go_wp2
        go_loopw [9, 10] (fun av iv wx => ∃ (i : Nat), i ≤ (opsL cs).length ∧ iv = .int .i64 i ∧ av = .int .i64 (nxI (((opsL cs).take i).filter (fun y => decide (ff ≤ y) && decide (y < k))).getLast?) ∧ Hid (Below w5.heap.size w5 wx)) (fun _ iv _ => 1048700 - (intOf iv).toNat)
        case atStart => exact ⟨0, by omega, rfl, rfl, qh (xrefl w5)⟩
        case round =>
          obtain ⟨i, hi, rfl, rfl, hb⟩ := hrel
          by_cases hlt : i < (opsL cs).length
          · have hltI : (i : Int) < (opsL cs).length := by omega
            obtain ⟨b1, o1, rfl, -⟩ := hI1.out.get hlt
            have hc1 : wr.cell? ⟨b1, o1 + i, none⟩ = some (.int .i64 ((opsL cs)[i] : Int)) := by
              obtain ⟨b', o', e, hc⟩ := (hI1.out.below hb.out).get hlt
              cases e; exact hc
            have hcx2 := cbel hb.out hcx.out
            have hst := ahead_step (opsL cs) ff k i hlt
            generalize (opsL cs)[i] = y at *
            generalize hP : (((opsL cs).take i).filter (fun y => decide (ff ≤ y) && decide (y < k))).getLast? = P at *
            replace hP := qh hP
            by_cases h1 : ff ≤ y
            · have h1I : (ff : Int) ≤ y := by omega
              by_cases h2 : y < k
              · have h2I : (y : Int) < k := by omega
                rw [if_pos ⟨h1, h2⟩] at hst
                replace hst := qh hst
                generalize nxI P = z at *
                clear h1 h2
                have hd1 : decide ((ff : Int) ≤ y) = true := decide_eq_true h1I
                have hd2 : decide ((y : Int) < k) = true := decide_eq_true h2I
                go_wp2_with fail
                go_quiet (fail)
                go_wp2
                go_roundw
                case rel => exact ⟨i + 1, by omega, rfl, by rw [hst.out]; rfl, qh (xdrewN hb.out _)⟩
                case measure => simp [intOf]; omega
              · have h2I : ¬ (y : Int) < k := by omega
                rw [if_neg (by rintro ⟨-, h⟩; exact h2 h)] at hst
                replace hst := qh hst
                clear h1 h2
                generalize hz : nxI P = z at *
                replace hz := qh hz
                have hd1 : decide ((ff : Int) ≤ y) = true := decide_eq_true h1I
                have hd2 : decide ((y : Int) < k) = false := decide_eq_false h2I
                go_wp2_with fail
                go_quiet (fail)
                go_wp2
                go_roundw
                case rel => exact ⟨i + 1, by omega, rfl, by rw [hst.out, ← hz.out], qh (xdrewN hb.out _)⟩
                case measure => simp [intOf]; omega
            · have h1I : ¬ (ff : Int) ≤ y := by omega
              rw [if_neg (by rintro ⟨h, -⟩; exact h1 h)] at hst
              replace hst := qh hst
              have hdn1 : decide (ff ≤ y) = false := decide_eq_false h1
              clear h1
              generalize hz : nxI P = z at *
              replace hz := qh hz
              have hd1 : decide ((ff : Int) ≤ y) = false := decide_eq_false h1I
              clear h1I
              go_wp2_with fail
              go_quiet (fail)
              go_wp2
              go_roundw
              case rel => exact ⟨i + 1, by omega, rfl, by rw [hst.out, ← hz.out], qh (xdrewN hb.out _)⟩
              case measure => simp [intOf]; omega
          · obtain rfl : i = (opsL cs).length := by omega
            have hltI : ¬ ((opsL cs).length : Int) < (opsL cs).length := by omega
            have hR1 := qh (hR0.out.below hb.out)
            have hbw := qh (hgo.out wr hb.out)
            rw [List.take_length]
            have hah : aheadN cs ff k = ((opsL cs).filter (fun y => decide (ff ≤ y) && decide (y < k))).getLast? := rfl
            rw [← hah]
            clear hah hlt
            cases hA : aheadN cs ff k with
            | none =>
              have e := hfr.out
              rw [hA] at e
              subst e
              clear hA
              unfold nxI
              go_wp2_with (refine wpList_store_blk rfl 32 _ _ rfl w.heap.size rfl .u64 32 [0, 0, 0, 0] [0, 0, 0, 0] hR1.out rfl rfl (by kernel_rfl) ?_; intro w6 hB6 ho6; replace hB6 := qh hB6; replace ho6 := qh ho6)
              refine bodyPost_ret (results_blkG2 (p := 4) rfl _ _ w.heap.size 32 _ _ rfl hB6.out hu rfl (by kernel_rfl)) rfl ⟨rfl, ?_⟩
              exact ho6.out.below hbw.out hbw.out.size (by rintro i rfl; omega)
            | some y =>
              have e := hfr.out
              rw [hA] at e
              have hp := hpush.out wr y hbw.out
              rw [pushZ_nat] at hp
              have e2 : fx = pushN cs y := e
              rw [← e2] at hp
              replace e2 := qh e2
              clear e
              unfold optV at hp
              unfold nxI
              have hy0 : ¬ (y : Int) < 0 := by omega
              clear hA hfr
              replace hp := qh hp
              go_wp2_with (first
                | (go_at_call 51; refine hp.out.mono ?_; rintro e w7 ⟨rfl, hb7⟩; replace hR1 := qh (hR1.out.below hb7); replace hbw := qh (xtrans hbw.out hb7))
                | (refine wpList_store_blk rfl 32 _ _ rfl w.heap.size rfl .u64 32 [0, 0, 0, 0] (wordL (fx.getD 0)) hR1.out rfl rfl (by kernel_rfl) ?_; intro w6 hB6 ho6; replace hB6 := qh hB6; replace ho6 := qh ho6))
              refine bodyPost_ret (results_blkG2 (p := 4) rfl _ _ w.heap.size 32 _ _ rfl hB6.out hu rfl (by kernel_rfl)) rfl ⟨rfl, ?_⟩
              exact ho6.out.below hbw.out hbw.out.size (by rintro i rfl; omega)
      · have e3 := hfo.out ⟨e1, e2⟩
        subst e3
        have d1 : ¬ (x : Int) = 86 := by omega
        have d2 : ¬ (x : Int) = 87 := by omega
        have d3 : ((x : Int) != 86) = true := by simpa using d1
        have d4 : ((x : Int) != 87) = true := by simpa using d2
        generalize (x : Int) = z at *
        clear e1 e2 hfr hfo
        go_enter Tryz.func19, Tryz.ntmps19
        go_wp2_with (first
          | (go_at_call 48; refine hops.out.mono ?_; rintro e w1 ⟨⟨v, rfl, hv⟩, hb1⟩; obtain ⟨a1, c1, rfl, hI1, -⟩ := hv.at; replace hI1 := qh hI1; clear hv hops; replace hR0 := qh (hR0.out.below hb1); replace hb1 := qh (xtrans hb0.out hb1); have hcl1 := hcc.out w1 hb1.out)
          | (go_at_call 47; refine (hin.out a1 c1 _ hI1.out).mono ?_; rintro e w2 ⟨rfl, rfl⟩)
          | (go_at_call 43; refine (hspans.out _ hb1.out).mono ?_; rintro e w3 ⟨⟨v3, rfl, hv3⟩, hb3⟩; replace hv3 := qh hv3; replace hb3 := qh hb3)
          | (go_at_call 49; refine (hof.out _ _ _ (by exact hv3.out)).mono ?_; rintro e w4 ⟨⟨p, q, rfl, -⟩, hb4⟩; replace hb4 := qh (xtrans hb3.out hb4); simp only [blkV, blkC, Option.getD_some, Option.isSome_some])
          | (refine wpList_store_blk rfl 32 _ _ rfl w.heap.size rfl .u64 32 [0, 0, 0, 0] [0, 0, 0, 0] hR0.out rfl rfl (by kernel_rfl) ?_; intro w6 hB6 ho6; replace hB6 := qh hB6; replace ho6 := qh ho6))
        refine bodyPost_ret (results_blkG2 (p := 4) rfl _ _ w.heap.size 32 _ _ rfl hB6.out hu rfl (by kernel_rfl)) rfl ⟨rfl, ?_⟩
        exact ho6.out.below hb1.out hb1.out.size (by rintro i rfl; omega)
end
section
open Go.RowKit
theorem run_storeVar_at {P : Program} (w : World) (b i : Nat) (ty : TypeId) (v : Value) (ht : (w.cell? ⟨b, i, none⟩).isSome = true) (hf : w.frozen? ⟨b, i, none⟩ = false) (hi : (P.info? ty).map (·.size) = some 1) (h1 : v.oneCell' = true) :
    (storeVar ty ⟨b, i, none⟩ v).run P w = .ok () (w.setCell ⟨b, i, none⟩ v) := by
  have := run_storeCells_cells (P := P) b i [v] 0 w (fun j hj => by
    have : j = 0 := by simpa using hj
    subst this; simpa using ht) (fun j hj => by
    have : j = 0 := by simpa using hj
    subst this; simpa using hf) (fun u hu => by rw [List.mem_singleton.1 hu]; exact h1)
  have hc : v.cells = #[v] := by cases v <;> first | rfl | cases h1
  cases hq : P.info? ty with
  | none => simp [hq] at hi
  | some k =>
    have hs : k.size = 1 := by simpa [hq] using hi
    simp only [Nat.add_zero] at this
    simp [storeVar, sizeOf, typeInfo, hq, hc, hs, this, World.setCells]
theorem wp_store_at {P : Program} {o : Oper} {a : Act} {w : World} {K : Act → World → Prop} {Q : Exit → Act → World → Prop} (ty : TypeId) (x y : Operand) (ho : o.op = .store ty x y)
    (b i : Nat) (hx : a.eval x = .pointer (some ⟨b, i, none⟩)) (T : TypeId) (vs : List Value) (v : Value) (hB : BlkG w b T vs) (hl : i < vs.length) (hy : a.eval y = v) (hi : (P.info? ty).map (·.size) = some 1) (h1 : v.oneCell' = true)
    (h : ∀ w', BlkG w' b T (vs.set i v) → Only (· = b) w w' → K (a.put o.dst undef) w') : o.wp P a w K Q := by
  unfold Oper.wp execOp
  simp only [ho, hx, hy, Instr.storeAt, Instr.sureAddr, Sem.run_bind, Sem.run_pure, Result.andThen_ok, run_storeVar_at w b i ty v (by rw [hB.cell i hl]; rfl) (hB.free i) hi h1]
  exact h _ (hB.set i v) ((Only.refl _ w).setCell _ _ rfl)
theorem wpList_store_at {P : Program} {ops : Array Oper} {rest : List Oper} {o : Oper} {a : Act} {w : World} {Q : Exit → Act → World → Prop} (hgd : o.guard = none) (ty : TypeId) (x y : Operand) (ho : o.op = .store ty x y)
    (b i : Nat) (hx : a.eval x = .pointer (some ⟨b, i, none⟩)) (T : TypeId) (vs : List Value) (v : Value) (hB : BlkG w b T vs) (hl : i < vs.length) (hy : a.eval y = v) (hi : (P.info? ty).map (·.size) = some 1) (h1 : v.oneCell' = true)
    (h : ∀ w', BlkG w' b T (vs.set i v) → Only (· = b) w w' → wpList P ops Q rest (a.put o.dst undef) w') : wpList P ops Q (o :: rest) a w :=
  wpList_plain hgd fun _ hK => wp_store_at ty x y ho b i hx T vs v hB hl hy hi h1 fun w' h1 h2 => hK _ _ (h w' h1 h2)
theorem wpList_wanted {P : Program} {ops : Array Oper} {rest : List Oper} {o : Oper} {a : Act} {w : World} {Q : Exit → Act → World → Prop} (hw : Region.wanted o (yielded ops a.tmps) = true)
    (h : ∀ K : Act → World → Prop, (∀ a w, wpList P ops Q rest a w → K a w) → o.wp P a w K Q) : wpList P ops Q (o :: rest) a w :=
  wpList_step fun K hK => by rw [if_pos hw]; exact h K hK
theorem wpList_load_blkG_g {P : Program} {ops : Array Oper} {rest : List Oper} {o : Oper} {a : Act} {w : World} {Q : Exit → Act → World → Prop} (hw : Region.wanted o (yielded ops a.tmps) = true) (ty : TypeId) (x : Operand) (ho : o.op = .load ty x)
    (b : Nat) (hx : a.eval x = .pointer (some ⟨b, 0, none⟩)) (T : TypeId) (vs : List Value) (d : TypeDesc) (hB : BlkG w b T vs) (hu : P.underlying ty = some d) (hd : (match d with | .struct _ | .array _ _ => true | _ => false) = true) (hi : (P.info? ty).map (·.size) = some vs.length)
    (h : wpList P ops Q rest (a.put o.dst (.agg vs.toArray)) w) : wpList P ops Q (o :: rest) a w :=
  wpList_wanted hw fun _ hK => wp_load_blkG ty x ho b hx T vs d hB hu hd hi (hK _ _ h)
theorem wpList_exec {P : Program} {ops : Array Oper} {rest : List Oper} {o : Oper} {a : Act} {w : World} {Q : Exit → Act → World → Prop} (hgd : o.guard = none) (v : Value) (hr : (execOp a.eval o).run P w = .ok (.value v) w) (h : wpList P ops Q rest (a.put o.dst v) w) : wpList P ops Q (o :: rest) a w :=
  wpList_plain hgd fun _ hK => by unfold Oper.wp; rw [hr]; exact hK _ _ h
end
end Go.Proofs.YtijkdabmegbcjaaGreatDoor
