/- The walk of RipeHolds. -/
import Derived.Test.YtfafancacfjodaaRipBox
import Derived.Test.YtfafancacfjodaaCutR
namespace Go.Proofs.Ytfafancacfjodaa
open Go.RowKit Go.Shelf
attribute [local go_sem] Oper.semAt_some

def HJ (w : World) (p7 : Nat) (_ : Nat → Prop) (pre : List BlkP) (W : World) : Prop :=
  Blk .u32 W p7 29 (rowI 5 (foldMix pre)) ∧ Below w.heap.size w W
theorem hj_stable (w : World) (p7 B : Nat) (hB : w.heap.size ≤ B) (hk : p7 < B) : Stable B (HJ w p7) := by
  rintro O O' s W W' ⟨h1, h4⟩ hO hon -
  exact ⟨h1.only hon (fun h => by have := hO _ h; omega), hon.below h4 h4.size (fun i h => by have := hO i h; omega)⟩
/-- How many of a round's first steps take number n. -/
def cntN (sc : Bool) (r n : Nat) : Nat → Nat
  | 0 => 0
  | i + 1 => cntN sc r n i + if takeN sc (16 * r + i) = n then 1 else 0
theorem cnt_one : ∀ sc, ∀ r < 5, ∀ n < 16, cntN sc r n 16 = 1 := by decide +kernel
theorem cnt_le (sc : Bool) (r n : Nat) : ∀ i, cntN sc r n i ≤ i
  | 0 => Nat.le_refl _
  | i + 1 => by have := cnt_le sc r n i; unfold cntN; split <;> omega

set_option maxRecDepth 100000 in
set_option maxHeartbeats 8000000 in
theorem ripeHolds_go (bs : List (BitVec 8)) (a : Option Addr) (c r n : Nat) (w : World) (hl : bs.length ≤ 200) (hr : RowAt .u8 w a (bs.map iv8)) (ha : a = none → c = 0) (hr5 : r < 5) (hn16 : n < 16) :
    Calls Try.prog 6 #[.slice a bs.length c, .int .i64 r, .int .i64 n] w (Yes w) := by
  have hlb : ¬ ((bs.length : Int) > 200) := by omega
  have hlm : bs.length < 1000000 := by omega
  have g1 : ¬ ((r : Int) < 0) := by omega
  have g2 : ¬ ((r : Int) > 4) := by omega
  have g3 : ¬ ((n : Int) < 0) := by omega
  have g4 : ¬ ((n : Int) > 15) := by omega
  have hpm := padL_mod bs
  have hpl := padL_len bs
  have hpn := padN_lt bs.length
  obtain ⟨nb, hnb⟩ : ∃ nb, (padL bs).length = 64 * nb := ⟨(padL bs).length / 64, by omega⟩
  have hnbl : nb < 1000 := by omega
  have hnb0 : 0 < nb := by omega
  have hB0 := fun W h => blocks_any bs a c W h ha hlm
  have hsumF : sumF bs = sumTo (padL bs) nb := by unfold sumF; rw [hnb, Nat.mul_div_cancel_left _ (by decide)]
  obtain ⟨zs, hzs⟩ : ∃ zs, zs = bs.map iv8 := ⟨_, rfl⟩
  have hsum := fun W q (h : RowsAt W q 0 [(a, c, zs)]) => sum_any bs (.slice (some ⟨q, 0, none⟩) 1 1) [(a, c, zs)] W (by simp [joined, hzs]) (by simp) (by omega) (.inr ⟨q, 0, rfl, h⟩)
  have htold := fun W => refTold_any (sumF bs) W
  have hrows : ∀ W, RowAt .u8 W a zs → RowsAt (W.alloc (.cells #[.slice a bs.length c] 22)) W.heap.size 0 [(a, c, zs)] := fun W h => by
    have := rowsAt_new W 22 [(a, c, zs)] (by simp; exact ⟨h, ha⟩)
    have e : zs.length = bs.length := by rw [hzs, List.length_map]
    simpa [e] using this
  have hbeg := fun W => refBegin_any W
  unfold arrV at hsum htold hbeg
  have nD : (digL (sumF bs)).length = 20 := allL_len _ _
  generalize digL (sumF bs) = DL at hsum htold nD
  have nB : (rowI 5 begR).length = 5 := rowI_len _ _
  obtain ⟨BG, hBG⟩ : ∃ l, l = rowI 5 begR := ⟨_, rfl⟩
  rw [← hBG] at hbeg nB
  rw [← hzs] at hr
  clear hpm hpl hpn
  rw [hsumF] at htold
  generalize padL bs = pd at hnb hB0 hsumF htold
  obtain ⟨SF, hSF⟩ : ∃ l, l = rowI 5 (sumTo pd nb) := ⟨_, rfl⟩
  rw [← hSF] at htold
  have nS : SF.length = 5 := by rw [hSF]; exact rowI_len _ _
  have hz0 := fun W : World => Blk.new (q := .u32) W 29 (List.replicate 5 0)
  replace hSF := Lib.hid hSF
  replace nS := Lib.hid nS
  replace hr := Lib.hid hr
  replace hB0 := Lib.hid hB0
  replace hnb := Lib.hid hnb
  replace hsumF := Lib.hid hsumF
  replace ha := Lib.hid ha
  replace hzs := Lib.hid hzs
  replace hsum := Lib.hid hsum
  replace htold := Lib.hid htold
  replace hrows := Lib.hid hrows
  replace hbeg := Lib.hid hbeg
  replace nD := Lib.hid nD
  replace nB := Lib.hid nB
  replace hBG := Lib.hid hBG
  replace hz0 := Lib.hid hz0
  refine (callsIn_wide (n := 0)).1 ?_
  refine callsIn_of_wp_marks Try.func6 rfl trivial ?_ rfl
  simp only [Try.ntmps6, List.size_toArray, List.length_cons, List.length_nil, Nat.reduceAdd, Nat.reduceSub, Array.replicate_succ, Array.replicate_zero, List.push_toArray, List.append_toArray, List.nil_append, List.cons_append]
  refine wpIn_wide.2 ?_
  go_upto_region 4 with (first
    | (go_at_call 17; refine (hbeg.out _).mono ?_; rintro e w1 ⟨rfl, hb1⟩)
    | (refine wpList_store_blk rfl 29 _ _ rfl w1.heap.size rfl .u32 29 (List.replicate 5 0) BG (hz0.out w1) rfl (by rw [nB.out]; rfl) (by rw [nB.out]; kernel_rfl) ?_; intro w2 hH2 ho2))
  have hb2 : Below w.heap.size w w2 := ho2.below (xalloc hb1 _) (xalloc hb1 _).size (by rintro i rfl; exact hb1.size)
  have s1 := hb1.size
  have s2 := ho2.size
  rw [World.size_alloc] at s2
  obtain ⟨p7, hp7⟩ : ∃ p7, p7 = w1.heap.size := ⟨_, rfl⟩
  rw [← hp7] at hH2 ⊢
  have hwp : w.heap.size ≤ p7 := by omega
  have hp2 : p7 < w2.heap.size := by omega
  have hr2 := Lib.hid (hr.out.below hb2)
  replace hH2 := Lib.hid hH2
  replace hb2 := Lib.hid hb2
  clear hz0 hbeg ho2 hb1 s1 s2 hp7
  go_upto_region 7 with (go_at_call 15; refine (hB0.out _ (by rw [← hzs.out]; exact hr2.out)).mono ?_; rintro e w4 ⟨bx, qa, qc, rfl, hc4, hr4, hge4, hbx4, hqc, hqc2, hb4⟩; have hnil := fun W => run_eql_fn_nil (P := Try.prog) 38 (by kernel_rfl) (.func 31) #[] #[.pointer (some ⟨bx, 0, none⟩)] W)
  obtain ⟨qb, qo, rfl, -⟩ := hr4 0 (by rw [List.length_map, hnb.out]; omega)
  have hge := hge4 _ rfl
  simp only at hge
  have hqb : qb < w4.heap.size := by
    obtain ⟨b', o', e1, e2⟩ := hr4 0 (by rw [List.length_map, hnb.out]; omega)
    cases e1
    exact cell_lt e2
  have s4 := hb4.size
  have hH4 := hH2.out.below hb4
  have hbw4 := xtrans hb2.out hb4
  rw [hBG.out] at hH4
  have hF0 : Blk .u32 w4 p7 29 (rowI 5 (foldMix [])) := hH4
  have h00 : HJ w p7 (fun _ => False) [] w4 := ⟨hF0, hbw4⟩
  have hst := hj_stable w p7 w4.heap.size (by omega) (by omega)
  have hr4' := Lib.hid hr4
  replace hqc := Lib.hid hqc
  replace h00 := Lib.hid h00
  clear hr4 hF0 hH4 hbw4 hb4 hB0 hge4 hH2 hb2 hr2
  go_wp2
  refine wp_mid 0 (fun a a' W' => ∃ D, a' = { a with defers := { target := .collected D, args := #[] } :: a.defers } ∧ w4.heap.size ≤ D ∧ W'.heap[D]? = some (.deferred (some [])) ∧ Blk .u32 W' p7 29 (rowI 5 (sumTo pd nb)) ∧ Below w.heap.size w W') ?range ?rest (fun _ _ h => h)
  case range =>
    refine (wpIn_wide (n := 0)).1 ?_
    refine wp_rangeB (gf := 31) (lb := #[.pointer (some ⟨bx, 0, none⟩)]) rfl (enters_of Try.func31 (by kernel_rfl) rfl) (encs := encB) (Rd := fun k => k = qb)
      (S := fun xs => xs = (List.range nb).map (blkAt pd)) (Sp := fun pre => ∃ k, k ≤ nb ∧ pre = (List.range k).map (blkAt pd)) (N := nb + 1) (inf := false) (fun k h => by omega)
      (fun W1 hb1 => blocks_seq pd bx qb qo qc nb W1 hnb.out (by omega) (cbel hb1 hc4) (hr4'.out.below hb1) hqc.out hqc2 (by have := hb1.size; omega)) (fun x => rfl) (HJ w p7) (fun _ _ _ _ => False) hst (fun _ _ _ _ _ _ h _ _ _ => h) h00.out (fun h => by cases h) ?round ?done ?stop
    case round =>
      rintro l1 O pre x1 W1 hOl hO ⟨h1, h4⟩ hlen
      obtain ⟨at', f⟩ := x1
      have hmix := fun W => mix24_any (foldMix pre) f W
      rw [← foldMix_snoc pre (at', f)] at hmix
      unfold arrV at hmix
      unfold encB arrV
      dsimp only
      have hRl : (rowI 16 f).length = 16 := rowI_len 16 f
      obtain ⟨RB, hRB⟩ : ∃ RB, RB = rowI 16 f := ⟨_, rfl⟩
      rw [← hRB] at hRl hmix ⊢
      replace hRB := Lib.hid hRB
      replace hRl := Lib.hid hRl
      replace hmix := Lib.hid hmix
      have hRi : Hid ((Try.prog.info? 30).map (·.size) = some RB.length) := Lib.hid (by rw [hRl.out]; kernel_rfl)
      have hz := Lib.hid (Blk.new (q := .u32) W1 30 (List.replicate 16 0))
      gi_wp2_with (refine wpListIn_store_blk rfl 30 _ _ rfl W1.heap.size rfl .u32 30 (List.replicate 16 0) RB hz.out rfl (by rw [hRl.out, List.length_replicate]) hRi.out ?_; intro W3 hx3 ho3)
      have hb3 : Below W1.heap.size W1 W3 := ho3.below (xalloc (xrefl W1) _) (by rw [World.size_alloc]; omega) (by rintro i rfl; omega)
      refine ⟨Below.keep hb3, fun W2 hon => ?_⟩
      have hl4 : w4.heap.size ≤ l1 := (hO l1 hOl).1
      have hlW := (hO l1 hOl).2
      have hs3 := hb3.size
      have hH2 := (h1.below hb3).only hon (by omega)
      have hx2 := hx3.only hon (by omega)
      have hb2 := Lib.hid (hon.below (xtrans h4 hb3) (xtrans h4 hb3).size (by rintro i rfl; omega))
      have hOo : Hid (∀ k, (O k ∨ k = qb) → k ≠ p7) := Lib.hid fun k h => by
        rcases h with h | h
        · have := (hO k h).1; omega
        · omega
      generalize hlFa : rowI 5 (foldMix pre) = FA at hH2 hmix
      have hFAl : FA.length = 5 := by rw [← hlFa, rowI_len]
      have hFBl : (rowI 5 (foldMix (pre ++ [(at', f)]))).length = 5 := rowI_len _ _
      have hFA : (Try.prog.info? 29).map (·.size) = some FA.length := by rw [hFAl]; kernel_rfl
      have hFB : (Try.prog.info? 29).map (·.size) = some (rowI 5 (foldMix (pre ++ [(at', f)]))).length := by rw [hFBl]; kernel_rfl
      generalize hFb : rowI 5 (foldMix (pre ++ [(at', f)])) = FB at hmix hFBl hFB
      replace hlFa := Lib.hid hlFa
      replace hFb := Lib.hid hFb
      replace hFA := Lib.hid hFA
      replace hFB := Lib.hid hFB
      replace hFAl := Lib.hid hFAl
      replace hFBl := Lib.hid hFBl
      clear h1 h4 hz hx3 ho3 hon hb3
      gi_wp2_with (first
        | (refine wpListIn_load_blk rfl 29 _ rfl p7 rfl .u32 29 FA _ _ hH2 Try.underlying29 hFA.out ?_)
        | (refine wpListIn_load_blk rfl 30 _ rfl W1.heap.size rfl .u32 30 RB _ _ hx2 Try.underlying30 hRi.out ?_)
        | (refine ⟨trivial, rfl, ?_⟩; gi_at_call 11; refine (CallsIn.inRound l1 (callsIn_wide.2 (hmix.out _))).mono ?_; rintro e W5 ⟨rfl, hb5⟩)
        | (refine wpListIn_store_blk rfl 29 _ _ rfl p7 rfl .u32 29 FA FB (hH2.below hb5) rfl (by rw [hFAl.out, hFBl.out]) hFB.out ?_; intro W6 h6 ho6))
      have hs5 := hb5.size
      refine ⟨?_, by rw [hFb.out]; exact h6, ho6.below (xtrans hb2.out hb5) (xtrans hb2.out hb5).size (by rintro i rfl; omega)⟩
      exact (Below.keep hb5).trans ⟨ho6.size, fun k hk h => ho6.same k hk (hOo.out k h)⟩
    case done =>
      rintro D xs O W hD hOD hO rfl ⟨h1, h4⟩ hK
      rw [foldMix_range] at h1
      exact ⟨.inl rfl, D, rfl, hD, hK, h1, h4⟩
    case stop =>
      rintro D c' pre O W hD hOD hO _ h
      exact h.elim
  case rest =>
    rintro a6 w6 ⟨D, rfl, hD, hK, hH6, hb6⟩
    rw [← hSF.out] at hH6
    have hr6 := Lib.hid (hr.out.below hb6)
    replace hH6 := Lib.hid hH6
    replace hb6 := Lib.hid hb6
    replace hK := Lib.hid hK
    go_wp2
    refine wp_region_growL 6 [fixd (.slice a bs.length c), argsT [(a, c, zs)], fixd (.agg (DL.map (Value.int .u8)).toArray), fixd (.agg ((SF).map (Value.int .u32)).toArray), fixd (.agg (DL.map (Value.int .u8)).toArray), fixd (.bool false)] (by kernel_rfl) (by kernel_rfl) ?_
    simp only [List.take_succ_cons, List.take_zero, List.drop_succ_cons, List.drop_zero]
    try simp only [Act.put, List.setIfInBounds_toArray, List.set_cons_succ, List.set_cons_zero, List.nil_append, List.cons_append]
    refine wpGrowV_fix _ rfl rfl (fun W hb _ => by go_simp; first | exact xrefl W | exact ⟨rfl, xrefl W⟩) ?_
    try simp only [Act.put, List.setIfInBounds_toArray, List.set_cons_succ, List.set_cons_zero, List.nil_append, List.cons_append]
    refine wpGrowV_any (argsT [(a, c, zs)]) rfl rfl (fun W hb _ => ?_) (fun v hv => ?_)
    · have hrw := hr6.out.below hb
      go_simp
      exact ⟨⟨⟨_, rfl⟩, fun b e => by cases e; exact hrows.out W hrw⟩, xalloc (xrefl W) _⟩
    obtain ⟨q1, rfl⟩ := hv
    try simp only [Act.put, List.setIfInBounds_toArray, List.set_cons_succ, List.set_cons_zero, List.nil_append, List.cons_append]
    refine wpGrowV_fix (.agg (DL.map (Value.int .u8)).toArray) rfl rfl (fun W hb hF => ?_) ?_
    · have hq := hF 1 (by kernel_rfl) (by simp) q1 rfl
      clear hF
      go_simp
      go_at_call 9
      refine (hsum.out W q1 hq).mono ?_
      rintro e w' ⟨rfl, hb'⟩
      exact ⟨rfl, hb'⟩
    try simp only [Act.put, List.setIfInBounds_toArray, List.set_cons_succ, List.set_cons_zero, List.nil_append, List.cons_append]
    refine wpGrowV_load_blk rfl 29 _ rfl p7 rfl .u32 29 (SF) _ _ (hH6.out) Try.underlying29 (by rw [nS.out]; kernel_rfl) rfl ?_
    try simp only [Act.put, List.setIfInBounds_toArray, List.set_cons_succ, List.set_cons_zero, List.nil_append, List.cons_append]
    refine wpGrowV_fix (.agg (DL.map (Value.int .u8)).toArray) rfl rfl (fun W hb _ => ?_) ?_
    · go_simp
      go_at_call 18
      refine (htold.out W).mono ?_
      rintro e w' ⟨rfl, hb'⟩
      exact ⟨rfl, hb'⟩
    try simp only [Act.put, List.setIfInBounds_toArray, List.set_cons_succ, List.set_cons_zero, List.nil_append, List.cons_append]
    refine wpGrowV_fix (.bool false) rfl rfl (fun W hb _ => ?_) ?_
    · rw [run_neq_at 24 _ (.tmp 48) (.tmp 50) rfl 5 20 .u8 .u8 DL DL rfl rfl Try.underlying24 Try.underlying5 (by kernel_rfl) (by kernel_rfl) (by kernel_rfl) nD.out nD.out, decide_eq_true rfl]
      exact ⟨rfl, xrefl W⟩
    try simp only [Act.put, List.setIfInBounds_toArray, List.set_cons_succ, List.set_cons_zero, List.nil_append, List.cons_append]
    refine wpGrowV_nil fun W7 hb7 _ => ?_
    simp only [List.length_cons, List.length_nil, Nat.zero_add]
    have hKl := (Array.getElem?_eq_some_iff.1 hK.out).1
    have hK7 := Lib.hid ((hb7.block D hKl).trans hK.out)
    have hb8 := Lib.hid (xtrans hb6.out hb7)
    clear hb7 hr6 hH6 hb6 hK hKl
    go_wp2
    go_loopw [11] (fun kv wx => ∃ k : Nat, k ≤ 2 ∧ kv = .int .i64 k ∧ Hid (wx.heap[D]? = some (.deferred (some []))) ∧ Hid (Below w.heap.size w wx)) (fun kv _ => 2 - (intOf kv).toNat)
    case atStart => exact ⟨0, by omega, rfl, hK7, hb8⟩
    case round =>
      clear hK7 hb8
      obtain ⟨k, hk, rfl, hK, hb⟩ := hrel
      by_cases hlt : k < 2
      · have hlt2 : (k : Int) < 2 := by omega
        rcases (by omega : k = 0 ∨ k = 1) with hk0 | hk0
        · have hkb : ((k : Int) == 1) = false := by rw [hk0]; rfl
          obtain ⟨sc, hsc⟩ : ∃ sc : Bool, sc = false := ⟨_, rfl⟩
          have htk : ∀ W, Calls Try.prog 10 #[.bool false] W fun e w' => e = .returned (arrV .i64 (takeL sc)) ∧ Below W.heap.size W w' := fun W => by rw [hsc]; exact takes_any false W
          replace hk0 := Lib.hid hk0
          unfold arrV at htk
          obtain ⟨TK, hTK⟩ : ∃ l, l = takeL sc := ⟨_, rfl⟩
          rw [← hTK] at htk
          have nK : TK.length = 80 := by rw [hTK]; exact allL_len _ _
          have gK : ∀ i (h : i < TK.length), TK[i] = (takeN sc i : Int) := fun i h => by subst hTK; exact allL_get _ _ _ _
          have iK : (Try.prog.info? 31).map (·.size) = some TK.length := by rw [nK]; kernel_rfl
          have hzv := zero80
          have hzl : (List.replicate 80 (0 : Int)).length = 80 := List.length_replicate
          generalize List.replicate 80 (0 : Int) = Z at hzv hzl
          have hz := fun W : World => Blk.new (q := .i64) W 31 Z
          have hl1 : Z.length = TK.length := by rw [hzl, nK]
          replace hsc := Lib.hid hsc
          replace htk := Lib.hid htk
          replace hTK := Lib.hid hTK
          replace nK := Lib.hid nK
          replace gK := Lib.hid gK
          replace iK := Lib.hid iK
          replace hz := Lib.hid hz
          replace hl1 := Lib.hid hl1
          replace hzl := Lib.hid hzl
          go_wp2_with (first
            | (go_at_call 10; refine (htk.out _).mono ?_; rintro e w5 ⟨rfl, hb5⟩)
            | (refine wpList_store_blk rfl 31 _ _ rfl w5.heap.size rfl .i64 31 Z TK (hz.out w5) rfl hl1.out.symm iK.out ?_; intro wA hA hoA))
          have s5 := hb5.size
          have hbw5 := xalloc (xtrans hb.out hb5) (Obj.cells (Z.map (Value.int .i64)).toArray 31)
          have hbA := Lib.hid (hoA.below hbw5 hbw5.size (by rintro i rfl; have := hb.out.size; omega))
          have hDl := (Array.getElem?_eq_some_iff.1 hK.out).1
          have hD5 : D < w5.heap.size := by omega
          have hK5 := (Below.heap_alloc w5 (Obj.cells (Z.map (Value.int .i64)).toArray 31) D hD5).trans ((hb5.block D hDl).trans hK.out)
          have hKA := Lib.hid ((hoA.same D (by rw [World.size_alloc]; omega) (by omega)).trans hK5)
          obtain ⟨pT, hpT⟩ : ∃ p, p = w5.heap.size := ⟨_, rfl⟩
          rw [← hpT] at hA ⊢
          replace hA := Lib.hid hA
          clear hK hb hbw5 hoA hz hb5 s5 hDl hD5 hK5 hpT hzv htk
          go_loopw [13, 14] (fun mv iv wx => ∃ i : Nat, i ≤ 16 ∧ iv = .int .i64 i ∧ mv = .int .i64 (cntN sc r n i) ∧ Hid (Blk .i64 wx pT 31 TK) ∧ Hid (wx.heap[D]? = some (.deferred (some []))) ∧ Hid (Below w.heap.size w wx)) (fun _ iv _ => 16 - (intOf iv).toNat)
          case atStart => exact ⟨0, by omega, rfl, rfl, hA, hKA, hbA⟩
          case round =>
            clear hA hKA hbA
            obtain ⟨i, hi, rfl, rfl, hB, hK, hb⟩ := hrel
            by_cases hlti : i < 16
            · have hlti2 : (i : Int) < 16 := by omega
              have ci := hB.out.cell (16 * r + i) (by rw [nK.out]; omega)
              rw [gK.out] at ci
              have q1 : (16 * (r : Int) + (i : Int)).toNat = 16 * r + i := by omega
              have q2 : 16 * (r : Int) + (i : Int) < 80 := by omega
              have q3 : 0 ≤ 16 * (r : Int) + (i : Int) := by omega
              have hcl := cnt_le sc r n i
              by_cases htn : takeN sc (16 * r + i) = n
              · have hcn : Hid (cntN sc r n (i + 1) = cntN sc r n i + 1) := Lib.hid (by rw [cntN, if_pos htn])
                rw [htn] at ci
                replace htn := Lib.hid htn
                go_wp2
                exact ⟨⟨i + 1, by omega, rfl, by rw [hcn.out]; rfl, hB, hK, hb⟩, by simp [intOf]; omega⟩
              · have hcn : Hid (cntN sc r n (i + 1) = cntN sc r n i) := Lib.hid (by rw [cntN, if_neg htn]; rfl)
                have hne : ¬ ((takeN sc (16 * r + i) : Nat) : Int) = (n : Int) := by omega
                generalize takeN sc (16 * r + i) = tv at ci hne
                clear htn
                go_wp2
                exact ⟨⟨i + 1, by omega, rfl, by rw [hcn.out], hB, hK, hb⟩, by simp [intOf]; omega⟩
            · obtain rfl : i = 16 := by omega
              have hc1 : ((cntN sc r n 16 : Nat) : Int) = 1 := by rw [cnt_one sc r hr5 n hn16]; rfl
              rw [hc1]
              clear hlti hc1
              go_wp2
              exact ⟨⟨k + 1, by omega, rfl, hK, hb⟩, by simp [intOf]; omega⟩
        · have hkb : ((k : Int) == 1) = true := by rw [hk0]; rfl
          obtain ⟨sc, hsc⟩ : ∃ sc : Bool, sc = true := ⟨_, rfl⟩
          have htk : ∀ W, Calls Try.prog 10 #[.bool true] W fun e w' => e = .returned (arrV .i64 (takeL sc)) ∧ Below W.heap.size W w' := fun W => by rw [hsc]; exact takes_any true W
          replace hk0 := Lib.hid hk0
          unfold arrV at htk
          obtain ⟨TK, hTK⟩ : ∃ l, l = takeL sc := ⟨_, rfl⟩
          rw [← hTK] at htk
          have nK : TK.length = 80 := by rw [hTK]; exact allL_len _ _
          have gK : ∀ i (h : i < TK.length), TK[i] = (takeN sc i : Int) := fun i h => by subst hTK; exact allL_get _ _ _ _
          have iK : (Try.prog.info? 31).map (·.size) = some TK.length := by rw [nK]; kernel_rfl
          have hzv := zero80
          have hzl : (List.replicate 80 (0 : Int)).length = 80 := List.length_replicate
          generalize List.replicate 80 (0 : Int) = Z at hzv hzl
          have hz := fun W : World => Blk.new (q := .i64) W 31 Z
          have hl1 : Z.length = TK.length := by rw [hzl, nK]
          replace hsc := Lib.hid hsc
          replace htk := Lib.hid htk
          replace hTK := Lib.hid hTK
          replace nK := Lib.hid nK
          replace gK := Lib.hid gK
          replace iK := Lib.hid iK
          replace hz := Lib.hid hz
          replace hl1 := Lib.hid hl1
          replace hzl := Lib.hid hzl
          go_wp2_with (first
            | (go_at_call 10; refine (htk.out _).mono ?_; rintro e w5 ⟨rfl, hb5⟩)
            | (refine wpList_store_blk rfl 31 _ _ rfl w5.heap.size rfl .i64 31 Z TK (hz.out w5) rfl hl1.out.symm iK.out ?_; intro wA hA hoA))
          have s5 := hb5.size
          have hbw5 := xalloc (xtrans hb.out hb5) (Obj.cells (Z.map (Value.int .i64)).toArray 31)
          have hbA := Lib.hid (hoA.below hbw5 hbw5.size (by rintro i rfl; have := hb.out.size; omega))
          have hDl := (Array.getElem?_eq_some_iff.1 hK.out).1
          have hD5 : D < w5.heap.size := by omega
          have hK5 := (Below.heap_alloc w5 (Obj.cells (Z.map (Value.int .i64)).toArray 31) D hD5).trans ((hb5.block D hDl).trans hK.out)
          have hKA := Lib.hid ((hoA.same D (by rw [World.size_alloc]; omega) (by omega)).trans hK5)
          obtain ⟨pT, hpT⟩ : ∃ p, p = w5.heap.size := ⟨_, rfl⟩
          rw [← hpT] at hA ⊢
          replace hA := Lib.hid hA
          clear hK hb hbw5 hoA hz hb5 s5 hDl hD5 hK5 hpT hzv htk
          go_loopw [13, 14] (fun mv iv wx => ∃ i : Nat, i ≤ 16 ∧ iv = .int .i64 i ∧ mv = .int .i64 (cntN sc r n i) ∧ Hid (Blk .i64 wx pT 31 TK) ∧ Hid (wx.heap[D]? = some (.deferred (some []))) ∧ Hid (Below w.heap.size w wx)) (fun _ iv _ => 16 - (intOf iv).toNat)
          case atStart => exact ⟨0, by omega, rfl, rfl, hA, hKA, hbA⟩
          case round =>
            clear hA hKA hbA
            obtain ⟨i, hi, rfl, rfl, hB, hK, hb⟩ := hrel
            by_cases hlti : i < 16
            · have hlti2 : (i : Int) < 16 := by omega
              have ci := hB.out.cell (16 * r + i) (by rw [nK.out]; omega)
              rw [gK.out] at ci
              have q1 : (16 * (r : Int) + (i : Int)).toNat = 16 * r + i := by omega
              have q2 : 16 * (r : Int) + (i : Int) < 80 := by omega
              have q3 : 0 ≤ 16 * (r : Int) + (i : Int) := by omega
              have hcl := cnt_le sc r n i
              by_cases htn : takeN sc (16 * r + i) = n
              · have hcn : Hid (cntN sc r n (i + 1) = cntN sc r n i + 1) := Lib.hid (by rw [cntN, if_pos htn])
                rw [htn] at ci
                replace htn := Lib.hid htn
                go_wp2
                exact ⟨⟨i + 1, by omega, rfl, by rw [hcn.out]; rfl, hB, hK, hb⟩, by simp [intOf]; omega⟩
              · have hcn : Hid (cntN sc r n (i + 1) = cntN sc r n i) := Lib.hid (by rw [cntN, if_neg htn]; rfl)
                have hne : ¬ ((takeN sc (16 * r + i) : Nat) : Int) = (n : Int) := by omega
                generalize takeN sc (16 * r + i) = tv at ci hne
                clear htn
                go_wp2
                exact ⟨⟨i + 1, by omega, rfl, by rw [hcn.out], hB, hK, hb⟩, by simp [intOf]; omega⟩
            · obtain rfl : i = 16 := by omega
              have hc1 : ((cntN sc r n 16 : Nat) : Int) = 1 := by rw [cnt_one sc r hr5 n hn16]; rfl
              rw [hc1]
              clear hlti hc1
              go_wp2
              exact ⟨⟨k + 1, by omega, rfl, hK, hb⟩, by simp [intOf]; omega⟩
      · obtain rfl : k = 2 := by omega
        clear hlt
        go_wp2_with (go_at_call 7; refine (works_any _).mono ?_; rintro e w7 ⟨rfl, b7⟩)
        have hK7 := (b7.block D (Array.getElem?_eq_some_iff.1 hK.out).1).trans hK.out
        have hput := (Only.refl (· = D) w7).putObj D (.deferred none) rfl
        have hb7 := xtrans hb.out b7
        have s24 := hp2
        refine ⟨by simp [Act.put], .inl ⟨_, _, rfl, run_takeDeferred hK7, ?_⟩⟩
        exact ⟨_, results_tmp rfl _ _ _, rfl, hput.below hb7 hb7.size (by rintro i rfl; omega)⟩

set_option maxRecDepth 100000 in
theorem ripeHolds_walk (a : Option Addr) (c : Nat) (zs : List Int) (x y : Int) (w : World) (hl : zs.length ≤ 9223372036854775807) (hr : RowAt .u8 w a zs) (ha : a = none → c = 0) (hw : ∀ z ∈ zs, (Lit.int .u8 z).wf = true) (hx : -9223372036854775808 ≤ x ∧ x ≤ 9223372036854775807) (hy : -9223372036854775808 ≤ y ∧ y ≤ 9223372036854775807) :
    Calls Try.prog 6 #[.slice a zs.length c, .int .i64 x, .int .i64 y] w (Yes w) := by
  obtain ⟨bs, hbs⟩ := bytes_of zs hw
  obtain ⟨hx1, hx2⟩ := hx
  obtain ⟨hy1, hy2⟩ := hy
  clear hw
  by_cases h : (zs.length : Int) > 200 ∨ x < 0 ∨ x > 4 ∨ y < 0 ∨ y > 15
  · replace hr := Lib.hid hr
    replace hbs := Lib.hid hbs
    by_cases h1 : (zs.length : Int) > 200
    · clear h
      refine (callsIn_wide (n := 0)).1 ?_
      refine callsIn_of_wp_marks Try.func6 rfl trivial ?_ rfl
      simp only [Try.ntmps6, List.size_toArray, List.length_cons, List.length_nil, Nat.reduceAdd, Nat.reduceSub, Array.replicate_succ, Array.replicate_zero, List.push_toArray, List.append_toArray, List.nil_append, List.cons_append]
      refine wpIn_wide.2 ?_
      go_wp2_with (go_at_call 7; refine (works_any _).mono ?_; rintro e w3 ⟨rfl, b3⟩)
      exact ⟨_, results_tmp rfl _ _ _, rfl, b3⟩
    · by_cases h2 : x < 0
      · clear h
        refine (callsIn_wide (n := 0)).1 ?_
        refine callsIn_of_wp_marks Try.func6 rfl trivial ?_ rfl
        simp only [Try.ntmps6, List.size_toArray, List.length_cons, List.length_nil, Nat.reduceAdd, Nat.reduceSub, Array.replicate_succ, Array.replicate_zero, List.push_toArray, List.append_toArray, List.nil_append, List.cons_append]
        refine wpIn_wide.2 ?_
        go_wp2_with (go_at_call 7; refine (works_any _).mono ?_; rintro e w3 ⟨rfl, b3⟩)
        exact ⟨_, results_tmp rfl _ _ _, rfl, b3⟩
      · by_cases h3 : x > 4
        · clear h
          refine (callsIn_wide (n := 0)).1 ?_
          refine callsIn_of_wp_marks Try.func6 rfl trivial ?_ rfl
          simp only [Try.ntmps6, List.size_toArray, List.length_cons, List.length_nil, Nat.reduceAdd, Nat.reduceSub, Array.replicate_succ, Array.replicate_zero, List.push_toArray, List.append_toArray, List.nil_append, List.cons_append]
          refine wpIn_wide.2 ?_
          go_wp2_with (go_at_call 7; refine (works_any _).mono ?_; rintro e w3 ⟨rfl, b3⟩)
          exact ⟨_, results_tmp rfl _ _ _, rfl, b3⟩
        · by_cases h4 : y < 0
          · clear h
            refine (callsIn_wide (n := 0)).1 ?_
            refine callsIn_of_wp_marks Try.func6 rfl trivial ?_ rfl
            simp only [Try.ntmps6, List.size_toArray, List.length_cons, List.length_nil, Nat.reduceAdd, Nat.reduceSub, Array.replicate_succ, Array.replicate_zero, List.push_toArray, List.append_toArray, List.nil_append, List.cons_append]
            refine wpIn_wide.2 ?_
            go_wp2_with (go_at_call 7; refine (works_any _).mono ?_; rintro e w3 ⟨rfl, b3⟩)
            exact ⟨_, results_tmp rfl _ _ _, rfl, b3⟩
          · have h5 : y > 15 := by omega
            clear h
            refine (callsIn_wide (n := 0)).1 ?_
            refine callsIn_of_wp_marks Try.func6 rfl trivial ?_ rfl
            simp only [Try.ntmps6, List.size_toArray, List.length_cons, List.length_nil, Nat.reduceAdd, Nat.reduceSub, Array.replicate_succ, Array.replicate_zero, List.push_toArray, List.append_toArray, List.nil_append, List.cons_append]
            refine wpIn_wide.2 ?_
            go_wp2_with (go_at_call 7; refine (works_any _).mono ?_; rintro e w3 ⟨rfl, b3⟩)
            exact ⟨_, results_tmp rfl _ _ _, rfl, b3⟩
  · obtain ⟨r, rfl⟩ := Int.eq_ofNat_of_zero_le (show 0 ≤ x by omega)
    obtain ⟨n, rfl⟩ := Int.eq_ofNat_of_zero_le (show 0 ≤ y by omega)
    have hbl : bs.length = zs.length := by rw [hbs]; simp
    have := ripeHolds_go bs a c r n w (by omega) (by rw [← hbs]; exact hr) ha (by omega) (by omega)
    rwa [hbl] at this
end Go.Proofs.Ytfafancacfjodaa
